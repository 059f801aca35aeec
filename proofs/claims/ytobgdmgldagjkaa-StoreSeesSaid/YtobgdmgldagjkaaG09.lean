/- An element is put into its place: a slice grows by one, its end is moved, and one is stored. -/
import Derived.Test.YtobgdmgldagjkaaG08
set_option linter.unusedVariables false
set_option linter.unusedSimpArgs false
set_option maxRecDepth 100000
set_option maxHeartbeats 4000000
set_option linter.defProp false
section
namespace Go.Vm
theorem zld {y d k : Nat} (h : k ≤ y) : jR y (some (.d (.int .i64 (k : Int)))) d = some k := by
 have := zna (n := y) (d := d) (i := (k : Int)) (by omega) (by omega)
 rw [this, Int.toNat_natCast]
theorem zk8 {P : Program} {S : Store} {t e : TypeId} {v z : V} {l : List V} {k : Nat} (hu : P.underlying t = some (.slice e)) (hz : (sz P e).isSome = true) (hf : ∀ x ∈ l ++ [z], zZ P e x = true) (h : OwnS S v e (l ++ [z])) (hk : k ≤ l.length) (hi : intT P t = false) : ∃ id, v = .rs id 0 (l.length + 1) ∧ S[id]? = some (.row (l ++ [z]) e) ∧
  wD P S t v (some (.d (.int .i64 ((k + 1 : Nat) : Int)))) none = some (.rs id (k + 1) (l.length - k)) ∧
  wD P S t v (some (.d (.int .i64 (k : Int)))) none = some (.rs id k (l.length + 1 - k)) ∧
  copyV P S t t (.rs id (k + 1) (l.length - k)) (.rs id k (l.length + 1 - k)) = some (.d (.int .i64 ((l.length - k : Nat) : Int)), S.set id (.row ((l ++ [z]).take (k + 1) ++ l.drop k) e)) := by
 rcases h with ⟨rfl, hh⟩ | ⟨id, hv, h1⟩
 ·simp at hh
 have hlen : (l ++ [z]).length = l.length + 1 := by simp
 rw [hlen] at hv
 subst hv
 have h3 : rowT S id e = true := by simp only [rowT, h1, beq_self_eq_true]
 refine ⟨id, rfl, h1, ?_, ?_, ?_⟩
 ·have hb := zld (y := l.length + 1) (d := 0) (k := k + 1) (by omega)
  have e : l.length + 1 - (k + 1) = l.length - k := by omega
  simp only [wD, hu, zb2, hb, h3, hz, Bool.and_self, if_true, Nat.zero_add, e]
 ·have hb := zld (y := l.length + 1) (d := 0) (k := k) (by omega)
  simp only [wD, hu, zb2, hb, h3, hz, Bool.and_self, if_true, Nat.zero_add]
 ·have hle : k + (l.length + 1 - k) ≤ l.length + 1 := by omega
  have hle2 : k + 1 + (l.length - k) ≤ l.length + 1 := by omega
  have hsrc : ((l ++ [z]).drop k).take (l.length + 1 - k) = (l ++ [z]).drop k := List.take_of_length_le (by rw [List.length_drop, hlen]; omega)
  have hfit : ((l ++ [z]).drop k).all (zZ P e) = true := by
   rw [List.all_eq_true]
   intro x hx
   exact hf x (List.mem_of_mem_drop hx)
  have hmin : min ((l ++ [z]).drop k).length (l.length - k) = l.length - k := by
   rw [List.length_drop, hlen]; omega
  have e2 : ((l ++ [z]).drop k).take (l.length - k) = l.drop k := by
   rw [List.drop_append_of_le_length hk, List.take_append_of_le_length (by simp), List.take_of_length_le (by simp)]
  have e3 : (l ++ [z]).drop (k + 1 + (l.length - k)) = [] := List.drop_eq_nil_of_le (by rw [hlen]; omega)
  simp only [copyV, srcV, kA, hu, hi, h1, hlen, hle, hle2, if_true, hsrc, hfit, hz, Bool.and_self, hmin, decide_true, e2, e3, List.append_nil, Bool.false_eq_true, if_false]
theorem zk0 {α : Type} {l : List α} {k : Nat} {s z : α} (hk : k ≤ l.length) : ((l ++ [z]).take (k + 1) ++ l.drop k).set k s = l.take k ++ s :: l.drop k := by
 have h1 : (l ++ [z]).take (k + 1) = l.take k ++ [(l ++ [z])[k]'(by simp; omega)] := by
  rw [List.take_add_one, List.getElem?_eq_getElem (by simp; omega), List.take_append_of_le_length hk]
  rfl
 rw [h1, List.append_assoc, List.set_append_right _ _ (by rw [List.length_take]; omega)]
 have h2 : k - (l.take k).length = 0 := by rw [List.length_take]; omega
 rw [h2]
 simp
theorem zja : ∀ {l m : List Int}, l.Pairwise (· < ·) → m.Pairwise (· < ·) → (∀ x, x ∈ l ↔ x ∈ m) → l = m
 | [], [], _, _, _ => rfl
 | [], b :: m, _, _, h => by have := (h b).2 List.mem_cons_self; cases this
 | a :: l, [], _, _, h => by have := (h a).1 List.mem_cons_self; cases this
 | a :: l, b :: m, hl, hm, h => by
  rw [List.pairwise_cons] at hl hm
  have hab : a = b := by
   rcases List.mem_cons.1 ((h a).1 List.mem_cons_self) with e | e
   ·exact e
   ·rcases List.mem_cons.1 ((h b).2 List.mem_cons_self) with e' | e'
    ·exact e'.symm
    ·have h1 := hm.1 a e
     have h2 := hl.1 b e'
     omega
  subst hab
  rw [zja hl.2 hm.2 fun x => ?_]
  constructor
  ·intro hx
   have hn := hl.1 x hx
   rcases List.mem_cons.1 ((h x).1 (List.mem_cons_of_mem _ hx)) with e | e
   ·omega
   ·exact e
  ·intro hx
   have hn := hm.1 x hx
   rcases List.mem_cons.1 ((h x).2 (List.mem_cons_of_mem _ hx)) with e | e
   ·omega
   ·exact e
theorem zng {l : List Int} {k : Nat} {n : Int} (hl : l.Pairwise (· < ·)) (hk : k ≤ l.length) (h1 : ∀ x ∈ l.take k, x < n) (h2 : ∀ x ∈ l.drop k, n < x) : (l.take k ++ n :: l.drop k).Pairwise (· < ·) := by
 rw [List.pairwise_append, List.pairwise_cons]
 refine ⟨hl.sublist (List.take_sublist ..), ⟨h2, hl.sublist (List.drop_sublist ..)⟩, ?_⟩
 intro x hx y hy
 rcases List.mem_cons.1 hy with rfl | hy
 ·exact h1 x hx
 ·have := h1 x hx
  have := h2 y hy
  omega
theorem zjo {l : List Int} {k : Nat} {n x : Int} : x ∈ l.take k ++ n :: l.drop k ↔ x ∈ l ∨ x = n := by
 rw [List.mem_append, List.mem_cons]
 constructor
 ·rintro (h | rfl | h)
  ·exact .inl (List.mem_of_mem_take h)
  ·exact .inr rfl
  ·exact .inl (List.mem_of_mem_drop h)
 ·rintro (h | rfl)
  ·rw [← List.take_append_drop k l] at h
   rcases List.mem_append.1 h with h | h
   ·exact .inl h
   ·exact .inr (.inr h)
  ·exact .inr (.inl rfl)
end Go.Vm
end
section
namespace Go.Proofs.Ytobgdmgldagjkaa
open Go.Vm
def z72 (C : CS) (n : Int) : Prop := 1 ≤ n ∧ n ≤ C.last ∧ ∀ ch ∈ C.list, ch.id ≠ n
instance {C : CS} {n : Int} : Decidable (z72 C n) := by unfold z72; infer_instance
theorem zwz (c : Nat) (id : Int) (S0 : Store) (L : V) (es : List V) (l : List Chg) (hL : OwnS S0 L 122 es) (hl : ChgsV S0 es l) (hes : es.length ≤ 1000000) (R : Post) :
 ∀ (k i : Nat) (S : Store) (g0 g2 g3 g4 g5 g6 g7 g8 g9 gM gF gG gB gC gA gE gH gI gD gL gN gK gJ gT gU gQ gR gS gV gX gY : V), l.length - i = k → i ≤ l.length → Keep S0 S → (∀ ch ∈ l.take i, ch.id ≠ id) →
 (∀ S' i' g0 g2 g3 g4 g5 g6 g7 g8 g9 gM gF gG gB gC gA gE gH gI gD gL gN gK gJ gT gU gQ gR gS gV gX gY, Keep S0 S' → (∀ ch ∈ l, ch.id ≠ id) → R (.exit 0) (g0 :: (.d (.int .i64 id)) :: g2 :: g3 :: g4 :: g5 :: g6 :: g7 :: g8 :: g9 :: gM :: gF :: gG :: gB :: gC :: gA :: gE :: gH :: gI :: gD :: gL :: gN :: gK :: gJ :: L :: (.d (.int .i64 (l.length : Int))) :: i' :: gT :: gU :: gQ :: gR :: gS :: gV :: gX :: gY :: []) S' []) →
 (∀ S' T', Keep S0 S' → ¬ (∀ ch ∈ l, ch.id ≠ id) → T'.getD 4 (.tup []) = .d (.bool false) → R .ret T' S' []) →
 Wp cfg (.loop (lpOf (Try.f64.body.getD .skip) 0)) (g0 :: (.d (.int .i64 id)) :: g2 :: g3 :: g4 :: g5 :: g6 :: g7 :: g8 :: g9 :: gM :: gF :: gG :: gB :: gC :: gA :: gE :: gH :: gI :: gD :: gL :: gN :: gK :: gJ :: L :: (.d (.int .i64 (l.length : Int))) :: (.d (.int .i64 (i : Int))) :: gT :: gU :: gQ :: gR :: gS :: gV :: gX :: gY :: []) S [] R := by
 intro k
 have hll := hl.1
 induction k with
 | zero =>
  intro i S g0 g2 g3 g4 g5 g6 g7 g8 g9 gM gF gG gB gC gA gE gH gI gD gL gN gK gJ gT gU gQ gR gS gV gX gY hk hi hK hA hR hR2
  have hie : i = l.length := by omega
  subst hie
  rw [List.take_length] at hA
  rw [zR]
  refine zJ ?_
  conv => arg 2; whnf
  simp (maxSteps:=1000000) (disch:=first|assumption|omega|rfl) only [↓gp, gc, Nat.reduceAdd]
  exact hR _ _ _ _ _ _ _ _ _ _ _ _ _ _ _ _ _ _ _ _ _ _ _ _ _ _ _ _ _ _ _ _ _ hK hA
 | succ k ih =>
  intro i S g0 g2 g3 g4 g5 g6 g7 g8 g9 gM gF gG gB gC gA gE gH gI gD gL gN gK gJ gT gU gQ gR gS gV gX gY hk hi hK hA hR hR2
  have hlt : i < l.length := by omega
  have hlt2 : i < es.length := by omega
  obtain ⟨id', hix, hre, _⟩ := wH u119 s122 (hK.own hL) hlt2
  obtain ⟨dv, nv, he, hd5, hn3⟩ := hl.2 i es[i] l[i] (List.getElem?_eq_getElem hlt2) (List.getElem?_eq_getElem hlt)
  rw [he] at hre
  have h3 : IntKind.i64.wrap ((i : Int) + 1) = ((i + 1 : Nat) : Int) := by rw [wrap64 (by omega)]; omega
  generalize ha : S.length = a
  rw [zR]
  refine zJ ?_
  conv => arg 2; whnf
  by_cases hno : l[i].id = id
  ·have hde : ∀ i' : Decidable (l[i].id = id), @decide (l[i].id = id) i' = true := fun i' => decide_eq_true hno
   simp (maxSteps:=1000000) (disch:=first|assumption|omega|rfl) only [↓gp, gc, Nat.reduceAdd, hix, hre, z2n, z122, z23, z48, ha, rA0 ha, pA0 ha, z1j, z19, hde, h3]
   exact hR2 _ _ (Keep.app hK) (fun hh => hh l[i] (List.getElem_mem hlt) hno) rfl
  ·have hde : ∀ i' : Decidable (l[i].id = id), @decide (l[i].id = id) i' = false := fun i' => decide_eq_false hno
   simp (maxSteps:=1000000) (disch:=first|assumption|omega|rfl) only [↓gp, gc, Nat.reduceAdd, hix, hre, z2n, z122, z23, z48, ha, rA0 ha, pA0 ha, z1j, z19, hde, h3]
   refine ih (i + 1) _ _ _ _ _ _ _ _ _ _ _ _ _ _ _ _ _ _ _ _ _ _ _ _ _ _ _ _ _ _ _ _ (by omega) (by omega) (Keep.app hK) ?_ hR hR2
   intro ch hch
   rw [List.take_add_one, List.getElem?_eq_getElem hlt] at hch
   rcases List.mem_append.1 hch with hch | hch
   ·exact hA ch hch
   ·simp only [Option.toList_some, List.mem_singleton] at hch
    subst hch
    exact hno
theorem zir (S : Store) (c r m : Nat) (C : CS) (h0 : CacheAt S c r m C) (id : Int) : EvS cfg 64 [.ref c 0 0, .d (.int .i64 id)] S (fun o S' => Keep S S' ∧ o = .ret (.d (.bool (decide (z72 C id))))) := by
 obtain ⟨d, L, es, vs, f, z, w, q, h, hq⟩ := h0
 refine qN rfl zwr ?_
 show Wp cfg (Try.f64.body.getD .skip) ((.ref c 0 0) :: (.d (.int .i64 id)) :: uZ (uZ (uZ ((.tup []) :: (.tup []) :: (.tup []) :: [])))) S [] _
 unfold uZ
 conv => arg 2; whnf
 rw [zR]
 have hc0 : rowE S c 0 = some (cacV d m L C.last) := zK (e := 150) h.hc
 have hln : zI Try.prog S .len [119] [L] = some (.val (.d (.int .i64 (C.list.length : Int))) S 0) := by rw [wB u119 h.lo, h.lc.1]
 by_cases h1 : id < 1
 ·have e : decide (z72 C id) = false := decide_eq_false (fun hh => by have := hh.1; omega)
  rw [e]
  simp (maxSteps:=1000000) (disch:=first|assumption|omega|rfl) only [↓gp, gc, Nat.reduceAdd, z73, vW, hc0, lc3, zL]
  exact ⟨rfl, _, rfl, Keep.refl, rfl⟩
 ·by_cases h2 : id > (C.last : Int)
  ·have e : decide (z72 C id) = false := decide_eq_false (fun hh => by have := hh.2.1; omega)
   rw [e]
   simp (maxSteps:=1000000) (disch:=first|assumption|omega|rfl) only [↓gp, gc, Nat.reduceAdd, z73, vW, hc0, lc3, zL]
   exact ⟨rfl, _, rfl, Keep.refl, rfl⟩
  ·simp (maxSteps:=1000000) (disch:=first|assumption|omega|rfl) only [↓gp, gc, Nat.reduceAdd, z73, z5o, vW, hc0, lc2, lc3, hln, zL]
   refine zwz c id S L es C.list h.lo h.lc (by have h1 := h.wq; have h2 := h.ok.last; have h3 := h.lc.1; omega) _ C.list.length 0 S _ _ _ _ _ _ _ _ _ _ _ _ _ _ _ _ _ _ _ _ _ _ _ _ _ _ _ _ _ _ _ rfl (Nat.zero_le _) Keep.refl (by simp) ?_ ?_
   ·intro S' i' g0 g2 g3 g4 g5 g6 g7 g8 g9 gM gF gG gB gC gA gE gH gI gD gL gN gK gJ gT gU gQ gR gS gV gX gY hK hA
    have e : decide (z72 C id) = true := decide_eq_true ⟨by omega, by omega, hA⟩
    rw [e]
    simp (maxSteps:=1000000) (disch:=first|assumption|omega|rfl) only [↓gp, gc, Nat.reduceAdd]
    exact ⟨rfl, _, rfl, hK, rfl⟩
   ·intro S' T' hK hA hT
    have e : decide (z72 C id) = false := decide_eq_false (fun hh => hA hh.2.2)
    rw [e]
    exact ⟨rfl, _, hT ▸ rfl, hK, rfl⟩
theorem zW {l : List Int} : (zX l).length = l.length := by unfold zX; simp
theorem zrx (c : Nat) (n : Int) (S : Store) (v nd x11 x12 : V) (out : List Int) (ho : OwnS S v 3 (zX out)) (hlen : out.length ≤ 100000) (R : Post) :
 ∀ (p : Nat) (g1 g2 g3 g4 g5 g7 gB gC gA gE gH gI gD gL gN gK gJ gO gP gW gT gU gQ gR gS gV gX gY gf gg gZ gh gj gk gn gr gz hZ xC hH hJ hU hY xA xB xD xE xF xG xH xI xJ xK xL xM xN xO xP xQ xR xS xT xU xV xW : V), p ≤ out.length → (∀ x ∈ out.drop p, n < x) →
 (∀ (p' : Nat) (hp : p' ≤ out.length) g1 g2 g3 g4 g5 g7 gB gC gA gE gH gI gD gL gN gK gJ gO gP gW gT gU gQ gR gS gV gX gY gf gg gZ gh gj gk gn gr gz hZ xC hH hJ hU hY xA xB xD xE xF xG xH xI xJ xK xL xM xN xO xP xQ xR xS xT xU xV xW, (∀ x ∈ out.drop p', n < x) → (∀ h : 0 < p', out[p' - 1]'(by omega) ≤ n) → R (.exit 2) ((.ref c 0 0) :: g1 :: g2 :: g3 :: g4 :: g5 :: v :: g7 :: (.d (.int .i64 n)) :: (.d (.int .i64 (p' : Int))) :: nd :: x11 :: x12 :: gB :: gC :: gA :: gE :: gH :: gI :: gD :: gL :: gN :: gK :: gJ :: gO :: gP :: gW :: gT :: gU :: gQ :: gR :: gS :: gV :: gX :: gY :: gf :: gg :: gZ :: gh :: gj :: gk :: gn :: gr :: gz :: hZ :: xC :: hH :: hJ :: hU :: hY :: xA :: xB :: xD :: xE :: xF :: xG :: xH :: xI :: xJ :: xK :: xL :: xM :: xN :: xO :: xP :: xQ :: xR :: xS :: xT :: xU :: xV :: xW :: []) S []) →
 Wp cfg (.loop (lpOf (Try.f105.body.getD .skip) 2)) ((.ref c 0 0) :: g1 :: g2 :: g3 :: g4 :: g5 :: v :: g7 :: (.d (.int .i64 n)) :: (.d (.int .i64 (p : Int))) :: nd :: x11 :: x12 :: gB :: gC :: gA :: gE :: gH :: gI :: gD :: gL :: gN :: gK :: gJ :: gO :: gP :: gW :: gT :: gU :: gQ :: gR :: gS :: gV :: gX :: gY :: gf :: gg :: gZ :: gh :: gj :: gk :: gn :: gr :: gz :: hZ :: xC :: hH :: hJ :: hU :: hY :: xA :: xB :: xD :: xE :: xF :: xG :: xH :: xI :: xJ :: xK :: xL :: xM :: xN :: xO :: xP :: xQ :: xR :: xS :: xT :: xU :: xV :: xW :: []) S [] R := by
 intro p
 induction p with
 | zero =>
  intro g1 g2 g3 g4 g5 g7 gB gC gA gE gH gI gD gL gN gK gJ gO gP gW gT gU gQ gR gS gV gX gY gf gg gZ gh gj gk gn gr gz hZ xC hH hJ hU hY xA xB xD xE xF xG xH xI xJ xK xL xM xN xO xP xQ xR xS xT xU xV xW hp hd hR
  rw [zR]
  refine zJ ?_
  conv => arg 2; whnf
  simp only [nl0]
  simp (maxSteps:=1000000) (disch:=first|assumption|omega|rfl) only [↓gp, gc, Nat.reduceAdd]
  exact hR 0 hp _ _ _ _ _ _ _ _ _ _ _ _ _ _ _ _ _ _ _ _ _ _ _ _ _ _ _ _ _ _ _ _ _ _ _ _ _ _ _ _ _ _ _ _ _ _ _ _ _ _ _ _ _ _ _ _ _ _ _ _ _ _ _ _ _ hd (fun h => absurd h (by omega))
 | succ p ih =>
  intro g1 g2 g3 g4 g5 g7 gB gC gA gE gH gI gD gL gN gK gJ gO gP gW gT gU gQ gR gS gV gX gY gf gg gZ gh gj gk gn gr gz hZ xC hH hJ hU hY xA xB xD xE xF xG xH xI xJ xK xL xM xN xO xP xQ xR xS xT xU xV xW hp hd hR
  have hlt : p < out.length := by omega
  obtain ⟨id, hix, hre, _⟩ := wH Try.underlying46 (by kernel_rfl) ho (i := p) (by rw [zW]; exact hlt)
  have hre : rowE S id p = some (.d (.int .i64 out[p])) := by rw [hre]; simp [zX]
  have hs : IntKind.i64.wrap (((p + 1 : Nat) : Int) - 1) = (p : Int) := by rw [wrap64 (by omega)]; omega
  have hpos : ((p + 1 : Nat) : Int) > 0 := by omega
  rw [zR]
  refine zJ ?_
  conv => arg 2; whnf
  by_cases hgt : out[p] > n
  ·have hde : ∀ i' : Decidable (out[p] > n), @decide (out[p] > n) i' = true := fun i' => decide_eq_true hgt
   simp (maxSteps:=1000000) (disch:=first|assumption|omega|rfl) only [↓gp, gc, Nat.reduceAdd, hs, hix, hre, ld3r, hde]
   refine ih _ _ _ _ _ _ _ _ _ _ _ _ _ _ _ _ _ _ _ _ _ _ _ _ _ _ _ _ _ _ _ _ _ _ _ _ _ _ _ _ _ _ _ _ _ _ _ _ _ _ _ _ _ _ _ _ _ _ _ _ _ _ _ _ _ (by omega) ?_ hR
   intro x hx
   rw [List.drop_eq_getElem_cons hlt] at hx
   rcases List.mem_cons.1 hx with rfl | hx
   ·exact hgt
   ·exact hd x hx
  ·have hde : ∀ i' : Decidable (out[p] > n), @decide (out[p] > n) i' = false := fun i' => decide_eq_false hgt
   simp (maxSteps:=1000000) (disch:=first|assumption|omega|rfl) only [↓gp, gc, Nat.reduceAdd, hs, hix, hre, ld3r, hde]
   exact hR (p + 1) hp _ _ _ _ _ _ _ _ _ _ _ _ _ _ _ _ _ _ _ _ _ _ _ _ _ _ _ _ _ _ _ _ _ _ _ _ _ _ _ _ _ _ _ _ _ _ _ _ _ _ _ _ _ _ _ _ _ _ _ _ _ _ _ _ _ hd (fun h => by
    have e : out[p + 1 - 1]'(by omega) = out[p] := by simp
    rw [e]; omega)
def NdOk (C : CS) (l out : List Int) : Prop := out.Pairwise (· < ·) ∧ ∀ x, x ∈ out ↔ x ∈ l ∧ ¬ z72 C x
theorem i46 : intT Try.prog 46 = false := by kernel_rfl
theorem s3z : (sz Try.prog 3).isSome = true := by kernel_rfl
theorem zol {S : Store} : bs1 Try.prog S 46 (.d (.int .i64 0)) = some (.val (.ts [.int .i64 0]) S 0) := by kernel_rfl
theorem wI {α : Type} {l : List α} {i : Nat} (h : i < l.length) : l.take (i + 1) = l.take i ++ [l[i]] := by rw [List.take_add_one, List.getElem?_eq_getElem h]; rfl
theorem NdOk.skip {C : CS} {l out : List Int} {n : Int} (h : NdOk C l out) (hn : z72 C n ∨ n ∈ out) : NdOk C (l ++ [n]) out := by
 refine ⟨h.1, fun x => ?_⟩
 rw [h.2 x, List.mem_append, List.mem_singleton]
 constructor
 ·exact fun ⟨a, b⟩ => ⟨.inl a, b⟩
 ·rintro ⟨a | rfl, b⟩
  ·exact ⟨a, b⟩
  ·rcases hn with hn | hn
   ·exact absurd hn b
   ·exact (h.2 x).1 hn
theorem NdOk.ins {C : CS} {l out : List Int} {n : Int} {p : Nat} (h : NdOk C l out) (hp : p ≤ out.length) (hn : ¬ z72 C n) (h1 : ∀ x ∈ out.take p, x < n) (h2 : ∀ x ∈ out.drop p, n < x) : NdOk C (l ++ [n]) (out.take p ++ n :: out.drop p) := by
 refine ⟨zng h.1 hp h1 h2, fun x => ?_⟩
 rw [zjo, h.2 x, List.mem_append, List.mem_singleton]
 constructor
 ·rintro (⟨a, b⟩ | rfl)
  ·exact ⟨.inl a, b⟩
  ·exact ⟨.inr rfl, hn⟩
 ·rintro ⟨a | rfl, b⟩
  ·exact .inl ⟨a, b⟩
  ·exact .inr rfl
theorem zxn (c r m : Nat) (C : CS) (S0 : Store) (hC0 : CacheAt S0 c r m C) (nd : V) (l : List Int) (hnd : OwnS S0 nd 3 (zX l)) (hl : l.length ≤ 50000) (R : Post) :
 ∀ (k i : Nat) (S : Store) (v6 : V) (out : List Int) (g1 g2 g3 g4 g5 g7 g8 g9 gB gC gA gE gH gI gD gL gN gK gJ gO gP gW gT gU gQ gR gS gV gX gY gf gg gZ gh gj gk gn gr gz hZ xC hH hJ hU hY xA xB xD xE xF xG xH xI xJ xK xL xM xN xO xP xQ xR xS xT xU xV xW : V), l.length - i = k → i ≤ l.length → Keep S0 S → (∀ j, j < S0.length → NotAt v6 j) → OwnS S v6 3 (zX out) → out.length ≤ i → NdOk C (l.take i) out → (∀ x ∈ l.take i, 1 ≤ x ∧ x ≤ C.last) →
 (∀ S v6 out i' g1 g2 g3 g4 g5 g7 g8 g9 gB gC gA gE gH gI gD gL gN gK gJ gO gP gW gT gU gQ gR gS gV gX gY gf gg gZ gh gj gk gn gr gz hZ xC hH hJ hU hY xA xB xD xE xF xG xH xI xJ xK xL xM xN xO xP xQ xR xS xT xU xV xW, Keep S0 S → OwnS S v6 3 (zX out) → NdOk C l out → (∀ x ∈ l, 1 ≤ x ∧ x ≤ C.last) → R (.exit 0) ((.ref c 0 0) :: g1 :: g2 :: g3 :: g4 :: g5 :: v6 :: g7 :: g8 :: g9 :: nd :: (.d (.int .i64 (l.length : Int))) :: i' :: gB :: gC :: gA :: gE :: gH :: gI :: gD :: gL :: gN :: gK :: gJ :: gO :: gP :: gW :: gT :: gU :: gQ :: gR :: gS :: gV :: gX :: gY :: gf :: gg :: gZ :: gh :: gj :: gk :: gn :: gr :: gz :: hZ :: xC :: hH :: hJ :: hU :: hY :: xA :: xB :: xD :: xE :: xF :: xG :: xH :: xI :: xJ :: xK :: xL :: xM :: xN :: xO :: xP :: xQ :: xR :: xS :: xT :: xU :: xV :: xW :: []) S []) →
 (∀ S T, Keep S0 S → ¬ (∀ x ∈ l, 1 ≤ x ∧ x ≤ C.last) → T.getD 4 (.tup []) = .ts [] → T.getD 5 (.tup []) = .d (.bool false) → R .ret T S []) →
 Wp cfg (.loop (lpOf (Try.f105.body.getD .skip) 0)) ((.ref c 0 0) :: g1 :: g2 :: g3 :: g4 :: g5 :: v6 :: g7 :: g8 :: g9 :: nd :: (.d (.int .i64 (l.length : Int))) :: (.d (.int .i64 (i : Int))) :: gB :: gC :: gA :: gE :: gH :: gI :: gD :: gL :: gN :: gK :: gJ :: gO :: gP :: gW :: gT :: gU :: gQ :: gR :: gS :: gV :: gX :: gY :: gf :: gg :: gZ :: gh :: gj :: gk :: gn :: gr :: gz :: hZ :: xC :: hH :: hJ :: hU :: hY :: xA :: xB :: xD :: xE :: xF :: xG :: xH :: xI :: xJ :: xK :: xL :: xM :: xN :: xO :: xP :: xQ :: xR :: xS :: xT :: xU :: xV :: xW :: []) S [] R := by
 intro k
 induction k with
 | zero =>
  intro i S v6 out g1 g2 g3 g4 g5 g7 g8 g9 gB gC gA gE gH gI gD gL gN gK gJ gO gP gW gT gU gQ gR gS gV gX gY gf gg gZ gh gj gk gn gr gz hZ xC hH hJ hU hY xA xB xD xE xF xG xH xI xJ xK xL xM xN xO xP xQ xR xS xT xU xV xW hk hi hK hN ho hol hok hrg hR hR2
  have hie : i = l.length := by omega
  subst hie
  rw [List.take_length] at hok hrg
  rw [zR]
  refine zJ ?_
  conv => arg 2; whnf
  simp (maxSteps:=1000000) (disch:=first|assumption|omega|rfl) only [↓gp, gc, Nat.reduceAdd]
  exact hR _ _ _ _ _ _ _ _ _ _ _ _ _ _ _ _ _ _ _ _ _ _ _ _ _ _ _ _ _ _ _ _ _ _ _ _ _ _ _ _ _ _ _ _ _ _ _ _ _ _ _ _ _ _ _ _ _ _ _ _ _ _ _ _ _ _ _ _ _ _ _ hK ho hok hrg
 | succ k ih =>
  intro i S v6 out g1 g2 g3 g4 g5 g7 g8 g9 gB gC gA gE gH gI gD gL gN gK gJ gO gP gW gT gU gQ gR gS gV gX gY gf gg gZ gh gj gk gn gr gz hZ xC hH hJ hU hY xA xB xD xE xF xG xH xI xJ xK xL xM xN xO xP xQ xR xS xT xU xV xW hk hi hK hN ho hol hok hrg hR hR2
  have hlt : i < l.length := by omega
  have h3 : IntKind.i64.wrap ((i : Int) + 1) = ((i + 1 : Nat) : Int) := by rw [wrap64 (by omega)]; omega
  obtain ⟨id, hix, hre, _⟩ := wH Try.underlying46 s3z (hK.own hnd) (i := i) (by rw [zW]; exact hlt)
  have hre : rowE S id i = some (.d (.int .i64 l[i])) := by rw [hre]; simp [zX]
  have hC := hC0.keep hK
  obtain ⟨d, L, es, vs, f, z, w, q, hp, _⟩ := hC
  have hc0 : rowE S c 0 = some (cacV d m L C.last) := zK (e := 150) hp.hc
  have hmem : l[i] ∈ l := List.getElem_mem hlt
  rw [zR]
  refine zJ ?_
  conv => arg 2; whnf
  by_cases h1 : l[i] < 1
  ·simp (maxSteps:=1000000) (disch:=first|assumption|omega|rfl) only [↓gp, gc, Nat.reduceAdd, hix, hre, ld3r, vW, hc0, lc3, zL]
   exact hR2 _ _ hK (fun hh => by have := (hh _ hmem).1; omega) rfl rfl
  ·by_cases h2 : l[i] > (C.last : Int)
   ·simp (maxSteps:=1000000) (disch:=first|assumption|omega|rfl) only [↓gp, gc, Nat.reduceAdd, hix, hre, ld3r, vW, hc0, lc3, zL]
    exact hR2 _ _ hK (fun hh => by have := (hh _ hmem).2; omega) rfl rfl
   ·obtain ⟨o, S2, ⟨hK2, rfl⟩, hE⟩ := qR (zir S c r m C (hC0.keep hK) l[i])
    have hE := fun {ops dst k T F Q} => zQ (ops := ops) (dst := dst) (l := k) (T := T) (F := F) (Q := Q) rfl hE
    have hK02 := hK.trans hK2
    have ho2 := hK2.own ho
    have hrg2 : ∀ x ∈ l.take (i + 1), 1 ≤ x ∧ x ≤ C.last := by
     intro x hx
     rw [wI hlt] at hx
     rcases List.mem_append.1 hx with hx | hx
     ·exact hrg x hx
     ·simp only [List.mem_singleton] at hx; subst hx; exact ⟨by omega, by omega⟩
    by_cases hd : z72 C l[i]
    ·rw [decide_eq_true hd] at hE
     simp (maxSteps:=1000000) (disch:=first|assumption|omega|rfl) only [↓gp, gc, Nat.reduceAdd, hix, hre, ld3r, vW, hc0, lc3, zL, hE, bo64, h3]
     exact ih (i + 1) S2 v6 out _ _ _ _ _ _ _ _ _ _ _ _ _ _ _ _ _ _ _ _ _ _ _ _ _ _ _ _ _ _ _ _ _ _ _ _ _ _ _ _ _ _ _ _ _ _ _ _ _ _ _ _ _ _ _ _ _ _ _ _ _ _ _ _ _ _ _ (by omega) (by omega) hK02 hN ho2 (by omega) (by rw [wI hlt]; exact hok.skip (.inl hd)) hrg2 hR hR2
    ·rw [decide_eq_false hd] at hE
     have hln : zI Try.prog S2 .len [46] [v6] = some (.val (.d (.int .i64 (out.length : Int))) S2 0) := by rw [wB Try.underlying46 ho2, zW]
     simp (maxSteps:=1000000) (disch:=first|assumption|omega|rfl) only [↓gp, gc, Nat.reduceAdd, hix, hre, ld3r, vW, hc0, lc3, zL, hE, bo64, hln]
     refine zrx c l[i] S2 v6 nd _ _ out ho2 (by omega) _ out.length _ _ _ _ _ _ _ _ _ _ _ _ _ _ _ _ _ _ _ _ _ _ _ _ _ _ _ _ _ _ _ _ _ _ _ _ _ _ _ _ _ _ _ _ _ _ _ _ _ _ _ _ _ _ _ _ _ _ _ _ _ _ _ _ _ (Nat.le_refl _) (by simp) ?_
     intro p hp g1 g2 g3 g4 g5 g7 gB gC gA gE gH gI gD gL gN gK gJ gO gP gW gT gU gQ gR gS gV gX gY gf gg gZ gh gj gk gn gr gz hZ xC hH hJ hU hY xA xB xD xE xF xG xH xI xJ xK xL xM xN xO xP xQ xR xS xT xU xV xW hd1 hle
     by_cases heq : ∃ h : 0 < p, out[p - 1]'(by omega) = l[i]
     ·obtain ⟨hp0, heq⟩ := heq
      obtain ⟨id2, hix2, hre2, _⟩ := wH Try.underlying46 s3z ho2 (i := p - 1) (by rw [zW]; omega)
      have hre2 : rowE S2 id2 (p - 1) = some (.d (.int .i64 l[i])) := by rw [hre2]; simp [zX, heq]
      have hs : IntKind.i64.wrap ((p : Int) - 1) = ((p - 1 : Nat) : Int) := by rw [wrap64 (by omega)]; omega
      have hpos : (p : Int) > 0 := by omega
      simp (maxSteps:=1000000) (disch:=first|assumption|omega|rfl) only [↓gp, gc, Nat.reduceAdd, hs, hix2, hre2, ld3r, zL, h3]
      refine ih (i + 1) S2 v6 out _ _ _ _ _ _ _ _ _ _ _ _ _ _ _ _ _ _ _ _ _ _ _ _ _ _ _ _ _ _ _ _ _ _ _ _ _ _ _ _ _ _ _ _ _ _ _ _ _ _ _ _ _ _ _ _ _ _ _ _ _ _ _ _ _ _ _ (by omega) (by omega) hK02 hN ho2 (by omega) ?_ hrg2 hR hR2
      rw [wI hlt]
      exact hok.skip (.inr (heq ▸ List.getElem_mem _))
     ·obtain ⟨v', S3, cst, hap, ho3, hfr, hlen3⟩ := ap46 0 ho2 (by omega)
      have hos : OwnS S3 v' 3 (zX out ++ [.d (.int .i64 0)]) := by
       have : (out ++ [0]).map (fun x => V.d (D.int .i64 x)) = zX out ++ [.d (.int .i64 0)] := by unfold zX; simp
       rw [← this]; exact ho3
      have hfit : ∀ x ∈ zX out ++ [.d (.int .i64 0)], zZ Try.prog 3 x = true := by
       intro x hx
       rcases List.mem_append.1 hx with hx | hx
       ·obtain ⟨y, _, rfl⟩ := List.mem_map.1 hx
        exact za2 y
       ·simp only [List.mem_singleton] at hx
        subst hx
        exact za2 0
      obtain ⟨id3, hv', hrow, hs1, hs2, hcp⟩ := zk8 (k := p) Try.underlying46 s3z hfit hos (by rw [zW]; exact hp) i46
      rw [zW] at hs1 hs2 hcp hv'
      subst hv'
      have hw1 : IntKind.i64.wrap ((p : Int) + 1) = ((p + 1 : Nat) : Int) := by rw [wrap64 (by omega)]; omega
      have hN3 : ∀ j, j < S0.length → NotAt (.rs id3 0 (out.length + 1)) j := fun j hj => by
       exact (hfr j _ (List.getElem?_eq_getElem (Nat.lt_of_lt_of_le hj hK02.len)) (hN j hj)).2
      have hK03 : Keep S0 S3 := fun j o hj => (hfr j o (hK02 j o hj) (hN j (zN hj))).1
      have hid3 : S0.length ≤ id3 := by
       rcases Nat.lt_or_ge id3 S0.length with hh | hh
       ·exact absurd rfl (hN3 id3 hh 0 (out.length + 1))
       ·exact hh
      have hil := zN hrow
      generalize hX : (zX out ++ [V.d (D.int .i64 0)]).take (p + 1) ++ (zX out).drop p = X at hcp
      have hXl : X.length = out.length + 1 := by rw [← hX]; simp [zX]; omega
      have hXe : ∀ y ∈ X, ∃ a : Int, y = .d (.int .i64 a) := by
       intro y hy
       rw [← hX] at hy
       rcases List.mem_append.1 hy with hy | hy
       ·rcases List.mem_append.1 (List.mem_of_mem_take hy) with hy | hy
        ·obtain ⟨a, _, rfl⟩ := List.mem_map.1 hy; exact ⟨a, rfl⟩
        ·simp only [List.mem_singleton] at hy; exact ⟨0, hy⟩
       ·obtain ⟨a, _, rfl⟩ := List.mem_map.1 (List.mem_of_mem_drop hy); exact ⟨a, rfl⟩
      have hXs : X.set p (.d (.int .i64 l[i])) = zX (out.take p ++ l[i] :: out.drop p) := by
       rw [← hX, zk0 (by rw [zW]; exact hp)]
       unfold zX
       simp [List.map_take, List.map_drop]
      have hrow4 : (S3.set id3 (.row X 3))[id3]? = some (.row X 3) := List.getElem?_set_self hil
      obtain ⟨id4, hix4, hre4, _⟩ := wH (i := p) Try.underlying46 s3z (show OwnS (S3.set id3 (.row X 3)) (.rs id3 0 (out.length + 1)) 3 X from .inr ⟨id3, by rw [hXl], hrow4⟩) (by omega)
      have hid4 : id4 = id3 := by
       have h5 : rowT (S3.set id3 (.row X 3)) id3 3 = true := by simp only [rowT, hrow4, beq_self_eq_true]
       have h6 : (sz Try.prog 3).isSome = true := s3z
       simp only [zE, intOf?, Try.underlying46, h5, h6] at hix4
       rw [if_pos ⟨⟨by omega, by omega⟩, trivial, trivial⟩] at hix4
       simp only [Option.some.injEq, V.ref.injEq] at hix4
       exact hix4.1.symm
      subst hid4
      obtain ⟨a4, ha4⟩ := hXe X[p] (List.getElem_mem _)
      rw [ha4] at hre4
      have hst4 : ∀ b : Int, z02 Try.prog (S3.set id4 (.row X 3)) 3 (.ref id4 p 0) (.d (.int .i64 b)) = z6a (S3.set id4 (.row X 3)) id4 p (some (.d (.int .i64 b))) := fun b => by rw [z60 hre4, st3]
      have hp4 : ∀ y, jF (S3.set id4 (.row X 3)) id4 p y = some (S3.set id4 (.row (X.set p y) 3)) := fun y => by
       simp only [jF, hrow4, List.set_set]
      have fin : ∀ g1 g2 g3 g4 g5 g7 g8 g9 gB gC gA gE gH gI gD gL gN gK gJ gO gP gW gT gU gQ gR gS gV gX gY gf gg gZ gh gj gk gn gr gz hZ xC hH hJ hU hY xA xB xD xE xF xG xH xI xJ xK xL xM xN xO xP xQ xR xS xT xU xV xW, Wp cfg (.loop (lpOf (Try.f105.body.getD .skip) 0)) ((.ref c 0 0) :: g1 :: g2 :: g3 :: g4 :: g5 :: (.rs id4 0 (out.length + 1)) :: g7 :: g8 :: g9 :: nd :: (.d (.int .i64 (l.length : Int))) :: (.d (.int .i64 ((i + 1 : Nat) : Int))) :: gB :: gC :: gA :: gE :: gH :: gI :: gD :: gL :: gN :: gK :: gJ :: gO :: gP :: gW :: gT :: gU :: gQ :: gR :: gS :: gV :: gX :: gY :: gf :: gg :: gZ :: gh :: gj :: gk :: gn :: gr :: gz :: hZ :: xC :: hH :: hJ :: hU :: hY :: xA :: xB :: xD :: xE :: xF :: xG :: xH :: xI :: xJ :: xK :: xL :: xM :: xN :: xO :: xP :: xQ :: xR :: xS :: xT :: xU :: xV :: xW :: []) (S3.set id4 (.row (X.set p (.d (.int .i64 l[i]))) 3)) [] R := by
       intro g1 g2 g3 g4 g5 g7 g8 g9 gB gC gA gE gH gI gD gL gN gK gJ gO gP gW gT gU gQ gR gS gV gX gY gf gg gZ gh gj gk gn gr gz hZ xC hH hJ hU hY xA xB xD xE xF xG xH xI xJ xK xL xM xN xO xP xQ xR xS xT xU xV xW
       refine ih (i + 1) _ _ (out.take p ++ l[i] :: out.drop p) _ _ _ _ _ _ _ _ _ _ _ _ _ _ _ _ _ _ _ _ _ _ _ _ _ _ _ _ _ _ _ _ _ _ _ _ _ _ _ _ _ _ _ _ _ _ _ _ _ _ _ _ _ _ _ _ _ _ _ _ _ _ _ _ _ _ _ (by omega) (by omega) (hK03.set hid3) hN3 ?_ ?_ ?_ hrg2 hR hR2
       ·rw [hXs]
        exact .inr ⟨id4, by rw [zW]; simp; omega, List.getElem?_set_self hil⟩
       ·simp; omega
       ·rw [wI hlt]
        refine hok.ins hp hd ?_ hd1
        intro x hx
        obtain ⟨j, hj, rfl⟩ := List.mem_iff_getElem.1 hx
        rw [List.length_take] at hj
        rw [List.getElem_take]
        have hp0 : 0 < p := by omega
        have hle := hle hp0
        have hne : out[p - 1]'(by omega) ≠ l[i] := fun hh => heq ⟨hp0, hh⟩
        rcases Nat.lt_or_ge j (p - 1) with hjp | hjp
        ·have := List.pairwise_iff_getElem.1 hok.1 j (p - 1) (by omega) (by omega) hjp
         omega
        ·have : j = p - 1 := by omega
         subst this
         omega
      by_cases hp0 : 0 < p
      ·obtain ⟨id2, hix2, hre2, _⟩ := wH Try.underlying46 s3z ho2 (i := p - 1) (by rw [zW]; omega)
       have hre2 : rowE S2 id2 (p - 1) = some (.d (.int .i64 (out[p - 1]'(by omega)))) := by rw [hre2]; simp [zX]
       have hs : IntKind.i64.wrap ((p : Int) - 1) = ((p - 1 : Nat) : Int) := by rw [wrap64 (by omega)]; omega
       have hpos : (p : Int) > 0 := by omega
       have hne : ∀ i' : Decidable (out[p - 1]'(by omega) = l[i]), @decide (out[p - 1]'(by omega) = l[i]) i' = false := fun i' => decide_eq_false (fun hh => heq ⟨hp0, hh⟩)
       simp (maxSteps:=1000000) (disch:=first|assumption|omega|rfl) only [↓gp, gc, Nat.reduceAdd, hs, hix2, hre2, ld3r, hne, zol, hap]
       refine kH (is := [0, 1, 2, 3, 4, 5, 6, 7]) (h := 0) (by kernel_rfl) (by kernel_rfl) ?_
       simp (maxSteps:=1000000) (disch:=first|assumption|omega|rfl) only [List.replicate_zero, eq_self, gd, ga, Nat.reduceAdd, ↓gq, vso, List.append_nil, Option.map_none, hw1, hs1, hs2, hcp]
       refine ⟨fun _ => by kernel_rfl, by kernel_rfl, ?_⟩
       simp (maxSteps:=1000000) (disch:=first|assumption|omega|rfl) only [↓gp, gc, Nat.reduceAdd, hix4, hst4, hp4, h3]
       exact fin _ _ _ _ _ _ _ _ _ _ _ _ _ _ _ _ _ _ _ _ _ _ _ _ _ _ _ _ _ _ _ _ _ _ _ _ _ _ _ _ _ _ _ _ _ _ _ _ _ _ _ _ _ _ _ _ _ _ _ _ _ _ _ _ _ _ _
      ·have hpos : ¬ (p : Int) > 0 := by omega
       simp (maxSteps:=1000000) (disch:=first|assumption|omega|rfl) only [↓gp, gc, Nat.reduceAdd, zol, hap]
       refine kH (is := [0, 1, 2, 3, 4, 5, 6, 7]) (h := 0) (by kernel_rfl) (by kernel_rfl) ?_
       simp (maxSteps:=1000000) (disch:=first|assumption|omega|rfl) only [List.replicate_zero, eq_self, gd, ga, Nat.reduceAdd, ↓gq, vso, List.append_nil, Option.map_none, hw1, hs1, hs2, hcp]
       refine ⟨fun _ => by kernel_rfl, by kernel_rfl, ?_⟩
       simp (maxSteps:=1000000) (disch:=first|assumption|omega|rfl) only [↓gp, gc, Nat.reduceAdd, hix4, hst4, hp4, h3]
       exact fin _ _ _ _ _ _ _ _ _ _ _ _ _ _ _ _ _ _ _ _ _ _ _ _ _ _ _ _ _ _ _ _ _ _ _ _ _ _ _ _ _ _ _ _ _ _ _ _ _ _ _ _ _ _ _ _ _ _ _ _ _ _ _ _ _ _ _
theorem zs2 : IK Try.prog 178 3 3 (.d (.int .i64 0)) := ⟨by kernel_rfl, fun _ _ => rfl, fun _ => by kernel_rfl, z3⟩
def MG (S : Store) (m : Nat) (g : Int → Int) : Prop := ∃ f, MpI S m f ∧ ∀ n, (f n).getD (.d (.int .i64 0)) = .d (.int .i64 (g n))
def updG (g : Int → Int) (k v : Int) : Int → Int := fun x => if x = k then v else g x
section
variable {S S' : Store} {m : Nat} {g : Int → Int}
theorem MG.keep (h : MG S m g) (hk : Keep S S') : MG S' m g := by
 obtain ⟨f, h1, h2⟩ := h
 exact ⟨f, hk.map h1, h2⟩
theorem MG.nil {c : Nat} (h : S[m]? = some (.mp [] c)) : MG S m (fun _ => 0) := ⟨_, MpI.nil h, fun _ => rfl⟩
theorem MG.look (h : MG S m g) (x : Int) : wA Try.prog S 178 (.mr m) (.d (.int .i64 x)) false = some (.d (.int .i64 (g x))) := by
 obtain ⟨f, h1, h2⟩ := h
 rw [(h1.look zs2 x).2, h2 x]
theorem MG.put (h : MG S m g) (x k : Int) : ∃ o, jO Try.prog S 178 (.mr m) (.d (.int .i64 x)) (.d (.int .i64 k)) = some (S.set m o) ∧ MG (S.set m o) m (updG g x k) ∧ (∃ es c, o = .mp es c) := by
 obtain ⟨f, h1, h2⟩ := h
 obtain ⟨o, a, b, c⟩ := h1.put zs2 x (v := .d (.int .i64 k)) rfl
 refine ⟨o, a, ⟨_, b, fun n => ?_⟩, c⟩
 unfold updI updG
 by_cases e : n = x
 ·rw [if_pos e, if_pos e]; rfl
 ·rw [if_neg e, if_neg e]; exact h2 n
theorem MG.del (h : MG S m g) (x : Int) : ∃ o, z07 Try.prog S 178 (.mr m) (.d (.int .i64 x)) = some (S.set m o) ∧ MG (S.set m o) m (updG g x 0) ∧ (∃ es c, o = .mp es c) := by
 obtain ⟨f, h1, h2⟩ := h
 obtain ⟨o, a, b, c⟩ := h1.del zs2 x
 refine ⟨o, a, ⟨_, b, fun n => ?_⟩, c⟩
 unfold updI updG
 by_cases e : n = x
 ·rw [if_pos e, if_pos e]; rfl
 ·rw [if_neg e, if_neg e]; exact h2 n
end
theorem zsf (S0 : Store) (L : V) (es : List V) (l : List Chg) (hL : OwnS S0 L 122 es) (hl : ChgsV S0 es l) (hes : es.length ≤ 1000000) (mm : Nat) (hmm : S0.length ≤ mm) (R : Post) :
 ∀ (k i : Nat) (S : Store) (g : Int → Int) (g0 g1 g2 g4 g5 g6 gM gF gG gB gC gA gE gH gI gD gL : V), l.length - i = k → i ≤ l.length → Keep S0 S → MG S mm g → (∀ n, g n ≠ 0 ↔ ∃ ch ∈ l.take i, ch.id = n) →
 (∀ S' g' i' g0 g1 g2 g4 g5 g6 gM gF gG gB gC gA gE gH gI gD gL, Keep S0 S' → MG S' mm g' → (∀ n, g' n ≠ 0 ↔ ∃ ch ∈ l, ch.id = n) → R (.exit 0) (g0 :: g1 :: g2 :: (.mr mm) :: g4 :: g5 :: g6 :: L :: (.d (.int .i64 (l.length : Int))) :: i' :: gM :: gF :: gG :: gB :: gC :: gA :: gE :: gH :: gI :: gD :: gL :: []) S' []) →
 Wp cfg (.loop (lpOf (Try.f132.body.getD .skip) 0)) (g0 :: g1 :: g2 :: (.mr mm) :: g4 :: g5 :: g6 :: L :: (.d (.int .i64 (l.length : Int))) :: (.d (.int .i64 (i : Int))) :: gM :: gF :: gG :: gB :: gC :: gA :: gE :: gH :: gI :: gD :: gL :: []) S [] R := by
 intro k
 have hll := hl.1
 induction k with
 | zero =>
  intro i S g g0 g1 g2 g4 g5 g6 gM gF gG gB gC gA gE gH gI gD gL hk hi hK hm hg hR
  have hie : i = l.length := by omega
  subst hie
  rw [List.take_length] at hg
  rw [zR]
  refine zJ ?_
  conv => arg 2; whnf
  simp (maxSteps:=1000000) (disch:=first|assumption|omega|rfl) only [↓gp, gc, Nat.reduceAdd]
  exact hR _ _ _ _ _ _ _ _ _ _ _ _ _ _ _ _ _ _ _ _ hK hm hg
 | succ k ih =>
  intro i S g g0 g1 g2 g4 g5 g6 gM gF gG gB gC gA gE gH gI gD gL hk hi hK hm hg hR
  have hlt : i < l.length := by omega
  have hlt2 : i < es.length := by omega
  obtain ⟨id', hix, hre, _⟩ := wH u119 s122 (hK.own hL) hlt2
  obtain ⟨dv, nv, he, hd5, hn3⟩ := hl.2 i es[i] l[i] (List.getElem?_eq_getElem hlt2) (List.getElem?_eq_getElem hlt)
  rw [he] at hre
  have h3 : IntKind.i64.wrap ((i : Int) + 1) = ((i + 1 : Nat) : Int) := by rw [wrap64 (by omega)]; omega
  have hm1 : MG (S ++ [.row [.agg [.d (.int .i64 l[i].id), .d (.int .i64 l[i].no), .d (.int .i64 l[i].at_), dv, nv]] 122]) mm g := hm.keep Keep.refl.app
  obtain ⟨o, ho, hm2, _⟩ := hm1.put l[i].id ((i + 1 : Nat) : Int)
  generalize ha : S.length = a
  rw [zR]
  refine zJ ?_
  conv => arg 2; whnf
  simp (maxSteps:=1000000) (disch:=first|assumption|omega|rfl) only [↓gp, gc, Nat.reduceAdd, hix, hre, z2n, z122, z23, z48, ha, rA0 ha, pA0 ha, z1j, z19, h3, ho]
  refine ih (i + 1) _ _ _ _ _ _ _ _ _ _ _ _ _ _ _ _ _ _ _ (by omega) (by omega) ((Keep.app hK).set hmm) hm2 ?_ hR
  intro n
  rw [wI hlt]
  unfold updG
  by_cases e : n = l[i].id
  ·rw [if_pos e]
   exact ⟨fun _ => ⟨l[i], List.mem_append_right _ (List.mem_singleton.2 rfl), e.symm⟩, fun _ => by omega⟩
  ·rw [if_neg e, hg n]
   constructor
   ·exact fun ⟨ch, h1, h2⟩ => ⟨ch, List.mem_append_left _ h1, h2⟩
   ·rintro ⟨ch, h1, h2⟩
    rcases List.mem_append.1 h1 with h1 | h1
    ·exact ⟨ch, h1, h2⟩
    ·simp only [List.mem_singleton] at h1
     subst h1
     exact absurd h2.symm e
theorem zfk (S : Store) (L : V) (es : List V) (l : List Chg) (hL : OwnS S L 122 es) (hl : ChgsV S es l) (hes : es.length ≤ 1000000) : EvS cfg 132 [L] S (fun o S' => Keep S S' ∧ ∃ m g, o = .ret (.mr m) ∧ S.length ≤ m ∧ MG S' m g ∧ ∀ n, g n ≠ 0 ↔ ∃ ch ∈ l, ch.id = n) := by
 refine qN rfl zqz ?_
 show Wp cfg (Try.f132.body.getD .skip) (L :: uZ (uZ [])) S [] _
 unfold uZ
 conv => arg 2; whnf
 rw [zR]
 have hln : ∀ s, zI Try.prog (S ++ s) .len [119] [L] = some (.val (.d (.int .i64 (l.length : Int))) (S ++ s) 0) := fun s => by rw [wB u119 ((Keep.refl.app (l := s)).own hL), hl.1]
 simp (maxSteps:=1000000) (disch:=first|assumption|omega|rfl) only [↓gp, gc, Nat.reduceAdd, ↓z37, hln]
 refine zsf S L es l hL hl hes S.length (Nat.le_refl _) _ l.length 0 _ (fun _ => 0) _ _ _ _ _ _ _ _ _ _ _ _ _ _ _ _ _ rfl (Nat.zero_le _) Keep.refl.app (MG.nil (c := 0) (by rw [List.getElem?_append_right (Nat.le_refl _), Nat.sub_self]; rfl)) (fun n => by simp) ?_
 intro S' g' i' g0 g1 g2 g4 g5 g6 gM gF gG gB gC gA gE gH gI gD gL hK hm hg
 simp (maxSteps:=1000000) (disch:=first|assumption|omega|rfl) only [↓gp, gc, Nat.reduceAdd]
 exact ⟨rfl, _, rfl, hK, _, _, rfl, Nat.le_refl _, hm, hg⟩
theorem zxz (n : Int) (S : Store) (v : V) (out : List Int) (ho : OwnS S v 3 (zX out)) (hlen : out.length ≤ 300000) (R : Post) :
 ∀ (p : Nat) (g2 g3 g4 g6 g7 g8 g9 gM gF gG gB gC gA gE gH gI gD gL gN gK gJ gO gP gW gT gU gQ gR gS gV gX gY gf gg gZ gh gj gk gn gr gz hZ xC hH hJ hU hY : V), p ≤ out.length → (∀ x ∈ out.drop p, n ≤ x) →
 (∀ (p' : Nat) (hp : p' ≤ out.length) g2 g3 g4 g6 g7 g8 g9 gM gF gG gB gC gA gE gH gI gD gL gN gK gJ gO gP gW gT gU gQ gR gS gV gX gY gf gg gZ gh gj gk gn gr gz hZ xC hH hJ hU hY, R (.exit 0) (v :: (.d (.int .i64 n)) :: g2 :: g3 :: g4 :: (.d (.int .i64 (p' : Int))) :: g6 :: g7 :: g8 :: g9 :: gM :: gF :: gG :: gB :: gC :: gA :: gE :: gH :: gI :: gD :: gL :: gN :: gK :: gJ :: gO :: gP :: gW :: gT :: gU :: gQ :: gR :: gS :: gV :: gX :: gY :: gf :: gg :: gZ :: gh :: gj :: gk :: gn :: gr :: gz :: hZ :: xC :: hH :: hJ :: hU :: hY :: []) S []) →
 Wp cfg (.loop (lpOf (Try.f135.body.getD .skip) 0)) (v :: (.d (.int .i64 n)) :: g2 :: g3 :: g4 :: (.d (.int .i64 (p : Int))) :: g6 :: g7 :: g8 :: g9 :: gM :: gF :: gG :: gB :: gC :: gA :: gE :: gH :: gI :: gD :: gL :: gN :: gK :: gJ :: gO :: gP :: gW :: gT :: gU :: gQ :: gR :: gS :: gV :: gX :: gY :: gf :: gg :: gZ :: gh :: gj :: gk :: gn :: gr :: gz :: hZ :: xC :: hH :: hJ :: hU :: hY :: []) S [] R := by
 intro p
 induction p with
 | zero =>
  intro g2 g3 g4 g6 g7 g8 g9 gM gF gG gB gC gA gE gH gI gD gL gN gK gJ gO gP gW gT gU gQ gR gS gV gX gY gf gg gZ gh gj gk gn gr gz hZ xC hH hJ hU hY hp hd hR
  rw [zR]
  refine zJ ?_
  conv => arg 2; whnf
  simp only [nl0]
  simp (maxSteps:=1000000) (disch:=first|assumption|omega|rfl) only [↓gp, gc, Nat.reduceAdd]
  exact hR 0 hp _ _ _ _ _ _ _ _ _ _ _ _ _ _ _ _ _ _ _ _ _ _ _ _ _ _ _ _ _ _ _ _ _ _ _ _ _ _ _ _ _ _ _ _ _ _ _
 | succ p ih =>
  intro g2 g3 g4 g6 g7 g8 g9 gM gF gG gB gC gA gE gH gI gD gL gN gK gJ gO gP gW gT gU gQ gR gS gV gX gY gf gg gZ gh gj gk gn gr gz hZ xC hH hJ hU hY hp hd hR
  have hlt : p < out.length := by omega
  obtain ⟨id, hix, hre, _⟩ := wH Try.underlying46 s3z ho (i := p) (by rw [zW]; exact hlt)
  have hre : rowE S id p = some (.d (.int .i64 out[p])) := by rw [hre]; simp [zX]
  have hs : IntKind.i64.wrap (((p + 1 : Nat) : Int) - 1) = (p : Int) := by rw [wrap64 (by omega)]; omega
  have hpos : ((p + 1 : Nat) : Int) > 0 := by omega
  rw [zR]
  refine zJ ?_
  conv => arg 2; whnf
  by_cases hgt : out[p] ≥ n
  ·have hde : ∀ i' : Decidable (out[p] ≥ n), @decide (out[p] ≥ n) i' = true := fun i' => decide_eq_true hgt
   simp (maxSteps:=1000000) (disch:=first|assumption|omega|rfl) only [↓gp, gc, Nat.reduceAdd, hs, hix, hre, ld3r, hde]
   refine ih _ _ _ _ _ _ _ _ _ _ _ _ _ _ _ _ _ _ _ _ _ _ _ _ _ _ _ _ _ _ _ _ _ _ _ _ _ _ _ _ _ _ _ _ _ _ _ (by omega) ?_ hR
   intro x hx
   rw [List.drop_eq_getElem_cons hlt] at hx
   rcases List.mem_cons.1 hx with rfl | hx
   ·exact hgt
   ·exact hd x hx
  ·have hde : ∀ i' : Decidable (out[p] ≥ n), @decide (out[p] ≥ n) i' = false := fun i' => decide_eq_false hgt
   simp (maxSteps:=1000000) (disch:=first|assumption|omega|rfl) only [↓gp, gc, Nat.reduceAdd, hs, hix, hre, ld3r, hde]
   exact hR (p + 1) hp _ _ _ _ _ _ _ _ _ _ _ _ _ _ _ _ _ _ _ _ _ _ _ _ _ _ _ _ _ _ _ _ _ _ _ _ _ _ _ _ _ _ _ _ _ _ _
theorem zfb (S : Store) (v : V) (out : List Int) (n : Int) (ho2 : OwnS S v 3 (zX out)) (hlen : out.length ≤ 300000) : EvS cfg 135 [v, .d (.int .i64 n)] S (fun o S' => S.length ≤ S'.length ∧ (∀ j q, S[j]? = some q → NotAt v j → S'[j]? = some q) ∧ ∃ v' out', o = .ret v' ∧ OwnS S' v' 3 (zX out') ∧ (∀ j, j < S.length → NotAt v j → NotAt v' j) ∧ (∀ x, x ∈ out' ↔ x ∈ out ∨ x = n) ∧ out'.length ≤ out.length + 1) := by
 refine qN rfl zri ?_
 show Wp cfg (Try.f135.body.getD .skip) (v :: (.d (.int .i64 n)) :: uZ (uZ (uZ (uZ ((.tup []) :: (.tup []) :: (.tup []) :: (.tup []) :: (.tup []) :: (.tup []) :: (.tup []) :: (.tup []) :: []))))) S [] _
 unfold uZ
 conv => arg 2; whnf
 rw [zR]
 have hln : zI Try.prog S .len [46] [v] = some (.val (.d (.int .i64 (out.length : Int))) S 0) := by rw [wB Try.underlying46 ho2, zW]
 simp (maxSteps:=1000000) (disch:=first|assumption|omega|rfl) only [↓gp, gc, Nat.reduceAdd, hln]
 refine zxz n S v out ho2 hlen _ out.length _ _ _ _ _ _ _ _ _ _ _ _ _ _ _ _ _ _ _ _ _ _ _ _ _ _ _ _ _ _ _ _ _ _ _ _ _ _ _ _ _ _ _ _ _ _ _ (Nat.le_refl _) (by simp) ?_
 intro p hp g2 g3 g4 g6 g7 g8 g9 gM gF gG gB gC gA gE gH gI gD gL gN gK gJ gO gP gW gT gU gQ gR gS gV gX gY gf gg gZ gh gj gk gn gr gz hZ xC hH hJ hU hY
 have hv1 := qF ho2
 by_cases heq : ∃ h : p < out.length, out[p] = n
 ·obtain ⟨hp0, heq⟩ := heq
  obtain ⟨id2, hix2, hre2, _⟩ := wH Try.underlying46 s3z ho2 (i := p) (by rw [zW]; omega)
  have hre2 : rowE S id2 p = some (.d (.int .i64 n)) := by rw [hre2]; simp [zX, heq]
  have hpl : (p : Int) < (out.length : Int) := by omega
  simp (maxSteps:=1000000) (disch:=first|assumption|omega|rfl) only [↓gp, gc, Nat.reduceAdd, hln, hix2, hre2, ld3r, zL]
  exact ⟨rfl, _, rfl, Nat.le_refl _, fun j q h _ => h, v, out, rfl, ho2, fun j _ h => h, fun x => ⟨.inl, fun h => h.elim id (fun e => e ▸ heq ▸ List.getElem_mem _)⟩, by omega⟩
 ·obtain ⟨v', S3, cst, hap, ho3, hfr, hlen3⟩ := ap46 0 ho2 (by omega)
  have hos : OwnS S3 v' 3 (zX out ++ [.d (.int .i64 0)]) := by
   have : (out ++ [0]).map (fun x => V.d (D.int .i64 x)) = zX out ++ [.d (.int .i64 0)] := by unfold zX; simp
   rw [← this]; exact ho3
  have hfit : ∀ x ∈ zX out ++ [.d (.int .i64 0)], zZ Try.prog 3 x = true := by
   intro x hx
   rcases List.mem_append.1 hx with hx | hx
   ·obtain ⟨y, _, rfl⟩ := List.mem_map.1 hx
    exact za2 y
   ·simp only [List.mem_singleton] at hx
    subst hx
    exact za2 0
  obtain ⟨id3, hv', hrow, hs1, hs2, hcp⟩ := zk8 (k := p) Try.underlying46 s3z hfit hos (by rw [zW]; exact hp) i46
  rw [zW] at hs1 hs2 hcp hv'
  subst hv'
  have hw1 : IntKind.i64.wrap ((p : Int) + 1) = ((p + 1 : Nat) : Int) := by rw [wrap64 (by omega)]; omega
  have hil := zN hrow
  generalize hX : (zX out ++ [V.d (D.int .i64 0)]).take (p + 1) ++ (zX out).drop p = X at hcp
  have hXl : X.length = out.length + 1 := by rw [← hX]; simp [zX]; omega
  have hXe : ∀ y ∈ X, ∃ a : Int, y = .d (.int .i64 a) := by
   intro y hy
   rw [← hX] at hy
   rcases List.mem_append.1 hy with hy | hy
   ·rcases List.mem_append.1 (List.mem_of_mem_take hy) with hy | hy
    ·obtain ⟨a, _, rfl⟩ := List.mem_map.1 hy; exact ⟨a, rfl⟩
    ·simp only [List.mem_singleton] at hy; exact ⟨0, hy⟩
   ·obtain ⟨a, _, rfl⟩ := List.mem_map.1 (List.mem_of_mem_drop hy); exact ⟨a, rfl⟩
  have hXs : X.set p (.d (.int .i64 n)) = zX (out.take p ++ n :: out.drop p) := by
   rw [← hX, zk0 (by rw [zW]; exact hp)]
   unfold zX
   simp [List.map_take, List.map_drop]
  have hrow4 : (S3.set id3 (.row X 3))[id3]? = some (.row X 3) := List.getElem?_set_self hil
  obtain ⟨id4, hix4, hre4, _⟩ := wH (i := p) Try.underlying46 s3z (show OwnS (S3.set id3 (.row X 3)) (.rs id3 0 (out.length + 1)) 3 X from .inr ⟨id3, by rw [hXl], hrow4⟩) (by omega)
  have hid4 : id4 = id3 := by
   have h5 : rowT (S3.set id3 (.row X 3)) id3 3 = true := by simp only [rowT, hrow4, beq_self_eq_true]
   have h6 : (sz Try.prog 3).isSome = true := s3z
   simp only [zE, intOf?, Try.underlying46, h5, h6] at hix4
   rw [if_pos ⟨⟨by omega, by omega⟩, trivial, trivial⟩] at hix4
   simp only [Option.some.injEq, V.ref.injEq] at hix4
   exact hix4.1.symm
  subst hid4
  obtain ⟨a4, ha4⟩ := hXe X[p] (List.getElem_mem _)
  rw [ha4] at hre4
  have hst4 : ∀ b : Int, z02 Try.prog (S3.set id4 (.row X 3)) 3 (.ref id4 p 0) (.d (.int .i64 b)) = z6a (S3.set id4 (.row X 3)) id4 p (some (.d (.int .i64 b))) := fun b => by rw [z60 hre4, st3]
  have hp4 : ∀ y, jF (S3.set id4 (.row X 3)) id4 p y = some (S3.set id4 (.row (X.set p y) 3)) := fun y => by
   simp only [jF, hrow4, List.set_set]
  have fin : ∀ (o : Out), o = .ret (.rs id4 0 (out.length + 1)) → S.length ≤ (S3.set id4 (.row (X.set p (.d (.int .i64 n))) 3)).length ∧ (∀ j q, S[j]? = some q → NotAt v j → (S3.set id4 (.row (X.set p (.d (.int .i64 n))) 3))[j]? = some q) ∧ ∃ v' out', o = .ret v' ∧ OwnS (S3.set id4 (.row (X.set p (.d (.int .i64 n))) 3)) v' 3 (zX out') ∧ (∀ j, j < S.length → NotAt v j → NotAt v' j) ∧ (∀ x, x ∈ out' ↔ x ∈ out ∨ x = n) ∧ out'.length ≤ out.length + 1 := by
   intro o ho
   refine ⟨by rw [List.length_set]; exact hlen3, fun j q hj hn => ?_, _, out.take p ++ n :: out.drop p, ho, ?_, fun j hj hn => ?_, fun x => zjo, ?_⟩
   ·obtain ⟨h1, h2⟩ := hfr j q hj hn
    rw [List.getElem?_set_ne (by rintro rfl; exact h2 _ _ rfl)]
    exact h1
   ·rw [hXs]
    exact .inr ⟨id4, by rw [zW]; simp; omega, List.getElem?_set_self hil⟩
   ·exact (hfr j _ (List.getElem?_eq_getElem hj) hn).2
   ·simp; omega
  by_cases hp0 : p < out.length
  ·obtain ⟨id2, hix2, hre2, _⟩ := wH Try.underlying46 s3z ho2 (i := p) (by rw [zW]; omega)
   have hre2 : rowE S id2 p = some (.d (.int .i64 out[p])) := by rw [hre2]; simp [zX]
   have hpl : (p : Int) < (out.length : Int) := by omega
   have hne : ∀ i' : Decidable (out[p] = n), @decide (out[p] = n) i' = false := fun i' => decide_eq_false (fun hh => heq ⟨hp0, hh⟩)
   simp (maxSteps:=1000000) (disch:=first|assumption|omega|rfl) only [↓gp, gc, Nat.reduceAdd, hln, hix2, hre2, ld3r, hne, zL, zol, hap]
   refine kH (is := [0, 1, 2, 3, 4, 5, 6, 7]) (h := 0) (by kernel_rfl) (by kernel_rfl) ?_
   simp (maxSteps:=1000000) (disch:=first|assumption|omega|rfl) only [List.replicate_zero, eq_self, gd, ga, Nat.reduceAdd, ↓gq, vso, List.append_nil, Option.map_none, hw1, hs1, hs2, hcp]
   refine ⟨fun _ => by kernel_rfl, by kernel_rfl, ?_⟩
   simp (maxSteps:=1000000) (disch:=first|assumption|omega|rfl) only [↓gp, gc, Nat.reduceAdd, hix4, hst4, hp4]
   exact ⟨rfl, _, rfl, fin _ rfl⟩
  ·have hpl : ¬ (p : Int) < (out.length : Int) := by omega
   simp (maxSteps:=1000000) (disch:=first|assumption|omega|rfl) only [↓gp, gc, Nat.reduceAdd, hln, zL, zol, hap]
   refine kH (is := [0, 1, 2, 3, 4, 5, 6, 7]) (h := 0) (by kernel_rfl) (by kernel_rfl) ?_
   simp (maxSteps:=1000000) (disch:=first|assumption|omega|rfl) only [List.replicate_zero, eq_self, gd, ga, Nat.reduceAdd, ↓gq, vso, List.append_nil, Option.map_none, hw1, hs1, hs2, hcp]
   refine ⟨fun _ => by kernel_rfl, by kernel_rfl, ?_⟩
   simp (maxSteps:=1000000) (disch:=first|assumption|omega|rfl) only [↓gp, gc, Nat.reduceAdd, hix4, hst4, hp4]
   exact ⟨rfl, _, rfl, fin _ rfl⟩
theorem zx7 (en : Int) (l : List Int) (hl : l.length ≤ 100000) (R : Post) : ∀ (k i : Nat) (was : Int) (S : Store) (g0 g2 g3 g4 g6 g7 gF gG gB gC gA gE gH gI gD gL gN gK gJ : V), l.length - i = k → i ≤ l.length → (l.drop i).Pairwise (· < ·) → (∀ x ∈ l.drop i, was < x ∧ x < en) →
 (∀ was' i' g0 g2 g3 g4 g6 g7 gF gG gB gC gA gE gH gI gD gL gN gK gJ, R (.exit 0) (g0 :: (.d (.int .i64 en)) :: g2 :: g3 :: g4 :: was' :: g6 :: g7 :: (.d (encI l)) :: (.d (.int .i64 (l.length : Int))) :: i' :: gF :: gG :: gB :: gC :: gA :: gE :: gH :: gI :: gD :: gL :: gN :: gK :: gJ :: []) S []) →
 Wp cfg (.loop (lpOf (Try.f134.body.getD .skip) 0)) (g0 :: (.d (.int .i64 en)) :: g2 :: g3 :: g4 :: (.d (.int .i64 was)) :: g6 :: g7 :: (.d (encI l)) :: (.d (.int .i64 (l.length : Int))) :: (.d (.int .i64 (i : Int))) :: gF :: gG :: gB :: gC :: gA :: gE :: gH :: gI :: gD :: gL :: gN :: gK :: gJ :: []) S [] R := by
 intro k
 induction k with
 | zero =>
  intro i was S g0 g2 g3 g4 g6 g7 gF gG gB gC gA gE gH gI gD gL gN gK gJ hk hi hp hr hR
  have hie : i = l.length := by omega
  subst hie
  rw [zR]
  refine zJ ?_
  conv => arg 2; whnf
  simp (maxSteps:=1000000) (disch:=first|assumption|omega|rfl) only [↓gp, gc, Nat.reduceAdd]
  exact hR _ _ _ _ _ _ _ _ _ _ _ _ _ _ _ _ _ _ _ _ _
 | succ k ih =>
  intro i was S g0 g2 g3 g4 g6 g7 gF gG gB gC gA gE gH gI gD gL gN gK gJ hk hi hp hr hR
  have hlt : i < l.length := by omega
  have h3 : IntKind.i64.wrap ((i : Int) + 1) = ((i + 1 : Nat) : Int) := by rw [wrap64 (by omega)]; omega
  obtain ⟨q, hix, hld⟩ := IntsV.ix (S := S) (v := .d (encI l)) (.inl rfl) hlt
  rw [List.drop_eq_getElem_cons hlt] at hp hr
  rw [List.pairwise_cons] at hp
  obtain ⟨h1, h2⟩ := hr l[i] List.mem_cons_self
  have n1 : ¬ l[i] ≤ was := by omega
  have n2 : ¬ l[i] ≥ en := by omega
  rw [zR]
  refine zJ ?_
  conv => arg 2; whnf
  simp (maxSteps:=1000000) (disch:=first|assumption|omega|rfl) only [↓gp, gc, Nat.reduceAdd, hix, hld, zL, h3]
  exact ih (i + 1) l[i] S _ _ _ _ _ _ _ _ _ _ _ _ _ _ _ _ _ _ _ (by omega) (by omega) hp.2 (fun x hx => ⟨hp.1 x hx, (hr x (List.mem_cons_of_mem _ hx)).2⟩) hR
theorem zts (en : Int) (l : List Int) (hl : l.length ≤ 100000) (hp : l.Pairwise (· < ·)) (hr : ∀ x ∈ l, 1 ≤ x ∧ x < en) : Ev cfg 134 [encI l, .int .i64 en] (.ret (.d (.bool true))) := by
 refine jW rfl rfl zsu ?_
 show Wp cfg (Try.f134.body.getD .skip) ((.d (encI l)) :: (.d (.int .i64 en)) :: uZ (uZ ((.tup []) :: (.tup []) :: []))) [] [] _
 unfold uZ
 conv => arg 2; whnf
 have hln : zI Try.prog [] .len [46] [.d (encI l)] = some (.val (.d (.int .i64 (l.length : Int))) [] 0) := IntsV.len (.inl rfl)
 simp (maxSteps:=1000000) (disch:=first|assumption|omega|rfl) only [↓gp, gc, Nat.reduceAdd, hln]
 refine zx7 en l hl _ l.length 0 0 [] _ _ _ _ _ _ _ _ _ _ _ _ _ _ _ _ _ _ _ rfl (Nat.zero_le _) hp (fun x hx => ⟨by have := (hr x hx).1; omega, (hr x hx).2⟩) ?_
 intro was' i' g0 g2 g3 g4 g6 g7 gF gG gB gC gA gE gH gI gD gL gN gK gJ
 simp (maxSteps:=1000000) (disch:=first|assumption|omega|rfl) only [↓gp, gc, Nat.reduceAdd]
 exact zO rfl rfl rfl
section
variable {a b c : Int} {dv nv : V}
theorem zan : qL Try.prog 46 4 (some (.agg [.d (.int .i64 a), .d (.int .i64 b), .d (.int .i64 c), dv, nv])) = some nv := by kernel_rfl
theorem zax {d x y : Nat} : zF Try.prog 122 3 (.ref d x y) = some (.ref d x (y + 4)) := by kernel_rfl
end
theorem zmh {ops : Array Oper} {dst : Option Tmp} {k : List Oper} {T : List V} {S : Store} {F : Dfs} {Q : Post} {nv : V} {l : List Int} {en : Int} (hn : OwnS S nv 3 (zX l)) (hl : l.length ≤ 100000) (hp : l.Pairwise (· < ·)) (hr : ∀ x ∈ l, 1 ≤ x ∧ x < en) : WpR cfg ops dst k T S F Q (some (.enter 134 [nv, .d (.int .i64 en)])) = WpL cfg ops k (putT T dst (.d (.bool true))) S F Q :=
 zcd (ds := [encI l, .int .i64 en]) rfl (by
  have h1 : Go.Vm.frz S zH nv = some (encI l) := zk2 (by rw [List.map_map]; exact hn)
  simp only [allO, h1]; rfl) rfl (zts en l hl hp hr)
theorem z7e : ∀ {l : List Int} {a : Int}, l.Pairwise (· < ·) → (∀ x ∈ l, a ≤ x) → ∀ {b : Int}, (∀ x ∈ l, x < b) → a ≤ b → (l.length : Int) ≤ b - a
 | [], _, _, _, _, _, h => by simp; omega
 | x :: r, a, hp, h1, b, h2, hab => by
  rw [List.pairwise_cons] at hp
  have hx := h1 x List.mem_cons_self
  have hx2 := h2 x List.mem_cons_self
  have := z7e (a := x + 1) hp.2 (fun y hy => by have := hp.1 y hy; omega) (b := b) (fun y hy => h2 y (List.mem_cons_of_mem _ hy)) (by omega)
  rw [List.length_cons]
  omega
theorem zpa (n last : Nat) (hlast : last ≤ 100000) (S0 : Store) (L : V) (es : List V) (l : List Chg) (hL : OwnS S0 L 122 es) (hl : ChgsV S0 es l) (hes : es.length ≤ 1000000) (hok : ∀ ch ∈ l, z5n n last ch) (hids : l.Pairwise (fun a b => a.id < b.id)) (R : Post) :
 ∀ (k i : Nat) (was : Int) (S : Store) (g0 g1 g4 g5 g9 gM gF gG gB gC gA gE gH gI gD gL gN gK gJ gO gP gW gT gU gQ gR gS gV gX gY gf gg gZ : V), l.length - i = k → i ≤ l.length → Keep S0 S → (∀ ch ∈ l.drop i, was < ch.id) →
 (∀ S' was' i' g0 g1 g4 g5 g9 gM gF gG gB gC gA gE gH gI gD gL gN gK gJ gO gP gW gT gU gQ gR gS gV gX gY gf gg gZ, Keep S0 S' → R (.exit 0) (g0 :: g1 :: (.d (.int .i64 0)) :: was' :: g4 :: g5 :: L :: (.d (.int .i64 (l.length : Int))) :: i' :: g9 :: gM :: gF :: gG :: gB :: gC :: gA :: gE :: gH :: gI :: gD :: gL :: gN :: gK :: gJ :: gO :: gP :: gW :: gT :: gU :: gQ :: gR :: gS :: gV :: gX :: gY :: gf :: gg :: gZ :: []) S' []) →
 Wp cfg (.loop (lpOf (Try.f131.body.getD .skip) 0)) (g0 :: g1 :: (.d (.int .i64 0)) :: (.d (.int .i64 was)) :: g4 :: g5 :: L :: (.d (.int .i64 (l.length : Int))) :: (.d (.int .i64 (i : Int))) :: g9 :: gM :: gF :: gG :: gB :: gC :: gA :: gE :: gH :: gI :: gD :: gL :: gN :: gK :: gJ :: gO :: gP :: gW :: gT :: gU :: gQ :: gR :: gS :: gV :: gX :: gY :: gf :: gg :: gZ :: []) S [] R := by
 intro k
 have hll := hl.1
 induction k with
 | zero =>
  intro i was S g0 g1 g4 g5 g9 gM gF gG gB gC gA gE gH gI gD gL gN gK gJ gO gP gW gT gU gQ gR gS gV gX gY gf gg gZ hk hi hK hw hR
  have hie : i = l.length := by omega
  subst hie
  rw [zR]
  refine zJ ?_
  conv => arg 2; whnf
  simp (maxSteps:=1000000) (disch:=first|assumption|omega|rfl) only [↓gp, gc, Nat.reduceAdd]
  exact hR _ _ _ _ _ _ _ _ _ _ _ _ _ _ _ _ _ _ _ _ _ _ _ _ _ _ _ _ _ _ _ _ _ _ _ _ hK
 | succ k ih =>
  intro i was S g0 g1 g4 g5 g9 gM gF gG gB gC gA gE gH gI gD gL gN gK gJ gO gP gW gT gU gQ gR gS gV gX gY gf gg gZ hk hi hK hw hR
  have hlt : i < l.length := by omega
  have hlt2 : i < es.length := by omega
  obtain ⟨id', hix, hre, _⟩ := wH u119 s122 (hK.own hL) hlt2
  obtain ⟨dv, nv, he, hd5, hn3⟩ := hl.2 i es[i] l[i] (List.getElem?_eq_getElem hlt2) (List.getElem?_eq_getElem hlt)
  rw [he] at hre
  have h3 : IntKind.i64.wrap ((i : Int) + 1) = ((i + 1 : Nat) : Int) := by rw [wrap64 (by omega)]; omega
  obtain ⟨g1, g2, g3, g4, g5, g6, g7⟩ := hok l[i] (List.getElem_mem hlt)
  rw [List.drop_eq_getElem_cons hlt] at hw
  have hw1 := hw l[i] List.mem_cons_self
  have n1 : ¬ l[i].id ≤ was := by omega
  have n2 : ¬ l[i].no < 0 := by omega
  have hkx : Keep S0 (S ++ [.row [.agg [.d (.int .i64 l[i].id), .d (.int .i64 l[i].no), .d (.int .i64 l[i].at_), dv, nv]] 122]) := hK.app
  have hpc := fun {ops dst k T F Q} => z0a (ops := ops) (dst := dst) (k := k) (T := T) (F := F) (Q := Q) (S := S ++ [.row [.agg [.d (.int .i64 l[i].id), .d (.int .i64 l[i].no), .d (.int .i64 l[i].at_), dv, nv]] 122]) (p := .agg [.d (.int .i64 l[i].at_), dv]) (dv := dv) (a := l[i].at_) (b := l[i].data) (.inl ⟨rfl, .inl (hkx.own hd5)⟩) (by obtain ⟨_, _, q3, q4⟩ := g1; unfold InB; omega)
  rw [if_pos g1] at hpc
  have hri := fun {ops dst k T F Q} => zmh (ops := ops) (dst := dst) (k := k) (T := T) (F := F) (Q := Q) (hkx.own hn3) (en := l[i].id) (by have := z7e g6 (fun x hx => (g7 x hx).1) (fun x hx => (g7 x hx).2) (by omega); omega) g6 g7
  have hn1 := qF hn3
  have hd1 := qF hd5
  generalize ha : S.length = a
  rw [zR]
  refine zJ ?_
  conv => arg 2; whnf
  simp (maxSteps:=1000000) (disch:=first|assumption|omega|rfl) only [↓gp, gc, Nat.reduceAdd, hix, hre, z2n, z122, z23, z48, ha, rA0 ha, pA0 ha, z1j, z08, z0i, zax, z19, z0f, z1o, zan, zL, hpc, z96, hri, zuo, hn1, hd1, kJ, Bool.not_true, h3]
  refine ih (i + 1) l[i].id _ _ _ _ _ _ _ _ _ _ _ _ _ _ _ _ _ _ _ _ _ _ _ _ _ _ _ _ _ _ _ _ _ _ (by omega) (by omega) hkx ?_ hR
  intro ch hch
  have := List.pairwise_iff_getElem.1 hids
  obtain ⟨j, hj, rfl⟩ := List.mem_iff_getElem.1 hch
  rw [List.getElem_drop]
  exact this i (i + 1 + j) hlt (by rw [List.length_drop] at hj; omega) (by omega)
theorem zkm (n last : Nat) (hlast : last ≤ 100000) (S : Store) (L : V) (es : List V) (l : List Chg) (hL : OwnS S L 122 es) (hl : ChgsV S es l) (hes : es.length ≤ 1000000) (hok : ∀ ch ∈ l, z5n n last ch) (hids : l.Pairwise (fun a b => a.id < b.id)) : EvS cfg 131 [L] S (fun o S' => Keep S S' ∧ o = .ret (.d (.int .i64 0))) := by
 refine qN rfl zs3 ?_
 show Wp cfg (Try.f131.body.getD .skip) (L :: uZ (uZ (uZ ((.tup []) :: (.tup []) :: (.tup []) :: (.tup []) :: (.tup []) :: (.tup []) :: (.tup []) :: [])))) S [] _
 unfold uZ
 conv => arg 2; whnf
 rw [zR]
 have hln : zI Try.prog S .len [119] [L] = some (.val (.d (.int .i64 (l.length : Int))) S 0) := by rw [wB u119 hL, hl.1]
 simp (maxSteps:=1000000) (disch:=first|assumption|omega|rfl) only [↓gp, gc, Nat.reduceAdd, hln]
 refine zpa n last hlast S L es l hL hl hes hok hids _ l.length 0 0 S _ _ _ _ _ _ _ _ _ _ _ _ _ _ _ _ _ _ _ _ _ _ _ _ _ _ _ _ _ _ _ _ _ rfl (Nat.zero_le _) Keep.refl (fun ch hch => by have := (hok ch (by simpa using hch)).2.2.2.1; omega) ?_
 intro S' was' i' g0 g1 g4 g5 g9 gM gF gG gB gC gA gE gH gI gD gL gN gK gJ gO gP gW gT gU gQ gR gS gV gX gY gf gg gZ hK
 simp (maxSteps:=1000000) (disch:=first|assumption|omega|rfl) only [↓gp, gc, Nat.reduceAdd]
 exact ⟨rfl, _, rfl, hK, rfl⟩
def z3x (a : Int) (x : List UInt8) (b : Int) (y : List UInt8) : Prop := a < b + y.length ∧ b < a + x.length
instance {a : Int} {x : List UInt8} {b : Int} {y : List UInt8} : Decidable (z3x a x b y) := by unfold z3x; infer_instance
theorem zql (a : Int) (x : List UInt8) (b : Int) (y : List UInt8) (hx : kW a x) (hy : kW b y) : Ev cfg 136 [patD a x, patD b y] (.ret (.d (.bool (decide (z3x a x b y))))) := by
 refine jW rfl rfl zqv ?_
 show Wp cfg (Try.f136.body.getD .skip) ((.d (patD a x)) :: (.d (patD b y)) :: uZ (uZ (uZ ((.tup []) :: [])))) [] [] _
 unfold uZ
 conv => arg 2; whnf
 have x1 := hx.1
 have x2 := hx.2.1
 have x3 := hx.2.2.1
 have x4 := hx.2.2.2
 have y1 := hy.1
 have y2 := hy.2.1
 have y3 := hy.2.2.1
 have y4 := hy.2.2.2
 have c1 := fun {ops dst k T S F Q} => z0a (ops := ops) (dst := dst) (k := k) (T := T) (F := F) (Q := Q) (S := S) (p := .d (patD a x)) (dv := .d (encB x)) (a := a) (b := x) (.inr ⟨rfl, rfl⟩) (by unfold InB; omega)
 have c2 := fun {ops dst k T S F Q} => z0a (ops := ops) (dst := dst) (k := k) (T := T) (F := F) (Q := Q) (S := S) (p := .d (patD b y)) (dv := .d (encB y)) (a := b) (b := y) (.inr ⟨rfl, rfl⟩) (by unfold InB; omega)
 rw [if_pos hx] at c1
 rw [if_pos hy] at c2
 have w1 : IntKind.i64.wrap (b + (y.length : Int)) = b + y.length := wrap64 (by omega)
 have w2 : IntKind.i64.wrap (a + (x.length : Int)) = a + x.length := wrap64 (by omega)
 by_cases h1 : a < b + (y.length : Int)
 ·by_cases h2 : b < a + (x.length : Int)
  ·have e : decide (z3x a x b y) = true := decide_eq_true ⟨h1, h2⟩
   rw [e]
   simp (maxSteps:=1000000) (disch:=first|assumption|omega|rfl) only [↓gp, gc, Nat.reduceAdd, fd56, z4d, z1w, z1v, z2t, zgr, z1x, zL, c1, c2, z96, w1, w2]
   exact zO rfl rfl rfl
  ·have e : decide (z3x a x b y) = false := decide_eq_false (fun h => h2 h.2)
   rw [e]
   simp (maxSteps:=1000000) (disch:=first|assumption|omega|rfl) only [↓gp, gc, Nat.reduceAdd, fd56, z4d, z1w, z1v, z2t, zgr, z1x, zL, c1, c2, z96, w1, w2]
   exact zO rfl rfl rfl
 ·have e : decide (z3x a x b y) = false := decide_eq_false (fun h => h1 h.1)
  rw [e]
  simp (maxSteps:=1000000) (disch:=first|assumption|omega|rfl) only [↓gp, gc, Nat.reduceAdd, fd56, z4d, z1w, z1v, z2t, zgr, z1x, zL, c1, c2, z96, w1, w2]
  exact zO rfl rfl rfl
section
variable {C : Cfg} {S : Store} {T : List V} {dst : Option Tmp} {ops : Array Oper} {F : Dfs} {Q : Post} {K : List Nat → List (Nat × Nat) → List V → Store → Prop} {rd : List Nat} {cs : List (Nat × Nat)} {i : Nat}
theorem q1y {f : FuncId} {args : List V} {ds : List D} {v : V} (hs : C.shared f = false) (hf : allO (Go.Vm.frz S zH) args = some ds) (hp : z0p (.ret v) = true) (he : Ev C f ds (.ret v)) :
  WpE C ops F Q K rd cs i dst T S (some (.enter f args)) = K (i :: rd) (cs ++ [(i, 1)]) (putT T dst v) S := by
 obtain ⟨n, hc⟩ := zfw hs hf hp he
 apply propext
 constructor
 ·rintro ⟨m, v', S', c, h1, h2, h3⟩
  have := wV h1 hc
  simp only [Prod.mk.injEq] at this
  obtain ⟨h4, rfl, rfl⟩ := this
  cases h4
  exact h3
 ·exact fun h => ⟨n, _, _, _, hc, fun hh => absurd hh (by decide), h⟩
end
theorem zjt {S : Store} {L : V} {es : List V} {k : Nat} (hL : OwnS S L 122 es) (h : k < es.length) : ∃ id, L = .rs id 0 es.length ∧ S[id]? = some (.row es 122) ∧ wD Try.prog S 119 L none (some (.d (.int .i64 (k : Int)))) = some (.rs id 0 k) := by
 rcases hL with ⟨rfl, rfl⟩ | ⟨id, rfl, h1⟩
 ·simp at h
 ·refine ⟨id, rfl, h1, ?_⟩
  have h3 : rowT S id 122 = true := by simp only [rowT, h1, beq_self_eq_true]
  have hb := zld (y := es.length) (d := es.length) (k := k) (by omega)
  have h4 : (sz Try.prog 122).isSome = true := s122
  simp only [wD, u119, hb, zb2, h3, h4, Bool.and_self, if_true, Nat.add_zero, Nat.sub_zero]
theorem zl6 {S : Store} {es : List V} {id i k : Nat} (h1 : S[id]? = some (.row es 122)) (hi : i < k) : zE Try.prog S 119 (.rs id 0 k) (.d (.int .i64 (i : Int))) = some (.ref id i 0) := by
 have h3 : rowT S id 122 = true := by simp only [rowT, h1, beq_self_eq_true]
 have h4 : (sz Try.prog 122).isSome = true := s122
 simp only [zE, intOf?, u119, h3, h4]
 rw [if_pos ⟨⟨by omega, by omega⟩, trivial, trivial⟩, Nat.zero_add, Int.toNat_natCast]
theorem zlj {S : Store} {a : Int} {dv : V} {b : List UInt8} (hd : OwnS S dv 5 (bysV b)) : Go.Vm.frz S zH (.agg [.d (.int .i64 a), dv]) = some (patD a b) := by
 have hd' : OwnS S dv 5 ((b.map byD).map .d) := by rw [List.map_map]; exact hd
 have hf := zaq (n := 9) hd'
 have h0 : Go.Vm.frz S 11 (.d (.int .i64 a)) = some (.int .i64 a) := rfl
 show (match allO (Go.Vm.frz S 11) [.d (.int .i64 a), dv] with | some ds => if ds.any D.isAgg then none else some (D.agg ds) | none => none) = _
 simp only [allO, h0, hf]
 rfl
theorem zt6 (S0 : Store) (L : V) (at_ mm : Nat) (g : Int → Int) (hm : MG S0 mm g) (nv : V) (ns : List Int) (hn : OwnS S0 nv 3 (zX ns)) (hns : ns.length ≤ 100000) (R : Post) :
 ∀ (k i : Nat) (S : Store) (v7 : V) (out : List Int) (g3 g4 g5 g6 g8 g9 gM gF gG gB gC gA gD gL gN gK gJ gO gP gW gT gU gQ gR gS gV gX gY gf gg gZ gh gj gk gn gr gz hZ xC hH hJ hU hY xA xB xD xE xF xG xH xI xJ xK xL xM : V), ns.length - i = k → i ≤ ns.length → Keep S0 S → (∀ j, j < S0.length → NotAt v7 j) → OwnS S v7 3 (zX out) → out.length ≤ i →
 (∀ S v7 out i' g3 g4 g5 g6 g8 g9 gM gF gG gB gC gA gD gL gN gK gJ gO gP gW gT gU gQ gR gS gV gX gY gf gg gZ gh gj gk gn gr gz hZ xC hH hJ hU hY xA xB xD xE xF xG xH xI xJ xK xL xM, Keep S0 S → (∀ j, j < S0.length → NotAt v7 j) → OwnS S v7 3 (zX out) → out.length ≤ ns.length → R (.exit 0) (L :: (.d (.int .i64 (at_ : Int))) :: (.mr mm) :: g3 :: g4 :: g5 :: g6 :: v7 :: g8 :: g9 :: gM :: gF :: gG :: gB :: gC :: gA :: nv :: (.d (.int .i64 (ns.length : Int))) :: i' :: gD :: gL :: gN :: gK :: gJ :: gO :: gP :: gW :: gT :: gU :: gQ :: gR :: gS :: gV :: gX :: gY :: gf :: gg :: gZ :: gh :: gj :: gk :: gn :: gr :: gz :: hZ :: xC :: hH :: hJ :: hU :: hY :: xA :: xB :: xD :: xE :: xF :: xG :: xH :: xI :: xJ :: xK :: xL :: xM :: []) S []) →
 Wp cfg (.loop (lpOf (Try.f133.body.getD .skip) 0)) (L :: (.d (.int .i64 (at_ : Int))) :: (.mr mm) :: g3 :: g4 :: g5 :: g6 :: v7 :: g8 :: g9 :: gM :: gF :: gG :: gB :: gC :: gA :: nv :: (.d (.int .i64 (ns.length : Int))) :: (.d (.int .i64 (i : Int))) :: gD :: gL :: gN :: gK :: gJ :: gO :: gP :: gW :: gT :: gU :: gQ :: gR :: gS :: gV :: gX :: gY :: gf :: gg :: gZ :: gh :: gj :: gk :: gn :: gr :: gz :: hZ :: xC :: hH :: hJ :: hU :: hY :: xA :: xB :: xD :: xE :: xF :: xG :: xH :: xI :: xJ :: xK :: xL :: xM :: []) S [] R := by
 intro k
 induction k with
 | zero =>
  intro i S v7 out g3 g4 g5 g6 g8 g9 gM gF gG gB gC gA gD gL gN gK gJ gO gP gW gT gU gQ gR gS gV gX gY gf gg gZ gh gj gk gn gr gz hZ xC hH hJ hU hY xA xB xD xE xF xG xH xI xJ xK xL xM hk hi hK hN ho hol hR
  have hie : i = ns.length := by omega
  subst hie
  rw [zR]
  refine zJ ?_
  conv => arg 2; whnf
  simp (maxSteps:=1000000) (disch:=first|assumption|omega|rfl) only [↓gp, gc, Nat.reduceAdd]
  exact hR _ _ _ _ _ _ _ _ _ _ _ _ _ _ _ _ _ _ _ _ _ _ _ _ _ _ _ _ _ _ _ _ _ _ _ _ _ _ _ _ _ _ _ _ _ _ _ _ _ _ _ _ _ _ _ _ _ _ _ hK hN ho hol
 | succ k ih =>
  intro i S v7 out g3 g4 g5 g6 g8 g9 gM gF gG gB gC gA gD gL gN gK gJ gO gP gW gT gU gQ gR gS gV gX gY gf gg gZ gh gj gk gn gr gz hZ xC hH hJ hU hY xA xB xD xE xF xG xH xI xJ xK xL xM hk hi hK hN ho hol hR
  have hlt : i < ns.length := by omega
  have h3 : IntKind.i64.wrap ((i : Int) + 1) = ((i + 1 : Nat) : Int) := by rw [wrap64 (by omega)]; omega
  obtain ⟨id, hix, hre, _⟩ := wH Try.underlying46 s3z (hK.own hn) (i := i) (by rw [zW]; exact hlt)
  have hre : rowE S id i = some (.d (.int .i64 ns[i])) := by rw [hre]; simp [zX]
  have hlk := (hm.keep hK).look ns[i]
  have ho1 := qF ho
  rw [zR]
  refine zJ ?_
  conv => arg 2; whnf
  by_cases hg : g ns[i] = 0
  ·simp (maxSteps:=1000000) (disch:=first|assumption|omega|rfl) only [↓gp, gc, Nat.reduceAdd, hix, hre, ld3r, hlk, hg, zL, h3]
   exact ih (i + 1) S v7 out _ _ _ _ _ _ _ _ _ _ _ _ _ _ _ _ _ _ _ _ _ _ _ _ _ _ _ _ _ _ _ _ _ _ _ _ _ _ _ _ _ _ _ _ _ _ _ _ _ _ _ _ _ _ _ (by omega) (by omega) hK hN ho (by omega) hR
  ·obtain ⟨o, S2, ⟨hlen, hfr, v', out', rfl, ho', hna, hmem, hol'⟩, hE⟩ := qR (zfb S v7 out ns[i] ho (by omega))
   have hE := fun {ops dst k T F Q} => zQ (ops := ops) (dst := dst) (l := k) (T := T) (F := F) (Q := Q) rfl hE
   have hde : ∀ i' : Decidable (g ns[i] ≠ 0), @decide (g ns[i] ≠ 0) i' = true := fun i' => decide_eq_true hg
   simp (maxSteps:=1000000) (disch:=first|assumption|omega|rfl) only [↓gp, gc, Nat.reduceAdd, hix, hre, ld3r, hlk, hde, hE, zsh, ho1, h3]
   exact ih (i + 1) S2 v' out' _ _ _ _ _ _ _ _ _ _ _ _ _ _ _ _ _ _ _ _ _ _ _ _ _ _ _ _ _ _ _ _ _ _ _ _ _ _ _ _ _ _ _ _ _ _ _ _ _ _ _ _ _ _ _ (by omega) (by omega) (fun j o hj => hfr j o (hK j o hj) (hN j (zN hj))) (fun j hj => hna j (Nat.lt_of_lt_of_le hj hK.len) (hN j hj)) ho' (by omega) hR
def WtOk (l : List Chg) (at_ : Nat) (i : Nat) (out : List Int) : Prop := ∀ (c : Chg), l[at_]? = some c → ∀ ch ∈ l.take i, ch.no = c.no → z3x ch.at_ ch.data c.at_ c.data → ch.id ∈ out
theorem zse (S0 : Store) (L : V) (es : List V) (l : List Chg) (hL : OwnS S0 L 122 es) (hl : ChgsV S0 es l) (hes : es.length ≤ 150000) (n last : Nat) (hok : ∀ ch ∈ l, z5n n last ch) (at_ mm id : Nat) (hat : at_ < l.length) (hid : L = .rs id 0 es.length) (hrw : S0[id]? = some (.row es 122)) (o0 : Nat) (ho0 : o0 ≤ 100000) (R : Post) :
 ∀ (k i : Nat) (S : Store) (v7 : V) (out : List Int) (g2 g3 g4 g5 g6 g8 g9 gM gF gG gB gC gA gE gH gI gD gL gN gK gJ gO gP gW gT gU gQ gR gS gf gg gZ gh gj gk gn gr gz hZ xC hH hJ hU hY xA xB xD xE xF xG xH xI xJ xK xL xM : V), at_ - i = k → i ≤ at_ → Keep S0 S → (∀ j, j < S0.length → NotAt v7 j) → OwnS S v7 3 (zX out) → out.length ≤ o0 + i → WtOk l at_ i out →
 (∀ S v7 out i' g2 g3 g4 g5 g6 g8 g9 gM gF gG gB gC gA gE gH gI gD gL gN gK gJ gO gP gW gT gU gQ gR gS gf gg gZ gh gj gk gn gr gz hZ xC hH hJ hU hY xA xB xD xE xF xG xH xI xJ xK xL xM, Keep S0 S → OwnS S v7 3 (zX out) → out.length ≤ o0 + at_ → WtOk l at_ at_ out → R (.exit 2) (L :: (.d (.int .i64 (at_ : Int))) :: g2 :: g3 :: g4 :: g5 :: g6 :: v7 :: g8 :: g9 :: gM :: gF :: gG :: gB :: gC :: gA :: gE :: gH :: gI :: gD :: gL :: gN :: gK :: gJ :: gO :: gP :: gW :: gT :: gU :: gQ :: gR :: gS :: (.rs id 0 at_) :: (.d (.int .i64 (at_ : Int))) :: i' :: gf :: gg :: gZ :: gh :: gj :: gk :: gn :: gr :: gz :: hZ :: xC :: hH :: hJ :: hU :: hY :: xA :: xB :: xD :: xE :: xF :: xG :: xH :: xI :: xJ :: xK :: xL :: xM :: []) S []) →
 Wp cfg (.loop (lpOf (Try.f133.body.getD .skip) 2)) (L :: (.d (.int .i64 (at_ : Int))) :: g2 :: g3 :: g4 :: g5 :: g6 :: v7 :: g8 :: g9 :: gM :: gF :: gG :: gB :: gC :: gA :: gE :: gH :: gI :: gD :: gL :: gN :: gK :: gJ :: gO :: gP :: gW :: gT :: gU :: gQ :: gR :: gS :: (.rs id 0 at_) :: (.d (.int .i64 (at_ : Int))) :: (.d (.int .i64 (i : Int))) :: gf :: gg :: gZ :: gh :: gj :: gk :: gn :: gr :: gz :: hZ :: xC :: hH :: hJ :: hU :: hY :: xA :: xB :: xD :: xE :: xF :: xG :: xH :: xI :: xJ :: xK :: xL :: xM :: []) S [] R := by
 intro k
 have hll := hl.1
 induction k with
 | zero =>
  intro i S v7 out g2 g3 g4 g5 g6 g8 g9 gM gF gG gB gC gA gE gH gI gD gL gN gK gJ gO gP gW gT gU gQ gR gS gf gg gZ gh gj gk gn gr gz hZ xC hH hJ hU hY xA xB xD xE xF xG xH xI xJ xK xL xM hk hi hK hN ho hol hw hR
  have hie : i = at_ := by omega
  subst hie
  rw [zR]
  refine zJ ?_
  conv => arg 2; whnf
  simp (maxSteps:=1000000) (disch:=first|assumption|omega|rfl) only [↓gp, gc, Nat.reduceAdd]
  exact hR _ _ _ _ _ _ _ _ _ _ _ _ _ _ _ _ _ _ _ _ _ _ _ _ _ _ _ _ _ _ _ _ _ _ _ _ _ _ _ _ _ _ _ _ _ _ _ _ _ _ _ _ _ _ _ _ _ _ _ _ hK ho hol hw
 | succ k ih =>
  intro i S v7 out g2 g3 g4 g5 g6 g8 g9 gM gF gG gB gC gA gE gH gI gD gL gN gK gJ gO gP gW gT gU gQ gR gS gf gg gZ gh gj gk gn gr gz hZ xC hH hJ hU hY xA xB xD xE xF xG xH xI xJ xK xL xM hk hi hK hN ho hol hw hR
  have hlt : i < at_ := by omega
  have hil : i < l.length := by omega
  have h3 : IntKind.i64.wrap ((i : Int) + 1) = ((i + 1 : Nat) : Int) := by rw [wrap64 (by omega)]; omega
  obtain ⟨dv, nv, he, hd5, hn3⟩ := hl.2 i es[i] l[i] (List.getElem?_eq_getElem (by omega)) (List.getElem?_eq_getElem (by omega))
  obtain ⟨dw, nw, hf, hd6, hn4⟩ := hl.2 at_ es[at_] l[at_] (List.getElem?_eq_getElem (by omega)) (List.getElem?_eq_getElem (by omega))
  have hrS := hK _ _ hrw
  have hix1 : zE Try.prog S 119 (.rs id 0 at_) (.d (.int .i64 (i : Int))) = some (.ref id i 0) := zl6 hrS hlt
  have hre1 : rowE S id i = some (.agg [.d (.int .i64 l[i].id), .d (.int .i64 l[i].no), .d (.int .i64 l[i].at_), dv, nv]) := by
   unfold rowE; rw [hrS, ← he]; exact List.getElem?_eq_getElem (by omega)
  have hkx : Keep S (S ++ [.row [.agg [.d (.int .i64 l[i].id), .d (.int .i64 l[i].no), .d (.int .i64 l[i].at_), dv, nv]] 122]) := Keep.refl.app
  have hk0 := hK.trans hkx
  have hix2 : ∀ s : Store, zE Try.prog (S ++ s) 119 (.rs id 0 es.length) (.d (.int .i64 (at_ : Int))) = some (.ref id at_ 0) := fun s => zl6 ((Keep.refl.app (l := s)) _ _ hrS) (by omega)
  have hre2 : ∀ s : Store, rowE (S ++ s) id at_ = some (.agg [.d (.int .i64 l[at_].id), .d (.int .i64 l[at_].no), .d (.int .i64 l[at_].at_), dw, nw]) := fun s => by
   unfold rowE; rw [(Keep.refl.app (l := s)) _ _ hrS, ← hf]; exact List.getElem?_eq_getElem (by omega)
  have ho1 := qF ho
  have hd1 := qF hd5
  have hd2 := qF hd6
  have hg1 := (hok l[i] (List.getElem_mem _)).1
  have hg2 := (hok l[at_] (List.getElem_mem _)).1
  have hml : ∀ {ops F Q K rd cs i' dst T}, WpE cfg ops F Q K rd cs i' dst T (S ++ [.row [.agg [.d (.int .i64 l[i].id), .d (.int .i64 l[i].no), .d (.int .i64 l[i].at_), dv, nv]] 122]) (some (.enter 136 [.agg [.d (.int .i64 l[i].at_), dv], .agg [.d (.int .i64 l[at_].at_), dw]])) = K (i' :: rd) (cs ++ [(i', 1)]) (putT T dst (.d (.bool (decide (z3x l[i].at_ l[i].data l[at_].at_ l[at_].data))))) (S ++ [.row [.agg [.d (.int .i64 l[i].id), .d (.int .i64 l[i].no), .d (.int .i64 l[i].at_), dv, nv]] 122]) :=
   fun {ops F Q K rd cs i' dst T} => q1y (ds := [patD l[i].at_ l[i].data, patD l[at_].at_ l[at_].data]) rfl (by
    simp only [allO, zlj (hk0.own hd5), zlj (hk0.own hd6)]) rfl (zql _ _ _ _ hg1 hg2)
  have skip : ∀ out', (l[i].no = l[at_].no → z3x l[i].at_ l[i].data l[at_].at_ l[at_].data → l[i].id ∈ out') → (∀ x ∈ out, x ∈ out') → WtOk l at_ (i + 1) out' := by
   intro out' h1 h2 c hc ch hch e1 e2
   rw [wI hil] at hch
   rcases List.mem_append.1 hch with hch | hch
   ·exact h2 _ (hw c hc ch hch e1 e2)
   ·simp only [List.mem_singleton] at hch
    subst hch
    rw [List.getElem?_eq_getElem hat] at hc
    cases hc
    exact h1 e1 e2
  generalize ha : S.length = a
  rw [zR]
  refine zJ ?_
  conv => arg 2; whnf
  subst hid
  simp (maxSteps:=1000000) (disch:=first|assumption|omega|rfl) only [↓gp, gc, Nat.reduceAdd, hix1, hre1, z2n, z122, z23, z48, ha, rA0 ha, pA0 ha]
  refine kH (is := [0, 1, 2, 3, 4, 5, 6, 7, 8, 9, 10, 11, 12, 13, 14, 15, 16, 17]) (h := 0) (by kernel_rfl) (by kernel_rfl) ?_
  by_cases hno : l[i].no = l[at_].no
  ·have hde : ∀ i' : Decidable (l[i].no = l[at_].no), @decide (l[i].no = l[at_].no) i' = true := fun i' => decide_eq_true hno
   by_cases hmt : z3x l[i].at_ l[i].data l[at_].at_ l[at_].data
   ·rw [decide_eq_true hmt] at hml
    obtain ⟨o, S2, ⟨hlen, hfr, v', out', rfl, ho', hna, hmem, hol'⟩, hE⟩ := qR (zfb _ v7 out l[i].id (hkx.own ho) (by omega))
    have hE := fun {ops dst k T F Q} => zQ (ops := ops) (dst := dst) (l := k) (T := T) (F := F) (Q := Q) rfl hE
    simp (maxSteps:=1000000) (disch:=first|assumption|omega|rfl) only [List.replicate_zero, eq_self, gd, ga, Nat.reduceAdd, ↓gq, vso, rA0 ha, z08, z0i, z0f, z1o, hix2, hre2, hde, hml, zr0, hd1, hd2, List.append_nil]
    refine ⟨by kernel_rfl, ?_⟩
    simp (maxSteps:=1000000) (disch:=first|assumption|omega|rfl) only [↓gp, gc, Nat.reduceAdd, rA0 ha, z1j, z19, hE, zsh, ho1, h3]
    exact ih (i + 1) S2 v' out' _ _ _ _ _ _ _ _ _ _ _ _ _ _ _ _ _ _ _ _ _ _ _ _ _ _ _ _ _ _ _ _ _ _ _ _ _ _ _ _ _ _ _ _ _ _ _ _ _ _ _ _ _ _ _ _ (by omega) (by omega) (fun j o hj => hfr j o (hk0 j o hj) (hN j (zN hj))) (fun j hj => hna j (Nat.lt_of_lt_of_le hj hk0.len) (hN j hj)) ho' (by omega) (skip _ (fun _ _ => (hmem _).2 (.inr rfl)) (fun x hx => (hmem x).2 (.inl hx))) hR
   ·rw [decide_eq_false hmt] at hml
    simp (maxSteps:=1000000) (disch:=first|assumption|omega|rfl) only [List.replicate_zero, eq_self, gd, ga, Nat.reduceAdd, ↓gq, vso, rA0 ha, z08, z0i, z0f, z1o, hix2, hre2, hde, hml, zr0, hd1, hd2, List.append_nil]
    refine ⟨by kernel_rfl, ?_⟩
    simp (maxSteps:=1000000) (disch:=first|assumption|omega|rfl) only [↓gp, gc, Nat.reduceAdd, h3]
    exact ih (i + 1) _ v7 out _ _ _ _ _ _ _ _ _ _ _ _ _ _ _ _ _ _ _ _ _ _ _ _ _ _ _ _ _ _ _ _ _ _ _ _ _ _ _ _ _ _ _ _ _ _ _ _ _ _ _ _ _ _ _ _ (by omega) (by omega) hk0 hN (hkx.own ho) (by omega) (skip _ (fun _ h => absurd h hmt) (fun x hx => hx)) hR
  ·have hde : ∀ i' : Decidable (l[i].no = l[at_].no), @decide (l[i].no = l[at_].no) i' = false := fun i' => decide_eq_false hno
   simp (maxSteps:=1000000) (disch:=first|assumption|omega|rfl) only [List.replicate_zero, eq_self, gd, ga, Nat.reduceAdd, ↓gq, vso, rA0 ha, z08, z0i, z0f, z1o, hix2, hre2, hde, List.append_nil]
   refine ⟨by kernel_rfl, ?_⟩
   simp (maxSteps:=1000000) (disch:=first|assumption|omega|rfl) only [↓gp, gc, Nat.reduceAdd, h3]
   exact ih (i + 1) _ v7 out _ _ _ _ _ _ _ _ _ _ _ _ _ _ _ _ _ _ _ _ _ _ _ _ _ _ _ _ _ _ _ _ _ _ _ _ _ _ _ _ _ _ _ _ _ _ _ _ _ _ _ _ _ _ _ _ (by omega) (by omega) hk0 hN (hkx.own ho) (by omega) (skip _ (fun h _ => absurd h hno) (fun x hx => hx)) hR
theorem znj (S : Store) (L : V) (es : List V) (l : List Chg) (hL : OwnS S L 122 es) (hl : ChgsV S es l) (hes : es.length ≤ 150000) (n last : Nat) (hlast : last ≤ 100000) (hok : ∀ ch ∈ l, z5n n last ch) (at_ mm : Nat) (hat : at_ < l.length) (g : Int → Int) (hm : MG S mm g) :
  EvS cfg 133 [L, .d (.int .i64 (at_ : Int)), .mr mm] S (fun o S' => Keep S S' ∧ ∃ v out, o = .ret v ∧ OwnS S' v 3 (zX out) ∧ out.length ≤ 300000 ∧ WtOk l at_ at_ out) := by
 refine qN rfl zs8 ?_
 show Wp cfg (Try.f133.body.getD .skip) (L :: (.d (.int .i64 (at_ : Int))) :: (.mr mm) :: uZ (uZ (uZ (uZ (uZ ((.tup []) :: (.tup []) :: (.tup []) :: (.tup []) :: (.tup []) :: (.tup []) :: (.tup []) :: (.tup []) :: (.tup []) :: [])))))) S [] _
 unfold uZ
 conv => arg 2; whnf
 rw [zR]
 have hll := hl.1
 have hae : at_ < es.length := by omega
 obtain ⟨id, rfl, hrw, hsl⟩ := zjt hL hae
 obtain ⟨dw, nw, hf, hd6, hn4⟩ := hl.2 at_ es[at_] l[at_] (List.getElem?_eq_getElem (by omega)) (List.getElem?_eq_getElem (by omega))
 have hix2 : zE Try.prog S 119 (.rs id 0 es.length) (.d (.int .i64 (at_ : Int))) = some (.ref id at_ 0) := zl6 hrw (by omega)
 have hre2 : rowE S id at_ = some (.agg [.d (.int .i64 l[at_].id), .d (.int .i64 l[at_].no), .d (.int .i64 l[at_].at_), dw, nw]) := by
  unfold rowE; rw [hrw, ← hf]; exact List.getElem?_eq_getElem (by omega)
 have hln : zI Try.prog S .len [46] [nw] = some (.val (.d (.int .i64 (l[at_].needs.length : Int))) S 0) := by rw [wB Try.underlying46 hn4, zW]
 obtain ⟨_, _, _, g4, g5, g6, g7⟩ := hok l[at_] (List.getElem_mem _)
 have hnl : l[at_].needs.length ≤ 100000 := by have := z7e g6 (fun x hx => (g7 x hx).1) (fun x hx => (g7 x hx).2) (by omega); omega
 have hn1 := qF hn4
 simp (maxSteps:=1000000) (disch:=first|assumption|omega|rfl) only [↓gp, gc, Nat.reduceAdd, hix2, zax, hre2, zan, hln, hn1]
 refine zt6 S (.rs id 0 es.length) at_ mm g hm nw l[at_].needs hn4 hnl _ l[at_].needs.length 0 S (.ts []) [] _ _ _ _ _ _ _ _ _ _ _ _ _ _ _ _ _ _ _ _ _ _ _ _ _ _ _ _ _ _ _ _ _ _ _ _ _ _ _ _ _ _ _ _ _ _ _ _ _ _ _ _ _ _ _ rfl (Nat.zero_le _) Keep.refl (fun j _ => NotAt.ts) (.inl ⟨rfl, rfl⟩) (by simp) ?_
 intro S2 v7 out i' g3 g4 g5 g6 g8 g9 gM gF gG gB gC gA gD gL gN gK gJ gO gP gW gT gU gQ gR gS gV gX gY gf gg gZ gh gj gk gn gr gz hZ xC hH hJ hU hY xA xB xD xE xF xG xH xI xJ xK xL xM hK hN ho hol
 have hsl2 : wD Try.prog S2 119 (.rs id 0 es.length) none (some (.d (.int .i64 (at_ : Int)))) = some (.rs id 0 at_) := by
  obtain ⟨id', e1, _, e2⟩ := zjt (hK.own hL) hae
  cases e1
  exact e2
 have hln2 : zI Try.prog S2 .len [119] [.rs id 0 at_] = some (.val (.d (.int .i64 (at_ : Int))) S2 0) := z9t u119
 simp (maxSteps:=1000000) (disch:=first|assumption|omega|rfl) only [↓gp, gc, Nat.reduceAdd, z76, Option.map_none, Option.map_some, hsl2, hln2]
 refine zse S _ es l hL hl hes n last hok at_ mm id hat rfl hrw l[at_].needs.length hnl _ at_ 0 S2 v7 out _ _ _ _ _ _ _ _ _ _ _ _ _ _ _ _ _ _ _ _ _ _ _ _ _ _ _ _ _ _ _ _ _ _ _ _ _ _ _ _ _ _ _ _ _ _ _ _ _ _ _ _ _ _ _ _ rfl (Nat.zero_le _) hK hN ho (by omega) (fun c _ ch hch => by simp at hch) ?_
 intro S3 v7 out i' g2 g3 g4 g5 g6 g8 g9 gM gF gG gB gC gA gE gH gI gD gL gN gK gJ gO gP gW gT gU gQ gR gS gf gg gZ gh gj gk gn gr gz hZ xC hH hJ hU hY xA xB xD xE xF xG xH xI xJ xK xL xM hK ho hol hw
 have ho1 := qF ho
 simp (maxSteps:=1000000) (disch:=first|assumption|omega|rfl) only [↓gp, gc, Nat.reduceAdd]
 exact ⟨rfl, _, rfl, hK, v7, out, rfl, ho, by omega, hw⟩
theorem zc1 {S : Store} {v : V} {e : TypeId} {xs : List V} {m : Nat} {g : Int → Int} (ho : OwnS S v e xs) (hm : MG S m g) : NotAt v m := by
 obtain ⟨f, ⟨L, c, h1, _⟩, _⟩ := hm
 rcases ho with ⟨rfl, _⟩ | ⟨id, rfl, h2⟩
 ·exact NotAt.ts
 ·intro off k hh
  cases hh
  cases getE h1 h2
theorem zjb {S : Store} {v : V} {e : TypeId} {xs : List V} {m : Nat} {g : Int → Int} {o : Ob} (ho : OwnS S v e xs) (hm : MG S m g) : OwnS (S.set m o) v e xs := by
 have hn := zc1 ho hm
 rcases ho with h | ⟨id, rfl, h2⟩
 ·exact .inl h
 ·exact .inr ⟨id, rfl, by rw [List.getElem?_set_ne (by rintro rfl; exact hn _ _ rfl)]; exact h2⟩
theorem MG.of {S S' : Store} {m : Nat} {g : Int → Int} (h : MG S m g) (hk : S'[m]? = S[m]?) : MG S' m g := by
 obtain ⟨f, h1, h2⟩ := h
 exact ⟨f, h1.keep hk, h2⟩
theorem MG.lt {S : Store} {m : Nat} {g : Int → Int} (h : MG S m g) : m < S.length := by
 obtain ⟨f, h1, h2⟩ := h
 exact h1.lt
theorem q00 {S S' : Store} {m : Nat} {x : Int} (h : z07 Try.prog S 178 (.mr m) (.d (.int .i64 x)) = some S') : zI Try.prog S .delete [178, 3] [.mr m, .d (.int .i64 x)] = some (.val (.tup []) S' 3) := by
 simp only [zI, h, Option.map_some]
theorem zp0 (S : Store) (ml : Nat) (gl : Int → Int) (hm : MG S ml gl) (v34 : V) (w : List Int) (hw : OwnS S v34 3 (zX w)) (hwl : w.length ≤ 300000) (R : Post) :
 ∀ (k i : Nat) (b : Bool) (g0 g1 g2 g3 g4 g6 g7 g8 g9 gF gG gB gC gA gE gH gI gD gL gN gK gJ gO gP gW gT gU gQ gR gS gV gX gZ gh gj gk gn gr gz hZ xC hH hJ hU hY xA xB xD xE xF xG xH xI xJ : V), w.length - i = k → i ≤ w.length → (b = true ↔ ∀ x ∈ w.take i, gl x = 0) →
 (∀ (b' : Bool) i' (_12 _37 _38 _39 _40 _41 _42 _43 _44 _45 _46 _47 : V), (b' = true ↔ ∀ x ∈ w, gl x = 0) → R (.exit 2) (g0 :: g1 :: g2 :: g3 :: g4 :: (.mr ml) :: g6 :: g7 :: g8 :: g9 :: (.d (.bool b')) :: gF :: _12 :: gB :: gC :: gA :: gE :: gH :: gI :: gD :: gL :: gN :: gK :: gJ :: gO :: gP :: gW :: gT :: gU :: gQ :: gR :: gS :: gV :: gX :: v34 :: (.d (.int .i64 (w.length : Int))) :: i' :: _37 :: _38 :: _39 :: _40 :: _41 :: _42 :: _43 :: _44 :: _45 :: _46 :: _47 :: hU :: hY :: xA :: xB :: xD :: xE :: xF :: xG :: xH :: xI :: xJ :: []) S []) →
 Wp cfg (.loop (lpOf (Try.f128.body.getD .skip) 2)) (g0 :: g1 :: g2 :: g3 :: g4 :: (.mr ml) :: g6 :: g7 :: g8 :: g9 :: (.d (.bool b)) :: gF :: gG :: gB :: gC :: gA :: gE :: gH :: gI :: gD :: gL :: gN :: gK :: gJ :: gO :: gP :: gW :: gT :: gU :: gQ :: gR :: gS :: gV :: gX :: v34 :: (.d (.int .i64 (w.length : Int))) :: (.d (.int .i64 (i : Int))) :: gZ :: gh :: gj :: gk :: gn :: gr :: gz :: hZ :: xC :: hH :: hJ :: hU :: hY :: xA :: xB :: xD :: xE :: xF :: xG :: xH :: xI :: xJ :: []) S [] R := by
 intro k
 induction k with
 | zero =>
  intro i b g0 g1 g2 g3 g4 g6 g7 g8 g9 gF gG gB gC gA gE gH gI gD gL gN gK gJ gO gP gW gT gU gQ gR gS gV gX gZ gh gj gk gn gr gz hZ xC hH hJ hU hY xA xB xD xE xF xG xH xI xJ hk hi hb hR
  have hie : i = w.length := by omega
  subst hie
  rw [List.take_length] at hb
  rw [zR]
  refine zJ ?_
  conv => arg 2; whnf
  simp (maxSteps:=1000000) (disch:=first|assumption|omega|rfl) only [↓gp, gc, Nat.reduceAdd]
  exact hR _ _ _ _ _ _ _ _ _ _ _ _ _ _ hb
 | succ k ih =>
  intro i b g0 g1 g2 g3 g4 g6 g7 g8 g9 gF gG gB gC gA gE gH gI gD gL gN gK gJ gO gP gW gT gU gQ gR gS gV gX gZ gh gj gk gn gr gz hZ xC hH hJ hU hY xA xB xD xE xF xG xH xI xJ hk hi hb hR
  have hlt : i < w.length := by omega
  have h3 : IntKind.i64.wrap ((i : Int) + 1) = ((i + 1 : Nat) : Int) := by rw [wrap64 (by omega)]; omega
  obtain ⟨id, hix, hre, _⟩ := wH Try.underlying46 s3z hw (i := i) (by rw [zW]; exact hlt)
  have hre : rowE S id i = some (.d (.int .i64 w[i])) := by rw [hre]; simp [zX]
  have hlk := hm.look w[i]
  rw [zR]
  refine zJ ?_
  conv => arg 2; whnf
  cases b with
  | false =>
   simp (maxSteps:=1000000) (disch:=first|assumption|omega|rfl) only [↓gp, gc, Nat.reduceAdd, hix, hre, ld3r, h3]
   refine ih (i + 1) false _ _ _ _ _ _ _ _ _ _ _ _ _ _ _ _ _ _ _ _ _ _ _ _ _ _ _ _ _ _ _ _ _ _ _ _ _ _ _ _ _ _ _ _ _ _ _ _ _ _ _ _ _ _ (by omega) (by omega) ⟨fun h => (Bool.false_ne_true h).elim, fun h => hb.2 fun x hx => h x ?_⟩ hR
   rw [wI hlt]
   exact List.mem_append_left _ hx
  | true =>
   have hall := hb.1 rfl
   by_cases hg : gl w[i] = 0
   ·simp (maxSteps:=1000000) (disch:=first|assumption|omega|rfl) only [↓gp, gc, Nat.reduceAdd, hix, hre, ld3r, hlk, hg, zL, h3]
    refine ih (i + 1) true _ _ _ _ _ _ _ _ _ _ _ _ _ _ _ _ _ _ _ _ _ _ _ _ _ _ _ _ _ _ _ _ _ _ _ _ _ _ _ _ _ _ _ _ _ _ _ _ _ _ _ _ _ _ (by omega) (by omega) ⟨fun _ x hx => ?_, fun _ => rfl⟩ hR
    rw [wI hlt] at hx
    rcases List.mem_append.1 hx with hx | hx
    ·exact hall x hx
    ·simp only [List.mem_singleton] at hx
     rw [hx]; exact hg
   ·have hde : ∀ i' : Decidable (gl w[i] = 0), @decide (gl w[i] = 0) i' = false := fun i' => decide_eq_false hg
    simp (maxSteps:=1000000) (disch:=first|assumption|omega|rfl) only [↓gp, gc, Nat.reduceAdd, hix, hre, ld3r, hlk, hde, h3]
    refine ih (i + 1) false _ _ _ _ _ _ _ _ _ _ _ _ _ _ _ _ _ _ _ _ _ _ _ _ _ _ _ _ _ _ _ _ _ _ _ _ _ _ _ _ _ _ _ _ _ _ _ _ _ _ _ _ _ _ (by omega) (by omega) ⟨fun h => (Bool.false_ne_true h).elim, fun h => absurd (h w[i] ?_) hg⟩ hR
    rw [wI hlt]
    exact List.mem_append_right _ (List.mem_singleton.2 rfl)
def RdOk (l : List Chg) (no : Int) (i : Nat) (out : List Int) : Prop :=
 (∀ x ∈ out, ∃ ch ∈ l.take i, ch.id = x ∧ ch.no = no) ∧ ∀ (j : Nat) (c : Chg), l[j]? = some c → c.id ∈ out → ∀ ch ∈ l.take j, ch.no = no → z3x ch.at_ ch.data c.at_ c.data → ch.id ∈ out
theorem ziy {l : List Chg} (h : l.Pairwise (fun a b => a.id < b.id)) {i j : Nat} {a b : Chg} (hi : l[i]? = some a) (hj : l[j]? = some b) (he : a.id = b.id) : i = j := by
 have hp := List.pairwise_iff_getElem.1 h
 obtain ⟨i1, i2⟩ := List.getElem?_eq_some_iff.1 hi
 obtain ⟨j1, j2⟩ := List.getElem?_eq_some_iff.1 hj
 rcases Nat.lt_trichotomy i j with hl | hl | hl
 ·have := hp i j i1 j1 hl; rw [i2, j2] at this; omega
 ·exact hl
 ·have := hp j i j1 i1 hl; rw [i2, j2] at this; omega
theorem RdOk.skip {l : List Chg} {no : Int} {i : Nat} {out : List Int} (h : RdOk l no i out) : RdOk l no (i + 1) out :=
 ⟨fun x hx => by
  obtain ⟨ch, h1, h2⟩ := h.1 x hx
  exact ⟨ch, (List.take_subset_take_left l (by omega)) h1, h2⟩, h.2⟩
theorem RdOk.snoc {l : List Chg} {no : Int} {i : Nat} {out : List Int} (h : RdOk l no i out) (hp : l.Pairwise (fun a b => a.id < b.id)) {c : Chg} (hc : l[i]? = some c) (hno : c.no = no) (hw : ∀ ch ∈ l.take i, ch.no = no → z3x ch.at_ ch.data c.at_ c.data → ch.id ∈ out) : RdOk l no (i + 1) (out ++ [c.id]) := by
 obtain ⟨i1, i2⟩ := List.getElem?_eq_some_iff.1 hc
 refine ⟨fun x hx => ?_, fun j d hd hm ch hch e1 e2 => ?_⟩
 ·rcases List.mem_append.1 hx with hx | hx
  ·exact h.skip.1 x hx
  ·simp only [List.mem_singleton] at hx
   subst hx
   exact ⟨c, by rw [wI i1, ← i2]; exact List.mem_append_right _ (List.mem_singleton.2 rfl), rfl, hno⟩
 ·rcases List.mem_append.1 hm with hm | hm
  ·exact List.mem_append_left _ (h.2 j d hd hm ch hch e1 e2)
  ·simp only [List.mem_singleton] at hm
   have := ziy hp hd hc hm
   subst this
   rw [hd] at hc
   cases hc
   exact List.mem_append_left _ (hw ch hch e1 e2)
theorem zu1 (no : Int) (S0 : Store) (L : V) (es : List V) (l : List Chg) (hL : OwnS S0 L 122 es) (hl : ChgsV S0 es l) (hes : es.length ≤ 150000) (n last : Nat) (hlast : last ≤ 100000) (hok : ∀ ch ∈ l, z5n n last ch) (hids : l.Pairwise (fun a b => a.id < b.id)) (ml mi : Nat) (hml : S0.length ≤ ml) (hmi : ml < mi) (gi : Int → Int) (R : Post) :
 ∀ (k i : Nat) (S : Store) (v7 : V) (out : List Int) (gl : Int → Int) (g2 g3 g4 g8 g9 gM gF gG gB gC gA gE gH gI gD gJ gO gP gW gT gU gQ gR gS gV gX gY gf gg gZ gh gj gk gn gr gz hZ xC hH hJ hU hY xA xB xD xE xF xG xH xI xJ : V), l.length - i = k → i ≤ l.length → Keep S0 S → MG S ml gl → MG S mi gi → (∀ j, j < S0.length → NotAt v7 j) → OwnS S v7 3 (zX out) → out.length ≤ i → RdOk l no i out → (∀ n, gl n ≠ 0 ↔ (∃ ch ∈ l, ch.id = n) ∧ n ∉ out) →
 (∀ S v7 out i' g2 g3 g4 g8 g9 gM gF gG gB gC gA gE gH gI gD gJ gO gP gW gT gU gQ gR gS gV gX gY gf gg gZ gh gj gk gn gr gz hZ xC hH hJ hU hY xA xB xD xE xF xG xH xI xJ, Keep S0 S → OwnS S v7 3 (zX out) → out.length ≤ l.length → RdOk l no l.length out → R (.exit 0) (L :: (.d (.int .i64 no)) :: g2 :: g3 :: g4 :: (.mr ml) :: (.mr mi) :: v7 :: g8 :: g9 :: gM :: gF :: gG :: gB :: gC :: gA :: gE :: gH :: gI :: gD :: L :: (.d (.int .i64 (l.length : Int))) :: i' :: gJ :: gO :: gP :: gW :: gT :: gU :: gQ :: gR :: gS :: gV :: gX :: gY :: gf :: gg :: gZ :: gh :: gj :: gk :: gn :: gr :: gz :: hZ :: xC :: hH :: hJ :: hU :: hY :: xA :: xB :: xD :: xE :: xF :: xG :: xH :: xI :: xJ :: []) S []) →
 Wp cfg (.loop (lpOf (Try.f128.body.getD .skip) 0)) (L :: (.d (.int .i64 no)) :: g2 :: g3 :: g4 :: (.mr ml) :: (.mr mi) :: v7 :: g8 :: g9 :: gM :: gF :: gG :: gB :: gC :: gA :: gE :: gH :: gI :: gD :: L :: (.d (.int .i64 (l.length : Int))) :: (.d (.int .i64 (i : Int))) :: gJ :: gO :: gP :: gW :: gT :: gU :: gQ :: gR :: gS :: gV :: gX :: gY :: gf :: gg :: gZ :: gh :: gj :: gk :: gn :: gr :: gz :: hZ :: xC :: hH :: hJ :: hU :: hY :: xA :: xB :: xD :: xE :: xF :: xG :: xH :: xI :: xJ :: []) S [] R := by
 intro k
 have hll := hl.1
 induction k with
 | zero =>
  intro i S v7 out gl g2 g3 g4 g8 g9 gM gF gG gB gC gA gE gH gI gD gJ gO gP gW gT gU gQ gR gS gV gX gY gf gg gZ gh gj gk gn gr gz hZ xC hH hJ hU hY xA xB xD xE xF xG xH xI xJ hk hi hK hm1 hm2 hN ho hol hrd hgl hR
  have hie : i = l.length := by omega
  subst hie
  rw [zR]
  refine zJ ?_
  conv => arg 2; whnf
  simp (maxSteps:=1000000) (disch:=first|assumption|omega|rfl) only [↓gp, gc, Nat.reduceAdd]
  exact hR _ _ _ _ _ _ _ _ _ _ _ _ _ _ _ _ _ _ _ _ _ _ _ _ _ _ _ _ _ _ _ _ _ _ _ _ _ _ _ _ _ _ _ _ _ _ _ _ _ _ _ _ _ _ _ hK ho hol hrd
 | succ k ih =>
  intro i S v7 out gl g2 g3 g4 g8 g9 gM gF gG gB gC gA gE gH gI gD gJ gO gP gW gT gU gQ gR gS gV gX gY gf gg gZ gh gj gk gn gr gz hZ xC hH hJ hU hY xA xB xD xE xF xG xH xI xJ hk hi hK hm1 hm2 hN ho hol hrd hgl hR
  have hlt : i < l.length := by omega
  have hlt2 : i < es.length := by omega
  obtain ⟨id', hix, hre, _⟩ := wH u119 s122 (hK.own hL) hlt2
  obtain ⟨dv, nv, he, hd5, hn3⟩ := hl.2 i es[i] l[i] (List.getElem?_eq_getElem hlt2) (List.getElem?_eq_getElem hlt)
  rw [he] at hre
  have h3 : IntKind.i64.wrap ((i : Int) + 1) = ((i + 1 : Nat) : Int) := by rw [wrap64 (by omega)]; omega
  have hkx : Keep S (S ++ [.row [.agg [.d (.int .i64 l[i].id), .d (.int .i64 l[i].no), .d (.int .i64 l[i].at_), dv, nv]] 122]) := Keep.refl.app
  have hk0 := hK.trans hkx
  generalize ha : S.length = a
  rw [zR]
  refine zJ ?_
  conv => arg 2; whnf
  by_cases hno : l[i].no = no
  ·have hde : ∀ i' : Decidable (l[i].no ≠ no), @decide (l[i].no ≠ no) i' = false := fun i' => decide_eq_false (fun h => h hno)
   obtain ⟨o, S2, ⟨hK2, v34, w, rfl, hw34, hwl, hwt⟩, hE⟩ := qR (znj _ L es l (hk0.own hL) (hl.mono (fun _ _ => hk0.own) (fun _ _ => hk0.own)) hes n last hlast hok i mi hlt gi (hm2.keep hkx))
   have hE := fun {ops dst k T F Q} => zQ (ops := ops) (dst := dst) (l := k) (T := T) (F := F) (Q := Q) rfl hE
   have hK02 := hk0.trans hK2
   have hm12 := hm1.keep (hkx.trans hK2)
   have hm22 := hm2.keep (hkx.trans hK2)
   have ho2 := (hkx.trans hK2).own ho
   have hln : zI Try.prog S2 .len [46] [v34] = some (.val (.d (.int .i64 (w.length : Int))) S2 0) := by rw [wB Try.underlying46 hw34, zW]
   have hL1 := qF hL
   simp (maxSteps:=1000000) (disch:=first|assumption|omega|rfl) only [↓gp, gc, Nat.reduceAdd, hix, hre, z2n, z122, z23, z48, ha, rA0 ha, pA0 ha, z08, z0f, hde, hE, zu5, hln, hL1]
   have hrow : S2[a]? = some (.row [.agg [.d (.int .i64 l[i].id), .d (.int .i64 l[i].no), .d (.int .i64 l[i].at_), dv, nv]] 122) := hK2 _ _ (by subst ha; simp)
   have hra := zK (e := 122) hrow
   refine zp0 S2 ml gl hm12 v34 w hw34 hwl _ w.length 0 true _ _ _ _ _ _ _ _ _ _ _ _ _ _ _ _ _ _ _ _ _ _ _ _ _ _ _ _ _ _ _ _ _ _ _ _ _ _ _ _ _ _ _ _ _ _ _ _ _ _ _ _ _ _ rfl (Nat.zero_le _) (by simp) ?_
   intro b' i' gG gZ gh gj gk gn gr gz hZ xC hH hJ hb
   cases b' with
   | false =>
    simp (maxSteps:=1000000) (disch:=first|assumption|omega|rfl) only [↓gp, gc, Nat.reduceAdd, h3]
    exact ih (i + 1) S2 v7 out gl _ _ _ _ _ _ _ _ _ _ _ _ _ _ _ _ _ _ _ _ _ _ _ _ _ _ _ _ _ _ _ _ _ _ _ _ _ _ _ _ _ _ _ _ _ _ _ _ _ _ _ (by omega) (by omega) hK02 hm12 hm22 hN ho2 (by omega) hrd.skip hgl hR
   | true =>
    have hall := hb.1 rfl
    obtain ⟨o, ho3, hm3, es', c', ho4⟩ := hm12.del l[i].id
    have hd := q00 ho3
    have hmlt := hm12.lt
    have hne : a ≠ ml := by
     rintro rfl
     obtain ⟨f, ⟨_, _, q1, _⟩, _⟩ := hm12
     cases getE hrow q1
    have hra3 : rowE (S2.set ml o) a 0 = some (.agg [.d (.int .i64 l[i].id), .d (.int .i64 l[i].no), .d (.int .i64 l[i].at_), dv, nv]) := zK (e := 122) (by rw [List.getElem?_set_ne (Ne.symm hne)]; exact hrow)
    have ho5 := zjb (o := o) ho2 hm12
    obtain ⟨v', S4, cst, hap, ho6, hfr, hlen⟩ := ap46 l[i].id ho5 (by omega)
    simp (maxSteps:=1000000) (disch:=first|assumption|omega|rfl) only [↓gp, gc, Nat.reduceAdd, hra, hra3, z1j, z19, hd, hap, h3]
    have hN2 : ∀ j, j < S0.length → NotAt v' j := fun j hj => (hfr j _ (by rw [List.getElem?_set_ne (by omega)]; exact hK02 j _ (List.getElem?_eq_getElem hj)) (hN j hj)).2
    have hmi2 : ((S2.set ml o))[mi]? = S2[mi]? := List.getElem?_set_ne (by omega)
    have hm23 : MG (S2.set ml o) mi gi := hm22.of hmi2
    have mv : ∀ {m : Nat} {g : Int → Int}, MG (S2.set ml o) m g → MG S4 m g := fun {m g} h => h.of (by
     have hlt3 := h.lt
     rw [(hfr m _ (List.getElem?_eq_getElem hlt3) (zc1 ho5 h)).1, List.getElem?_eq_getElem hlt3])
    refine ih (i + 1) S4 v' (out ++ [l[i].id]) _ _ _ _ _ _ _ _ _ _ _ _ _ _ _ _ _ _ _ _ _ _ _ _ _ _ _ _ _ _ _ _ _ _ _ _ _ _ _ _ _ _ _ _ _ _ _ _ _ _ _ _ (by omega) (by omega) (fun j q hj => (hfr j q (by rw [List.getElem?_set_ne (by have := zN hj; omega)]; exact hK02 j q hj) (hN j (zN hj))).1) (mv hm3) (mv hm23) hN2 ho6 (by simp; omega) ?_ ?_ hR
    ·refine hrd.snoc hids (List.getElem?_eq_getElem hlt) hno fun ch hch e1 e2 => ?_
     have h5 := hwt l[i] (List.getElem?_eq_getElem hlt) ch hch (e1.trans hno.symm) e2
     have h6 := hall _ h5
     by_cases hin : ch.id ∈ out
     ·exact hin
     ·exact absurd h6 ((hgl ch.id).2 ⟨⟨ch, List.mem_of_mem_take hch, rfl⟩, hin⟩)
    ·intro x
     unfold updG
     by_cases e : x = l[i].id
     ·rw [if_pos e]
      refine ⟨fun h => absurd rfl h, fun h => absurd ?_ h.2⟩
      exact List.mem_append_right _ (List.mem_singleton.2 e)
     ·rw [if_neg e, hgl x, List.mem_append, List.mem_singleton]
      exact ⟨fun h => ⟨h.1, fun hh => hh.elim h.2 e⟩, fun h => ⟨h.1, fun hh => h.2 (.inl hh)⟩⟩
  ·have hde : ∀ i' : Decidable (l[i].no ≠ no), @decide (l[i].no ≠ no) i' = true := fun i' => decide_eq_true hno
   simp (maxSteps:=1000000) (disch:=first|assumption|omega|rfl) only [↓gp, gc, Nat.reduceAdd, hix, hre, z2n, z122, z23, z48, ha, rA0 ha, pA0 ha, z08, z0f, hde, h3]
   exact ih (i + 1) _ v7 out gl _ _ _ _ _ _ _ _ _ _ _ _ _ _ _ _ _ _ _ _ _ _ _ _ _ _ _ _ _ _ _ _ _ _ _ _ _ _ _ _ _ _ _ _ _ _ _ _ _ _ _ (by omega) (by omega) hk0 (hm1.keep hkx) (hm2.keep hkx) hN (hkx.own ho) (by omega) hrd.skip hgl hR
theorem zn0 (no : Int) (S : Store) (L : V) (es : List V) (l : List Chg) (hL : OwnS S L 122 es) (hl : ChgsV S es l) (hes : es.length ≤ 150000) (n last : Nat) (hlast : last ≤ 100000) (hok : ∀ ch ∈ l, z5n n last ch) (hids : l.Pairwise (fun a b => a.id < b.id)) :
  EvS cfg 128 [L, .d (.int .i64 no)] S (fun o S' => Keep S S' ∧ ∃ v out, o = .ret v ∧ OwnS S' v 3 (zX out) ∧ out.length ≤ l.length ∧ RdOk l no l.length out) := by
 refine qN rfl zra ?_
 show Wp cfg (Try.f128.body.getD .skip) (L :: (.d (.int .i64 no)) :: uZ (uZ (uZ (uZ (uZ ((.tup []) :: (.tup []) :: (.tup []) :: (.tup []) :: (.tup []) :: (.tup []) :: (.tup []) :: [])))))) S [] _
 unfold uZ
 conv => arg 2; whnf
 rw [zR]
 have hL1 := qF hL
 obtain ⟨o, S1, ⟨hK1, rfl⟩, hE1⟩ := qR (zkm n last hlast S L es l hL hl (by omega) hok hids)
 have hE1 := fun {ops dst k T F Q} => zQ (ops := ops) (dst := dst) (l := k) (T := T) (F := F) (Q := Q) rfl hE1
 obtain ⟨o, S2, ⟨hK2, ml, gl, rfl, hml, hm1, hgl⟩, hE2⟩ := qR (zfk S1 L es l (hK1.own hL) (hl.mono (fun _ _ => hK1.own) (fun _ _ => hK1.own)) (by omega))
 have hE2 := fun {ops dst k T F Q} => zQ (ops := ops) (dst := dst) (l := k) (T := T) (F := F) (Q := Q) rfl hE2
 have hK02 := hK1.trans hK2
 obtain ⟨o, S3, ⟨hK3, mi, gi, rfl, hmi, hm2, hgi⟩, hE3⟩ := qR (zfk S2 L es l (hK02.own hL) (hl.mono (fun _ _ => hK02.own) (fun _ _ => hK02.own)) (by omega))
 have hE3 := fun {ops dst k T F Q} => zQ (ops := ops) (dst := dst) (l := k) (T := T) (F := F) (Q := Q) rfl hE3
 have hK03 := hK02.trans hK3
 have hln : zI Try.prog S3 .len [119] [L] = some (.val (.d (.int .i64 (l.length : Int))) S3 0) := by rw [wB u119 (hK03.own hL), hl.1]
 have hlt := hm1.lt
 have hl1 := hK1.len
 simp (maxSteps:=1000000) (disch:=first|assumption|omega|rfl) only [↓gp, gc, Nat.reduceAdd, hL1, hE1, zyu, hE2, zu9, hE3, hln]
 refine zu1 no S L es l hL hl hes n last hlast hok hids ml mi (by omega) (by omega) gi _ l.length 0 S3 (.ts []) [] gl _ _ _ _ _ _ _ _ _ _ _ _ _ _ _ _ _ _ _ _ _ _ _ _ _ _ _ _ _ _ _ _ _ _ _ _ _ _ _ _ _ _ _ _ _ _ _ _ _ _ _ rfl (Nat.zero_le _) hK03 (hm1.keep hK3) hm2 (fun j _ => NotAt.ts) (.inl ⟨rfl, rfl⟩) (by simp) ⟨fun x hx => by simp at hx, fun j c _ hc => by simp at hc⟩ (fun x => by rw [hgl x]; simp) ?_
 intro S4 v7 out i' g2 g3 g4 g8 g9 gM gF gG gB gC gA gE gH gI gD gJ gO gP gW gT gU gQ gR gS gV gX gY gf gg gZ gh gj gk gn gr gz hZ xC hH hJ hU hY xA xB xD xE xF xG xH xI xJ hK ho hol hrd
 have ho1 := qF ho
 simp (maxSteps:=1000000) (disch:=first|assumption|omega|rfl) only [↓gp, gc, Nat.reduceAdd]
 exact ⟨rfl, _, rfl, hK, v7, out, rfl, ho, hol, hrd⟩
section
variable {a b c : Int} {dv nv : V} {id n : Nat}
theorem zko : qL Try.prog 40 3 (some (.agg [.d (.int .i64 a), .d (.int .i64 b), .d (.int .i64 c), dv, nv])) = some dv := by kernel_rfl
theorem zjk : qI Try.prog 40 3 (.rs id 0 n) (.agg [.d (.int .i64 a), .d (.int .i64 b), .d (.int .i64 c), dv, nv]) = some (.agg [.d (.int .i64 a), .d (.int .i64 b), .d (.int .i64 c), .rs id 0 n, nv]) := by kernel_rfl
theorem zte : qI Try.prog 46 4 (.rs id 0 n) (.agg [.d (.int .i64 a), .d (.int .i64 b), .d (.int .i64 c), dv, nv]) = some (.agg [.d (.int .i64 a), .d (.int .i64 b), .d (.int .i64 c), dv, .rs id 0 n]) := by kernel_rfl
theorem zqm : qI Try.prog 46 4 (.ts []) (.agg [.d (.int .i64 a), .d (.int .i64 b), .d (.int .i64 c), dv, nv]) = some (.agg [.d (.int .i64 a), .d (.int .i64 b), .d (.int .i64 c), dv, .ts []]) := by kernel_rfl
theorem zo6 : zZ Try.prog 122 (.agg [.d (.int .i64 a), .d (.int .i64 b), .d (.int .i64 c), dv, nv]) = true := by kernel_rfl
end
theorem zj2 {S : Store} {T : List V} {dst : Option Tmp} {ty : TypeId} {pos : String} {after : Array Edge} {g : Option (Nat × Bool)} : opV Try.prog S T ⟨dst, .buildSlice 46 0 #[], ty, pos, after, g⟩ = some (.val (.ts []) S 0) := by kernel_rfl
theorem znb {m : Nat} : qL Try.prog 178 0 (some (.mr m)) = some (.mr m) := by kernel_rfl
theorem z178 : zeroV Try.prog 178 = some (.d .nilm) := by kernel_rfl
theorem zxx {m : Nat} : qI Try.prog 178 0 (.mr m) (.d .nilm) = some (.mr m) := by kernel_rfl
theorem zlc {S : Store} {nv : V} {l : List Int} (h : OwnS S nv 3 (zX l)) (h0 : l ≠ []) (hl : l.length ≤ 300000) : qE Try.prog S 46 46 (.ts []) nv = some (.rs S.length 0 l.length, S ++ [.row (zX l) 3], 2) := by
 obtain ⟨y, r, hyr⟩ : ∃ y r, l = y :: r := by
  cases l with
  | nil => exact absurd rfl h0
  | cons y r => exact ⟨y, r, rfl⟩
 have he : kA S nv = some (zX l) := by
  rcases h with ⟨rfl, h2⟩ | ⟨id, rfl, h2⟩
  ·subst hyr; cases h2
  ·simp only [kA, h2, Nat.zero_add, Nat.le_refl, if_true, List.drop_zero, List.take_length]
 have hs : ∀ s, nv ≠ .d (.str s) := by
  intro s hh
  rcases z1r h with h | ⟨_, _, h⟩ <;> (rw [h] at hh; cases hh)
 have hf : (zX l).all (zZ Try.prog 3) = true := by
  rw [List.all_eq_true]
  intro x hx
  obtain ⟨y, _, rfl⟩ := List.mem_map.1 hx
  exact za2 y
 have src : srcV Try.prog S 3 46 nv = some (zX l) := by
  have h6 : (sz Try.prog 3).isSome = true := s3z
  unfold srcV
  split
  ·rename_i s; exact absurd rfl (hs s)
  ·simp only [Try.underlying46, he, hf, h6, Bool.and_self, if_true]
 subst hyr
 have hr : room Try.prog 3 (0 + ((zX r).length + 1)) = true := zks (by rw [zW]; simp at hl; omega)
 have hz : zOk Try.prog 3 = true := zsn
 have e : zX (y :: r) = .d (.int .i64 y) :: zX r := rfl
 rw [e] at src
 simp only [qE, Try.underlying46, src, hz, if_true, List.all_nil, List.length_nil, hr, Bool.and_self, List.map_nil, List.nil_append]
 rw [e]
 simp [zW]
theorem zit {S : Store} {nv : V} (h : OwnS S nv 3 (zX [])) : qE Try.prog S 46 46 (.ts []) nv = some (.ts [], S, 1) := by
 have he : kA S nv = some [] := by
  rcases h with ⟨rfl, h2⟩ | ⟨id, rfl, h2⟩
  ·rfl
  ·simp only [kA, h2]; rfl
 have src : srcV Try.prog S 3 46 nv = some [] := by
  have h6 : (sz Try.prog 3).isSome = true := s3z
  rcases z1r h with h | ⟨_, _, h⟩
  ·subst h; simp only [srcV, Try.underlying46, he, h6]; rfl
  ·subst h; simp only [srcV, Try.underlying46, he, h6]; rfl
 simp only [qE, Try.underlying46, src]
theorem ChgV.form {S : Store} {v : V} {ch : Chg} (h : ChgV S v ch) (h1 : 1 ≤ ch.data.length) : ∃ dv nv id, v = .agg [.d (.int .i64 ch.id), .d (.int .i64 ch.no), .d (.int .i64 ch.at_), dv, nv] ∧ OwnS S dv 5 (bysV ch.data) ∧ OwnS S nv 3 (zX ch.needs) ∧ dv = .rs id 0 ch.data.length := by
 obtain ⟨dv, nv, h2, h3, h4⟩ := h
 rcases h3 with ⟨rfl, h5⟩ | ⟨id, rfl, h5⟩
 ·have : (bysV ch.data).length = 0 := by rw [h5]; rfl
  unfold bysV at this
  rw [List.length_map] at this
  omega
 ·refine ⟨_, nv, id, h2, .inr ⟨id, rfl, h5⟩, h4, ?_⟩
  unfold bysV; rw [List.length_map]
theorem zkc (S : Store) (v : V) (ch : Chg) (hv : ChgV S v ch) (hp : kW ch.at_ ch.data) (hn : ch.needs.length ≤ 300000) : EvS cfg 127 [v] S (fun o S' => Keep S S' ∧ ∃ u, o = .ret u ∧ ChgV S' u ch) := by
 obtain ⟨dv, nv, id, rfl, hd, hn3, hdv⟩ := hv.form hp.1
 refine qN rfl zr2 ?_
 show Wp cfg (Try.f127.body.getD .skip) ((.agg [.d (.int .i64 ch.id), .d (.int .i64 ch.no), .d (.int .i64 ch.at_), dv, nv]) :: uZ ((.tup []) :: (.tup []) :: (.tup []) :: (.tup []) :: (.tup []) :: [])) S [] _
 unfold uZ
 conv => arg 2; whnf
 rw [zR]
 generalize ha : S.length = a
 have hb0 : ch.data ≠ [] := by intro h; have := hp.1; rw [h] at this; simp at this
 have hkx : ∀ s, Keep S (S ++ s) := fun s => Keep.refl.app
 have hpv : ∀ s, PatV (S ++ s) (.agg [.d (.int .i64 ch.at_), dv]) dv ch.at_ ch.data := fun s => .inl ⟨rfl, .inl ((hkx s).own hd)⟩
 have hap := fun s => (hpv s).app hb0 (by have := hp.2.1; omega)
 have hby : (rowY ch.data) = .row (bysV ch.data) 5 := rfl
 by_cases h0 : ch.needs = []
 ·have hap2 : ∀ s, qE Try.prog (S ++ s) 46 46 (.ts []) nv = some (.ts [], S ++ s, 1) := fun s => zit ((hkx s).own (h0 ▸ hn3))
  have hd1 := qF hd
  have hn1 := qF hn3
  simp (maxSteps:=1000000) (disch:=first|assumption|omega|rfl) only [↓gp, gc, Nat.reduceAdd, ↓vbs, zo6, z122, z23, ha, rA0 ha, pA0 ha, rA1 ha, pA1 ha, z7u, zj2, z0i, zax, z1w, zko, zan, hap, hap2, zjk, zqm, z2n, z48, hd1, hn1, List.append_assoc, List.length_append, List.length_cons, List.length_nil]
  refine ⟨rfl, _, z0q (x := .ref (a + 1) 0 0) rfl ((zM (rA1 ha)).trans z2n), Keep.refl.app, _, rfl, _, _, rfl, ?_, ?_⟩
  ·refine .inr ⟨a + 2, ?_, ?_⟩
   ·unfold bysV; rw [List.length_map]
   ·rw [List.getElem?_append_right (by omega), ha, Nat.add_sub_cancel_left]; rfl
  ·rw [h0]; exact .inl ⟨rfl, rfl⟩
 ·have hap2 : ∀ s, qE Try.prog (S ++ s) 46 46 (.ts []) nv = some (.rs (S ++ s).length 0 ch.needs.length, (S ++ s) ++ [.row (zX ch.needs) 3], 2) := fun s => zlc ((hkx s).own hn3) h0 hn
  have hd1 := qF hd
  have hn1 := qF hn3
  simp (maxSteps:=1000000) (disch:=first|assumption|omega|rfl) only [↓gp, gc, Nat.reduceAdd, ↓vbs, zo6, z122, z23, ha, rA0 ha, pA0 ha, rA1 ha, pA1 ha, z7u, zj2, z0i, zax, z1w, zko, zan, hap, hap2, zjk, zte, z2n, z48, hd1, hn1, List.append_assoc, List.length_append, List.length_cons, List.length_nil]
  refine ⟨rfl, _, z0q (x := .ref (a + 1) 0 0) rfl ((zM (rA1 ha)).trans z2n), Keep.refl.app, _, rfl, _, _, rfl, ?_, ?_⟩
  ·refine .inr ⟨a + 2, ?_, ?_⟩
   ·unfold bysV; rw [List.length_map]
   ·rw [List.getElem?_append_right (by omega), ha, Nat.add_sub_cancel_left]; rfl
  ·refine .inr ⟨a + 3, ?_, ?_⟩
   ·rw [zW]
   ·rw [List.getElem?_append_right (by omega), ha, Nat.add_sub_cancel_left]; rfl
theorem zye (S : Store) (v : V) (ch : Chg) (hv : ChgV S v ch) (p m : Nat) (g : Int → Int) (hp : S[p]? = some (.row [.mr m] 178)) (hm : MG S m g) : EvS cfg 123 [v, .ref p 0 0] S (fun o S' => Keep S S' ∧ o = .ret (.d (.bool (decide (g ch.id = 0))))) := by
 obtain ⟨dv, nv, rfl, hd, hn3⟩ := hv
 refine qN rfl zsg ?_
 show Wp cfg (Try.f123.body.getD .skip) ((.agg [.d (.int .i64 ch.id), .d (.int .i64 ch.no), .d (.int .i64 ch.at_), dv, nv]) :: (.ref p 0 0) :: (.tup []) :: (.tup []) :: (.tup []) :: (.tup []) :: (.tup []) :: (.tup []) :: (.tup []) :: []) S [] _
 conv => arg 2; whnf
 rw [zR]
 have hk : Keep S (S ++ [.row [.agg [.d (.int .i64 ch.id), .d (.int .i64 ch.no), .d (.int .i64 ch.at_), dv, nv]] 122]) := Keep.refl.app
 have hr : ∀ s, rowE (S ++ s) p 0 = some (.mr m) := fun s => zK (e := 178) ((Keep.refl.app (l := s)) _ _ hp)
 have hlk := (hm.keep hk).look ch.id
 generalize ha : S.length = a
 simp (maxSteps:=1000000) (disch:=first|assumption|omega|rfl) only [↓gp, gc, Nat.reduceAdd, zo6, ha, rA0 ha, hr, znb, z1j, z19, hlk]
 exact ⟨rfl, _, rfl, hk, rfl⟩
theorem mfWi {S : Store} {a : Nat} : mfS (.func 123) S [] [.ref a 0 0] = some (.val (.fn (.func 123) [] [.ref a 0 0]) S 0) := z62 rfl
theorem ziz {f : Fn} {a b : List V} : (V.fn f a b).one = true := rfl
theorem cvWi {v : V} {p : Nat} (h : v.one = true) : cvV Try.prog [v] (.fn (.func 123) [] [.ref p 0 0]) = some (.enter 123 [v, .ref p 0 0]) := zp6 (by simp [h]) zqx
theorem ChgV.keep {S S' : Store} {v : V} {ch : Chg} (h : ChgV S v ch) (hk : Keep S S') : ChgV S' v ch := h.mono (fun _ _ => hk.own) (fun _ _ => hk.own)
theorem ChgsV.keep {S S' : Store} {es : List V} {l : List Chg} (h : ChgsV S es l) (hk : Keep S S') : ChgsV S' es l := h.mono (fun _ _ => hk.own) (fun _ _ => hk.own)
theorem z34 {S : Store} {v : V} {e : TypeId} {xs ys : List V} {i : Nat} {o : Ob} (h : OwnS S v e xs) (hi : S[i]? = some (.row ys 122)) (he : e ≠ 122) : OwnS (S.set i o) v e xs := by
 rcases h with h | ⟨id, rfl, h2⟩
 ·exact .inl h
 ·refine .inr ⟨id, rfl, ?_⟩
  rw [List.getElem?_set_ne (by rintro rfl; cases getE hi h2; exact he rfl)]
  exact h2
theorem ChgsV.set122 {S : Store} {es : List V} {l : List Chg} {ys : List V} {i : Nat} {o : Ob} (h : ChgsV S es l) (hi : S[i]? = some (.row ys 122)) : ChgsV (S.set i o) es l := h.mono (fun _ _ hh => z34 hh hi (by decide)) (fun _ _ hh => z34 hh hi (by decide))
theorem ChgsV.snoc {S : Store} {es : List V} {l : List Chg} {e : V} {ch : Chg} (h : ChgsV S es l) (he : ChgV S e ch) : ChgsV S (es ++ [e]) (l ++ [ch]) := by
 refine ⟨by rw [List.length_append, List.length_append, h.1]; rfl, fun i v c hv hc => ?_⟩
 rcases Nat.lt_or_ge i es.length with hi | hi
 ·rw [List.getElem?_append_left hi] at hv
  rw [List.getElem?_append_left (by rw [← h.1]; exact hi)] at hc
  exact h.2 i v c hv hc
 ·rw [List.getElem?_append_right hi] at hv
  rw [List.getElem?_append_right (by rw [← h.1]; exact hi), ← h.1] at hc
  have hz : i - es.length = 0 := by
   have := (List.getElem?_eq_some_iff.1 hv).1
   simp at this
   omega
  rw [hz] at hv hc
  cases hv
  cases hc
  exact he
theorem zti {S : Store} {v u : V} {es : List V} {l : List Chg} {ch : Chg} (ho : OwnS S v 122 es) (hc : ChgsV S es l) (hu : ChgV S u ch) (h1 : 1 ≤ ch.data.length) (hl : es.length ≤ 200000) :
  ∃ v' S', (∃ k, bs1 Try.prog S 119 u = some (.val (.rs S.length 0 1) (S ++ [.row [u] 122]) k)) ∧ (∃ k, qE Try.prog (S ++ [.row [u] 122]) 119 119 v (.rs S.length 0 1) = some (v', S', k)) ∧ OwnS S' v' 122 (es ++ [u]) ∧ ChgsV S' (es ++ [u]) (l ++ [ch]) ∧ (∀ j o, S[j]? = some o → NotAt v j → S'[j]? = some o ∧ NotAt v' j) := by
 obtain ⟨dv, nv, id, hue, hd, hn, hdv⟩ := hu.form h1
 have hu0 := hu
 have hk : Keep S (S ++ [.row [u] 122]) := Keep.refl.app
 have hf : zZ Try.prog 122 u = true := by rw [hue]; exact zo6
 have hb : bs1 Try.prog S 119 u = some (.val (.rs S.length 0 1) (S ++ [.row [u] 122]) 2) := by rw [hue, hdv]; exact zwf (z1r hn)
 have hx : (S ++ [Ob.row [u] 122])[S.length]? = some (.row [u] 122) := by simp
 rcases zge u119 zps s122 (hk.own ho) hx hf (zlq (by omega)) with ⟨rfl, rfl, hap⟩ | ⟨i, rfl, hi, hap⟩
 ·refine ⟨_, _, ⟨2, hb⟩, ⟨_, hap⟩, ?_, ?_, ?_⟩
  ·refine .inr ⟨(S ++ [Ob.row [u] 122]).length, rfl, ?_⟩
   rw [List.getElem?_append_right (Nat.le_refl _), Nat.sub_self]; rfl
  ·exact ((hc.keep hk).keep Keep.refl.app).snoc ((hu.keep hk).keep Keep.refl.app)
  ·intro j o hj _
   refine ⟨(hk.app) j o hj, ?_⟩
   intro off k hh
   have := zN hj
   cases hh
   simp at this
   omega
 ·have hl0 : i < S.length := by
   rcases ho with ⟨hh, _⟩ | ⟨id', hh, h2⟩
   ·cases hh
   ·cases hh; exact zN h2
  refine ⟨_, _, ⟨2, hb⟩, ⟨_, hap⟩, ?_, ?_, ?_⟩
  ·refine .inr ⟨(S ++ [Ob.row [u] 122]).length, by rw [show (es ++ [u]).length = es.length + 1 from by simp], ?_⟩
   rw [List.getElem?_append_right (by rw [List.length_set]; exact Nat.le_refl _), List.length_set, Nat.sub_self]; rfl
  ·exact (((hc.keep hk).set122 hi).keep Keep.refl.app).snoc ((((hu.keep hk)).mono (fun _ _ hh => z34 hh hi (by decide)) (fun _ _ hh => z34 hh hi (by decide))).keep Keep.refl.app)
  ·intro j o hj hn
   have hj2 := zN hj
   refine ⟨?_, ?_⟩
   ·rw [List.getElem?_append_left (by rw [List.length_set, List.length_append]; omega), List.getElem?_set_ne (by rintro rfl; exact hn _ _ rfl)]
    exact hk j o hj
   ·intro off k hh
    cases hh
    simp at hj2
    omega
theorem zrz (p m : Nat) (g : Int → Int) (S0 : Store) (hp : S0[p]? = some (.row [.mr m] 178)) (hm : MG S0 m g) (L : V) (es : List V) (l : List Chg) (hL : OwnS S0 L 122 es) (hl : ChgsV S0 es l) (hes : es.length ≤ 150000) (n last : Nat) (hlast : last ≤ 100000) (hok : ∀ ch ∈ l, z5n n last ch) (R : Post) :
 ∀ (k i : Nat) (S : Store) (v5 : V) (fs : List V) (g0 g2 g3 g4 g6 g7 gF gG gB gC gA gE gH gI gD gL gN gK gJ : V), l.length - i = k → i ≤ l.length → Keep S0 S → (∀ j, j < S0.length → NotAt v5 j) → OwnS S v5 122 fs → ChgsV S fs ((l.take i).filter fun ch => decide (g ch.id = 0)) →
 (∀ S v5 fs i' g0 g2 g3 g4 g6 g7 gF gG gB gC gA gE gH gI gD gL gN gK gJ, Keep S0 S → (∀ j, j < S0.length → NotAt v5 j) → OwnS S v5 122 fs → ChgsV S fs (l.filter fun ch => decide (g ch.id = 0)) → R (.exit 0) (g0 :: (.fn (.func 123) [] [.ref p 0 0]) :: g2 :: g3 :: g4 :: v5 :: g6 :: g7 :: L :: (.d (.int .i64 (l.length : Int))) :: i' :: gF :: gG :: gB :: gC :: gA :: gE :: gH :: gI :: gD :: gL :: gN :: gK :: gJ :: []) S []) →
 Wp cfg (.loop (lpOf (Try.f122.body.getD .skip) 0)) (g0 :: (.fn (.func 123) [] [.ref p 0 0]) :: g2 :: g3 :: g4 :: v5 :: g6 :: g7 :: L :: (.d (.int .i64 (l.length : Int))) :: (.d (.int .i64 (i : Int))) :: gF :: gG :: gB :: gC :: gA :: gE :: gH :: gI :: gD :: gL :: gN :: gK :: gJ :: []) S [] R := by
 intro k
 have hll := hl.1
 induction k with
 | zero =>
  intro i S v5 fs g0 g2 g3 g4 g6 g7 gF gG gB gC gA gE gH gI gD gL gN gK gJ hk hi hK hN ho hc hR
  have hie : i = l.length := by omega
  subst hie
  rw [List.take_length] at hc
  rw [zR]
  refine zJ ?_
  conv => arg 2; whnf
  simp (maxSteps:=1000000) (disch:=first|assumption|omega|rfl) only [↓gp, gc, Nat.reduceAdd]
  exact hR _ _ _ _ _ _ _ _ _ _ _ _ _ _ _ _ _ _ _ _ _ _ _ hK hN ho hc
 | succ k ih =>
  intro i S v5 fs g0 g2 g3 g4 g6 g7 gF gG gB gC gA gE gH gI gD gL gN gK gJ hk hi hK hN ho hc hR
  have hlt : i < l.length := by omega
  have hlt2 : i < es.length := by omega
  obtain ⟨id', hix, hre, _⟩ := wH u119 s122 (hK.own hL) hlt2
  have hcv := hl.2 i es[i] l[i] (List.getElem?_eq_getElem hlt2) (List.getElem?_eq_getElem hlt)
  have h3 : IntKind.i64.wrap ((i : Int) + 1) = ((i + 1 : Nat) : Int) := by rw [wrap64 (by omega)]; omega
  obtain ⟨g1, g2, g3, g4, g5, g6, g7⟩ := hok l[i] (List.getElem_mem hlt)
  have hnl : l[i].needs.length ≤ 300000 := by have := z7e g6 (fun x hx => (g7 x hx).1) (fun x hx => (g7 x hx).2) (by omega); omega
  have hfl : fs.length ≤ 150000 := by
   rw [hc.1]
   have := List.length_filter_le (fun ch : Chg => decide (g ch.id = 0)) (l.take i)
   rw [List.length_take] at this
   omega
  have hv1 : (V.fn (.func 123) [] [.ref p 0 0]).one = true := rfl
  have hsn : (l.take (i + 1)).filter (fun ch => decide (g ch.id = 0)) = (l.take i).filter (fun ch => decide (g ch.id = 0)) ++ (if g l[i].id = 0 then [l[i]] else []) := by
   rw [wI hlt, List.filter_append]
   by_cases h : g l[i].id = 0 <;> simp [h]
  generalize hev : es[i] = ev at *
  obtain ⟨dv, nv, id, hue, hd, hn, hdv⟩ := hcv.form g1.1
  have hone : ev.one = true := by rw [hue]; rfl
  have hl122 : qL Try.prog 122 0 (some ev) = some ev := by rw [hue]; exact z2n
  have hs122 : qI Try.prog 122 0 ev (.agg [.d (.int .i64 0), .d (.int .i64 0), .d (.int .i64 0), .ts [], .ts []]) = some ev := by rw [hue]; exact z48
  have hkx : Keep S (S ++ [.row [ev] 122]) := Keep.refl.app
  have hk0 := hK.trans hkx
  obtain ⟨o, S2, ⟨hK2, rfl⟩, hE⟩ := qR (zye (S ++ [.row [ev] 122]) ev l[i] (hcv.keep hk0) p m g (hk0 _ _ hp) (hm.keep hk0))
  have hE := fun {ops dst k T F Q} => zQ (ops := ops) (dst := dst) (l := k) (T := T) (F := F) (Q := Q) rfl hE
  have hcvv := cvWi (p := p) hone
  have hK02 := hk0.trans hK2
  generalize ha : S.length = a
  have hrow : S2[a]? = some (.row [ev] 122) := hK2 _ _ (by subst ha; simp)
  have hra := zK (e := 122) hrow
  rw [zR]
  refine zJ ?_
  conv => arg 2; whnf
  by_cases hg : g l[i].id = 0
  ·rw [decide_eq_true hg] at hE
   rw [if_pos hg] at hsn
   obtain ⟨o, S3, ⟨hK3, u, rfl, hu⟩, hE3⟩ := qR (zkc S2 ev l[i] (hcv.keep hK02) g1 hnl)
   have hE3 := fun {ops dst k T F Q} => zQ (ops := ops) (dst := dst) (l := k) (T := T) (F := F) (Q := Q) rfl hE3
   have hkt := (hkx.trans hK2).trans hK3
   obtain ⟨v', S4, ⟨kb, hb⟩, ⟨ka, hap⟩, ho4, hc4, hfr⟩ := zti (hkt.own ho) (hc.keep hkt) hu g1.1 (by omega)
   have hu1 : u.one = true := by obtain ⟨_, _, hh, _⟩ := hu; rw [hh]; rfl
   simp (maxSteps:=1000000) (disch:=first|assumption|omega|rfl) only [↓gp, gc, Nat.reduceAdd, ↓z1i, ↓vbs, hix, hre, hl122, z122, z23, hs122, ha, rA0 ha, pA0 ha, hcvv, hone, hE, zqx, hra, hE3, zyv, hb, hap, hu1, h3]
   refine ih (i + 1) S4 v' _ _ _ _ _ _ _ _ _ _ _ _ _ _ _ _ _ _ _ _ (by omega) (by omega) (fun j q hj => (hfr j q ((hK02.trans hK3) j q hj) (hN j (zN hj))).1) (fun j hj => (hfr j _ ((hK02.trans hK3) j _ (List.getElem?_eq_getElem hj)) (hN j hj)).2) ho4 ?_ hR
   rw [hsn]; exact hc4
  ·rw [decide_eq_false hg] at hE
   rw [if_neg hg, List.append_nil] at hsn
   simp (maxSteps:=1000000) (disch:=first|assumption|omega|rfl) only [↓gp, gc, Nat.reduceAdd, ↓z1i, hix, hre, hl122, z122, z23, hs122, ha, rA0 ha, pA0 ha, hcvv, hone, hE, zqx, h3]
   refine ih (i + 1) S2 v5 fs _ _ _ _ _ _ _ _ _ _ _ _ _ _ _ _ _ _ _ (by omega) (by omega) hK02 hN ((hkx.trans hK2).own ho) ?_ hR
   rw [hsn]; exact hc.keep (hkx.trans hK2)
theorem zo4 (S : Store) (p m : Nat) (g : Int → Int) (hp : S[p]? = some (.row [.mr m] 178)) (hm : MG S m g) (L : V) (es : List V) (l : List Chg) (hL : OwnS S L 122 es) (hl : ChgsV S es l) (hes : es.length ≤ 150000) (n last : Nat) (hlast : last ≤ 100000) (hok : ∀ ch ∈ l, z5n n last ch) :
  EvS cfg 122 [L, .fn (.func 123) [] [.ref p 0 0]] S (fun o S' => Keep S S' ∧ ∃ v fs, o = .ret v ∧ OwnS S' v 122 fs ∧ ChgsV S' fs (l.filter fun ch => decide (g ch.id = 0))) := by
 refine qN rfl zqs ?_
 show Wp cfg (Try.f122.body.getD .skip) (L :: (.fn (.func 123) [] [.ref p 0 0]) :: uZ (uZ ((.tup []) :: (.tup []) :: []))) S [] _
 unfold uZ
 conv => arg 2; whnf
 rw [zR]
 have hln : zI Try.prog S .len [119] [L] = some (.val (.d (.int .i64 (l.length : Int))) S 0) := by rw [wB u119 hL, hl.1]
 simp (maxSteps:=1000000) (disch:=first|assumption|omega|rfl) only [↓gp, gc, Nat.reduceAdd, hln]
 refine zrz p m g S hp hm L es l hL hl hes n last hlast hok _ l.length 0 S (.ts []) [] _ _ _ _ _ _ _ _ _ _ _ _ _ _ _ _ _ _ _ rfl (Nat.zero_le _) Keep.refl (fun j _ => NotAt.ts) (.inl ⟨rfl, rfl⟩) ⟨rfl, fun i e ch he => by simp at he⟩ ?_
 intro S2 v5 fs i' g0 g2 g3 g4 g6 g7 gF gG gB gC gA gE gH gI gD gL gN gK gJ hK hN ho hc
 have ho1 := qF ho
 simp (maxSteps:=1000000) (disch:=first|assumption|omega|rfl) only [↓gp, gc, Nat.reduceAdd]
 exact ⟨rfl, _, rfl, hK, v5, fs, rfl, ho, hc⟩
def inG (l : List Int) : Int → Int := fun n => if n ∈ l then 1 else 0
theorem zfy {l : List Int} {k : Int} : updG (inG l) k 1 = inG (l ++ [k]) := by
 funext n
 unfold updG inG
 by_cases e : n = k
 ·rw [if_pos e, if_pos (by rw [e]; simp)]
 ·rw [if_neg e]
  by_cases h : n ∈ l
  ·rw [if_pos h, if_pos (List.mem_append_left _ h)]
  ·rw [if_neg h, if_neg (by simp [h, e])]
theorem zx2 (S0 : Store) (p m : Nat) (hp : S0.length ≤ p) (hmm : S0.length ≤ m) (hpm : p ≠ m) (v9 : V) (ids : List Int) (hv : OwnS S0 v9 3 (zX ids)) (hl : ids.length ≤ 300000) (L : V) (R : Post) :
 ∀ (k i : Nat) (S : Store) (g1 g2 g3 g4 g6 g7 g8 gG gB gC gA gE gH gI gD gL : V), ids.length - i = k → i ≤ ids.length → Keep S0 S → S[p]? = some (.row [.mr m] 178) → MG S m (inG (ids.take i)) →
 (∀ S i' g1 g2 g3 g4 g6 g7 g8 gG gB gC gA gE gH gI gD gL, Keep S0 S → S[p]? = some (.row [.mr m] 178) → MG S m (inG ids) → R (.exit 0) (L :: g1 :: g2 :: g3 :: g4 :: (.ref p 0 0) :: g6 :: g7 :: g8 :: v9 :: (.d (.int .i64 (ids.length : Int))) :: i' :: gG :: gB :: gC :: gA :: gE :: gH :: gI :: gD :: gL :: []) S []) →
 Wp cfg (.loop (lpOf (Try.f108.body.getD .skip) 0)) (L :: g1 :: g2 :: g3 :: g4 :: (.ref p 0 0) :: g6 :: g7 :: g8 :: v9 :: (.d (.int .i64 (ids.length : Int))) :: (.d (.int .i64 (i : Int))) :: gG :: gB :: gC :: gA :: gE :: gH :: gI :: gD :: gL :: []) S [] R := by
 intro k
 induction k with
 | zero =>
  intro i S g1 g2 g3 g4 g6 g7 g8 gG gB gC gA gE gH gI gD gL hk hi hK hr hm hR
  have hie : i = ids.length := by omega
  subst hie
  rw [List.take_length] at hm
  rw [zR]
  refine zJ ?_
  conv => arg 2; whnf
  simp (maxSteps:=1000000) (disch:=first|assumption|omega|rfl) only [↓gp, gc, Nat.reduceAdd]
  exact hR _ _ _ _ _ _ _ _ _ _ _ _ _ _ _ _ _ _ hK hr hm
 | succ k ih =>
  intro i S g1 g2 g3 g4 g6 g7 g8 gG gB gC gA gE gH gI gD gL hk hi hK hr hm hR
  have hlt : i < ids.length := by omega
  have h3 : IntKind.i64.wrap ((i : Int) + 1) = ((i + 1 : Nat) : Int) := by rw [wrap64 (by omega)]; omega
  obtain ⟨id, hix, hre, _⟩ := wH Try.underlying46 s3z (hK.own hv) (i := i) (by rw [zW]; exact hlt)
  have hre : rowE S id i = some (.d (.int .i64 ids[i])) := by rw [hre]; simp [zX]
  have hrp := zK (e := 178) hr
  obtain ⟨o, ho, hm2, _⟩ := hm.put ids[i] 1
  rw [zR]
  refine zJ ?_
  conv => arg 2; whnf
  simp (maxSteps:=1000000) (disch:=first|assumption|omega|rfl) only [↓gp, gc, Nat.reduceAdd, hix, hre, ld3r, hrp, znb, ho, h3]
  refine ih (i + 1) _ _ _ _ _ _ _ _ _ _ _ _ _ _ _ _ _ (by omega) (by omega) (hK.set hmm) (by rw [List.getElem?_set_ne (Ne.symm hpm)]; exact hr) ?_ hR
  rw [wI hlt, ← zfy]
  exact hm2
theorem zi4 (S : Store) (L : V) (es : List V) (l : List Chg) (hL : OwnS S L 122 es) (hl : ChgsV S es l) (hes : es.length ≤ 150000) (n last : Nat) (hlast : last ≤ 100000) (hok : ∀ ch ∈ l, z5n n last ch) (v9 : V) (ids : List Int) (hv : OwnS S v9 3 (zX ids)) (hidl : ids.length ≤ 300000) :
  EvS cfg 108 [L, v9] S (fun o S' => Keep S S' ∧ ∃ v fs, o = .ret v ∧ OwnS S' v 122 fs ∧ ChgsV S' fs (l.filter fun ch => decide (ch.id ∉ ids))) := by
 refine qN rfl zqn ?_
 show Wp cfg (Try.f108.body.getD .skip) (L :: v9 :: uZ ((.tup []) :: (.tup []) :: (.tup []) :: (.tup []) :: (.tup []) :: (.tup []) :: (.tup []) :: (.tup []) :: (.tup []) :: [])) S [] _
 unfold uZ
 conv => arg 2; whnf
 rw [zR]
 generalize ha : S.length = a
 have hln : ∀ s, zI Try.prog (S ++ s) .len [46] [v9] = some (.val (.d (.int .i64 (ids.length : Int))) (S ++ s) 0) := fun s => by rw [wB Try.underlying46 ((Keep.refl.app (l := s)).own hv), zW]
 have hL1 := qF hL
 simp (maxSteps:=1000000) (disch:=first|assumption|omega|rfl) only [↓gp, gc, Nat.reduceAdd, ↓z37, z178, zxx, List.append_assoc, List.length_append, List.length_cons, List.length_nil, ha, rA1 ha, pA1 ha, hln]
 have h0 : MG (S ++ [Ob.mp [] 0, Ob.row [V.mr a] 178]) a (inG (ids.take 0)) := by
  have := MG.nil (S := S ++ [Ob.mp [] 0, Ob.row [V.mr a] 178]) (m := a) (c := 0) (by rw [List.getElem?_append_right (by omega), ha, Nat.sub_self]; rfl)
  have e : inG (ids.take 0) = fun _ => 0 := by funext n; simp [inG]
  rw [e]; exact this
 refine zx2 S (a + 1) a (by omega) (by omega) (by omega) v9 ids hv hidl L _ ids.length 0 _ _ _ _ _ _ _ _ _ _ _ _ _ _ _ _ _ rfl (Nat.zero_le _) Keep.refl.app (by rw [List.getElem?_append_right (by omega), ha, Nat.add_sub_cancel_left]; rfl) h0 ?_
 intro S2 i' g1 g2 g3 g4 g6 g7 g8 gG gB gC gA gE gH gI gD gL hK hr hm
 obtain ⟨o, S3, ⟨hK3, v, fs, rfl, ho, hc⟩, hE⟩ := qR (zo4 S2 (a + 1) a _ hr hm L es l (hK.own hL) (hl.keep hK) hes n last hlast hok)
 have hE := fun {ops dst k T F Q} => zQ (ops := ops) (dst := dst) (l := k) (T := T) (F := F) (Q := Q) rfl hE
 have ho1 := qF ho
 simp (maxSteps:=1000000) (disch:=first|assumption|omega|rfl) only [↓gp, gc, Nat.reduceAdd, wE, mfWi, ziz, hL1, hE, zxd]
 refine ⟨rfl, _, rfl, hK.trans hK3, v, fs, rfl, ho, ?_⟩
 have e : (l.filter fun ch => decide (inG ids ch.id = 0)) = l.filter fun ch => decide (ch.id ∉ ids) := by
  congr 1
  funext ch
  unfold inG
  by_cases h : ch.id ∈ ids <;> simp [h]
 rw [← e]; exact hc
theorem mfIm {S : Store} {a : Nat} : mfS (.func 130) S [] [.ref a 0 0] = some (.val (.fn (.func 130) [] [.ref a 0 0]) S 0) := z62 rfl
theorem cvIm {n : Int} {p : Nat} : cvV Try.prog [.d (.int .i64 n)] (.fn (.func 130) [] [.ref p 0 0]) = some (.enter 130 [.d (.int .i64 n), .ref p 0 0]) := zp6 rfl zrg
theorem zw4 (S : Store) (n : Int) (p m : Nat) (g : Int → Int) (hp : S[p]? = some (.row [.mr m] 178)) (hm : MG S m g) : EvS cfg 130 [.d (.int .i64 n), .ref p 0 0] S (fun o S' => S' = S ∧ o = .ret (.d (.bool (decide (g n = 1))))) := by
 refine qN rfl zsj ?_
 show Wp cfg (Try.f130.body.getD .skip) ((.d (.int .i64 n)) :: (.ref p 0 0) :: (.tup []) :: (.tup []) :: (.tup []) :: (.tup []) :: (.tup []) :: (.tup []) :: []) S [] _
 conv => arg 2; whnf
 rw [zR]
 have hr := zK (e := 178) hp
 have hlk := hm.look n
 simp (maxSteps:=1000000) (disch:=first|assumption|omega|rfl) only [↓gp, gc, Nat.reduceAdd, hr, znb, hlk]
 exact ⟨rfl, _, rfl, rfl, rfl⟩
def rolL (b : List UInt8) (l : List Chg) (no : Int) (ids : List Int) : List UInt8 := seeL b (l.filter fun ch => decide (ch.id ∈ ids)) no
theorem z1d {b : List UInt8} {no : Int} {l : List Chg} {ids : List Int} (hb : b.length = 256) (h : ∀ ch ∈ l, kW ch.at_ ch.data) : (rolL b l no ids).length = 256 := z7h hb fun ch hch => h ch (List.mem_filter.1 hch).1
theorem zd5 {b : List UInt8} {l : List Chg} {ch : Chg} {no : Int} {ids : List Int} : rolL b (l ++ [ch]) no ids = if ch.no = no ∧ ch.id ∈ ids then layB (rolL b l no ids) ch.at_.toNat ch.data else rolL b l no ids := by
 unfold rolL
 rw [List.filter_append]
 by_cases h : ch.id ∈ ids
 ·have : ([ch].filter fun ch => decide (ch.id ∈ ids)) = [ch] := by simp [h]
  rw [this, z18]
  by_cases h2 : ch.no = no
  ·rw [if_pos h2, if_pos ⟨h2, h⟩]
  ·rw [if_neg h2, if_neg (fun hh => h2 hh.1)]
 ·have : ([ch].filter fun ch => decide (ch.id ∈ ids)) = [] := by simp [h]
  rw [this, List.append_nil, if_neg (fun hh => h hh.2)]
theorem zum (no : Int) (ids : List Int) (p m a4 a8 : Nat) (S0 : Store) (hp : S0[p]? = some (.row [.mr m] 178)) (hm : MG S0 m (inG ids)) (b : List UInt8) (hb : b.length = 256) (L : V) (es : List V) (l : List Chg) (hL : OwnS S0 L 122 es) (hl : ChgsV S0 es l) (hok : ∀ ch ∈ l, kW ch.at_ ch.data) (hes : es.length ≤ 1000000) (h48 : a4 ≠ a8) (R : Post) :
 ∀ (k i : Nat) (S : Store) (u : V) (g0 g1 g5 g6 g7 g9 gM gC gA gE gH gI gD gL gN gK gJ gO gP gW gT gU gQ gR gS gV : V), l.length - i = k → i ≤ l.length → Keep S0 S → S0.length ≤ a4 → S[a4]? = some (.row [u] 42) → S[a8]? = some (.row [blkV (zC 256)] 42) → IsB u (rolL b (l.take i) no ids) →
 (∀ S' u' i' g0 g1 g5 g6 g7 g9 gM gC gA gE gH gI gD gL gN gK gJ gO gP gW gT gU gQ gR gS gV, Keep S0 S' → S'[a4]? = some (.row [u'] 42) → S'[a8]? = some (.row [blkV (zC 256)] 42) → IsB u' (rolL b l no ids) → R (.exit 0) (g0 :: g1 :: (.d (.int .i64 no)) :: (.fn (.func 130) [] [.ref p 0 0]) :: (.ref a4 0 0) :: g5 :: g6 :: g7 :: (.ref a8 0 0) :: g9 :: gM :: L :: (.d (.int .i64 (l.length : Int))) :: i' :: gC :: gA :: gE :: gH :: gI :: gD :: gL :: gN :: gK :: gJ :: gO :: gP :: gW :: gT :: gU :: gQ :: gR :: gS :: gV :: []) S' []) →
 Wp cfg (.loop (lpOf (Try.f129.body.getD .skip) 0)) (g0 :: g1 :: (.d (.int .i64 no)) :: (.fn (.func 130) [] [.ref p 0 0]) :: (.ref a4 0 0) :: g5 :: g6 :: g7 :: (.ref a8 0 0) :: g9 :: gM :: L :: (.d (.int .i64 (l.length : Int))) :: (.d (.int .i64 (i : Int))) :: gC :: gA :: gE :: gH :: gI :: gD :: gL :: gN :: gK :: gJ :: gO :: gP :: gW :: gT :: gU :: gQ :: gR :: gS :: gV :: []) S [] R := by
 intro k
 have hll := hl.1
 induction k with
 | zero =>
  intro i S u g0 g1 g5 g6 g7 g9 gM gC gA gE gH gI gD gL gN gK gJ gO gP gW gT gU gQ gR gS gV hk hi hK ha7 hS hS8 hu hR
  have hie : i = l.length := by omega
  subst hie
  rw [List.take_length] at hu
  rw [zR]
  refine zJ ?_
  conv => arg 2; whnf
  simp (maxSteps:=1000000) (disch:=first|assumption|omega|rfl) only [↓gp, gc, Nat.reduceAdd]
  exact hR _ _ _ _ _ _ _ _ _ _ _ _ _ _ _ _ _ _ _ _ _ _ _ _ _ _ _ _ _ hK hS hS8 hu
 | succ k ih =>
  intro i S u g0 g1 g5 g6 g7 g9 gM gC gA gE gH gI gD gL gN gK gJ gO gP gW gT gU gQ gR gS gV hk hi hK ha7 hS hS8 hu hR
  have hlt : i < l.length := by omega
  have hlt2 : i < es.length := by omega
  obtain ⟨id, hix, hre, _⟩ := wH u119 s122 (hK.own hL) hlt2
  obtain ⟨dv, nv, he, hd5, hn3⟩ := hl.2 i es[i] l[i] (List.getElem?_eq_getElem hlt2) (List.getElem?_eq_getElem hlt)
  rw [he] at hre
  have hpk := hok l[i] (List.getElem_mem hlt)
  have h3 : IntKind.i64.wrap ((i : Int) + 1) = ((i + 1 : Nat) : Int) := by rw [wrap64 (by omega)]; omega
  have hsl := z1d (no := no) (ids := ids) hb (l := l.take i) (fun ch hch => hok ch (List.mem_of_mem_take hch))
  have hsn : rolL b (l.take (i + 1)) no ids = if l[i].no = no ∧ l[i].id ∈ ids then layB (rolL b (l.take i) no ids) l[i].at_.toNat l[i].data else rolL b (l.take i) no ids := by
   rw [wI hlt]
   exact zd5
  have hkx : Keep S (S ++ [.row [.agg [.d (.int .i64 l[i].id), .d (.int .i64 l[i].no), .d (.int .i64 l[i].at_), dv, nv]] 122]) := Keep.refl.app
  have hk0 := hK.trans hkx
  obtain ⟨o, S2, ⟨rfl, rfl⟩, hE⟩ := qR (zw4 _ l[i].id p m _ (hk0 _ _ hp) (hm.keep hk0))
  have hE := fun {ops dst k T F Q} => zQ (ops := ops) (dst := dst) (l := k) (T := T) (F := F) (Q := Q) rfl hE
  have hcv := cvIm (n := l[i].id) (p := p)
  generalize ha : S.length = a
  have hal := zN hS
  have hr7 : ∀ o, rowE (S ++ [o]) a4 0 = some u := fun o => zK (e := 42) (by rw [List.getElem?_append_left hal]; exact hS)
  have hp7 : ∀ o y, jF (S ++ [o]) a4 0 y = some (S.set a4 (.row [y] 42) ++ [o]) := fun o y => by
   rw [qH (x := u) (e := 42) (by rw [List.getElem?_append_left hal]; exact hS), List.set_append_left _ _ hal]
  have hld := bt42.load hu hsl
  have hu1 := hu.one
  have hcl := fun {ops dst k T F Q} => zd8 (ops := ops) (dst := dst) (k := k) (T := T) (F := F) (Q := Q) (S := S ++ [.row [.agg [.d (.int .i64 l[i].id), .d (.int .i64 l[i].no), .d (.int .i64 l[i].at_), dv, nv]] 122]) hu hsl ((Keep.app hK).own hd5) hpk
  have hst := bt42.store (v := .d (blkD (layB (rolL b (l.take i) no ids) l[i].at_.toNat l[i].data))) jL (by obtain ⟨_, _, p3, p4⟩ := hpk; rw [qU (by omega), hsl]) hu hsl
  rw [zR]
  refine zJ ?_
  conv => arg 2; whnf
  by_cases hno : l[i].no = no
  ·have hde : ∀ i' : Decidable (l[i].no = no), @decide (l[i].no = no) i' = true := fun i' => decide_eq_true hno
   by_cases hin : l[i].id ∈ ids
   ·rw [if_pos ⟨hno, hin⟩] at hsn
    have hg : inG ids l[i].id = 1 := if_pos hin
    rw [decide_eq_true hg] at hE
    simp (maxSteps:=1000000) (disch:=first|assumption|omega|rfl) only [↓gp, gc, Nat.reduceAdd, ↓z1i, hix, hre, z2n, z122, z23, z48, ha, rA0 ha, pA0 ha, z1j, z08, z0i, z19, z0f, z1o, hde, hcv, hE, zrg, hr7, hp7, hld, hcl, hst, hu1, bo92, h3]
    refine ih (i + 1) _ (.d (blkD (layB (rolL b (l.take i) no ids) l[i].at_.toNat l[i].data))) _ _ _ _ _ _ _ _ _ _ _ _ _ _ _ _ _ _ _ _ _ _ _ _ _ _ (by omega) (by omega) (Keep.app (hK.set ha7)) ha7 ?_ ?_ (by rw [hsn]; exact jL) hR
    ·rw [List.getElem?_append_left (by rw [List.length_set]; exact hal), List.getElem?_set_self hal]
    ·rw [List.getElem?_append_left (by rw [List.length_set]; exact zN hS8), List.getElem?_set_ne h48]; exact hS8
   ·rw [if_neg (fun hh => hin hh.2)] at hsn
    have hg : inG ids l[i].id ≠ 1 := by unfold inG; rw [if_neg hin]; decide
    rw [decide_eq_false hg] at hE
    simp (maxSteps:=1000000) (disch:=first|assumption|omega|rfl) only [↓gp, gc, Nat.reduceAdd, ↓z1i, hix, hre, z2n, z122, z23, z48, ha, rA0 ha, pA0 ha, z1j, z08, z0i, z19, z0f, z1o, hde, hcv, hE, zrg, h3]
    exact ih (i + 1) _ u _ _ _ _ _ _ _ _ _ _ _ _ _ _ _ _ _ _ _ _ _ _ _ _ _ _ (by omega) (by omega) (Keep.app hK) ha7 (hkx _ _ hS) (hkx _ _ hS8) (by rw [hsn]; exact hu) hR
  ·rw [if_neg (fun hh => hno hh.1)] at hsn
   have hde : ∀ i' : Decidable (l[i].no = no), @decide (l[i].no = no) i' = false := fun i' => decide_eq_false hno
   simp (maxSteps:=1000000) (disch:=first|assumption|omega|rfl) only [↓gp, gc, Nat.reduceAdd, ↓z1i, hix, hre, z2n, z122, z23, z48, ha, rA0 ha, pA0 ha, z08, z0i, z0f, z1o, hde, h3]
   exact ih (i + 1) _ u _ _ _ _ _ _ _ _ _ _ _ _ _ _ _ _ _ _ _ _ _ _ _ _ _ _ (by omega) (by omega) (Keep.app hK) ha7 (hkx _ _ hS) (hkx _ _ hS8) (by rw [hsn]; exact hu) hR
theorem zqf (S : Store) (no : Int) (ids : List Int) (p m : Nat) (hp : S[p]? = some (.row [.mr m] 178)) (hm : MG S m (inG ids)) (u : V) (b : List UInt8) (hu : IsB u b) (hb : b.length = 256) (L : V) (es : List V) (l : List Chg) (hL : OwnS S L 122 es) (hl : ChgsV S es l) (hok : ∀ ch ∈ l, kW ch.at_ ch.data) (hes : es.length ≤ 1000000) :
  EvS cfg 129 [u, L, .d (.int .i64 no), .fn (.func 130) [] [.ref p 0 0]] S (fun o S' => Keep S S' ∧ ∃ v, o = .ret v ∧ IsB v (rolL b l no ids)) := by
 refine qN rfl ztm ?_
 show Wp cfg (Try.f129.body.getD .skip) (u :: L :: (.d (.int .i64 no)) :: (.fn (.func 130) [] [.ref p 0 0]) :: uZ (uZ ((.tup []) :: (.tup []) :: (.tup []) :: (.tup []) :: (.tup []) :: (.tup []) :: (.tup []) :: (.tup []) :: (.tup []) :: []))) S [] _
 unfold uZ
 conv => arg 2; whnf
 rw [zR]
 generalize ha : S.length = a
 have hft := bt42.fits hu hb
 have hu1 := hu.one
 have hln : ∀ s, zI Try.prog (S ++ s) .len [119] [L] = some (.val (.d (.int .i64 (l.length : Int))) (S ++ s) 0) := fun s => by rw [wB u119 ((Keep.refl.app (l := s)).own hL), hl.1]
 simp (maxSteps:=1000000) (disch:=first|assumption|omega|rfl) only [↓gp, gc, Nat.reduceAdd, hft, z42, zf42, List.append_assoc, List.length_append, List.length_cons, List.length_nil, ha, hln]
 refine zum no ids p m a (a + 1) S hp hm b hb L es l hL hl hok hes (by omega) _ l.length 0 _ u _ _ _ _ _ _ _ _ _ _ _ _ _ _ _ _ _ _ _ _ _ _ _ _ _ _ rfl (Nat.zero_le _) Keep.refl.app (by omega) (by rw [List.getElem?_append_right (by omega), ha, Nat.sub_self]; rfl) (by rw [List.getElem?_append_right (by omega), ha, Nat.add_sub_cancel_left]; rfl) (by rw [List.take_zero]; exact hu) ?_
 intro S2 u2 i' g0 g1 g5 g6 g7 g9 gM gC gA gE gH gI gD gL gN gK gJ gO gP gW gT gU gQ gR gS gV hK h4 h8 hu2
 have hl2 := z1d (no := no) (ids := ids) hb hok
 have hr4 := zK (e := 42) h4
 have hr8 := zK (e := 42) h8
 have hp8 := fun y => qH (y := y) (e := 42) h8
 have hld := bt42.load hu2 hl2
 have l0 := z256
 have hst2 := bt42.store hu2 hl2 (w := blkV (zC 256)) isB_v z256
 have hu21 := hu2.one
 simp (maxSteps:=1000000) (disch:=first|assumption|omega|rfl) only [↓gp, gc, Nat.reduceAdd, hr4, hr8, hld, hst2, hp8]
 have hl1 : kC Try.prog (S2.set (a + 1) (.row [u2] 42)) 42 (.ref (a + 1) 0 0) = some u2 := (zM (zK (e := 42) (List.getElem?_set_self (zN h8)))).trans hld
 exact ⟨rfl, _, z0q rfl hl1, hK.set (by omega), u2, rfl, hu2⟩
theorem zwj (S0 : Store) (p m : Nat) (hp : S0.length ≤ p) (hmm : S0.length ≤ m) (hpm : p ≠ m) (v9 : V) (ids : List Int) (hv : OwnS S0 v9 3 (zX ids)) (hl : ids.length ≤ 300000) (R : Post) :
 ∀ (k i : Nat) (S : Store) (g0 g1 g2 g3 g4 g5 g6 g7 g8 gM gF gG gB gC gA gD gL gN gK gJ gO gP gW gT gU gQ gR : V), ids.length - i = k → i ≤ ids.length → Keep S0 S → S[p]? = some (.row [.mr m] 178) → MG S m (inG (ids.take i)) →
 (∀ S i' (_11 _19 _20 _21 _22 _23 _24 : V), Keep S0 S → S[p]? = some (.row [.mr m] 178) → MG S m (inG ids) → R (.exit 0) (g0 :: g1 :: g2 :: g3 :: g4 :: g5 :: g6 :: g7 :: g8 :: (.ref p 0 0) :: gM :: _11 :: gG :: gB :: gC :: gA :: v9 :: (.d (.int .i64 (ids.length : Int))) :: i' :: _19 :: _20 :: _21 :: _22 :: _23 :: _24 :: gP :: gW :: gT :: gU :: gQ :: gR :: []) S []) →
 Wp cfg (.loop (lpOf (Try.f124.body.getD .skip) 0)) (g0 :: g1 :: g2 :: g3 :: g4 :: g5 :: g6 :: g7 :: g8 :: (.ref p 0 0) :: gM :: gF :: gG :: gB :: gC :: gA :: v9 :: (.d (.int .i64 (ids.length : Int))) :: (.d (.int .i64 (i : Int))) :: gD :: gL :: gN :: gK :: gJ :: gO :: gP :: gW :: gT :: gU :: gQ :: gR :: []) S [] R := by
 intro k
 induction k with
 | zero =>
  intro i S g0 g1 g2 g3 g4 g5 g6 g7 g8 gM gF gG gB gC gA gD gL gN gK gJ gO gP gW gT gU gQ gR hk hi hK hr hm hR
  have hie : i = ids.length := by omega
  subst hie
  rw [List.take_length] at hm
  rw [zR]
  refine zJ ?_
  conv => arg 2; whnf
  simp (maxSteps:=1000000) (disch:=first|assumption|omega|rfl) only [↓gp, gc, Nat.reduceAdd]
  exact hR _ _ _ _ _ _ _ _ _ hK hr hm
 | succ k ih =>
  intro i S g0 g1 g2 g3 g4 g5 g6 g7 g8 gM gF gG gB gC gA gD gL gN gK gJ gO gP gW gT gU gQ gR hk hi hK hr hm hR
  have hlt : i < ids.length := by omega
  have h3 : IntKind.i64.wrap ((i : Int) + 1) = ((i + 1 : Nat) : Int) := by rw [wrap64 (by omega)]; omega
  obtain ⟨id, hix, hre, _⟩ := wH Try.underlying46 s3z (hK.own hv) (i := i) (by rw [zW]; exact hlt)
  have hre : rowE S id i = some (.d (.int .i64 ids[i])) := by rw [hre]; simp [zX]
  have hrp := zK (e := 178) hr
  obtain ⟨o, ho, hm2, _⟩ := hm.put ids[i] 1
  rw [zR]
  refine zJ ?_
  conv => arg 2; whnf
  simp (maxSteps:=1000000) (disch:=first|assumption|omega|rfl) only [↓gp, gc, Nat.reduceAdd, hix, hre, ld3r, hrp, znb, ho, h3]
  refine ih (i + 1) _ _ _ _ _ _ _ _ _ _ _ _ _ _ _ _ _ _ _ _ _ _ _ _ _ _ _ _ (by omega) (by omega) (hK.set hmm) (by rw [List.getElem?_set_ne (Ne.symm hpm)]; exact hr) ?_ hR
  rw [wI hlt, ← zfy]
  exact hm2
theorem z4j {S : Store} {v : V} {e f : TypeId} {xs ys : List V} {i : Nat} {o : Ob} (h : OwnS S v e xs) (hi : S[i]? = some (.row ys f)) (he : e ≠ f) : OwnS (S.set i o) v e xs := by
 rcases h with h | ⟨id, rfl, h2⟩
 ·exact .inl h
 ·refine .inr ⟨id, rfl, ?_⟩
  rw [List.getElem?_set_ne (by rintro rfl; cases getE hi h2; exact he rfl)]
  exact h2
theorem zlm (S : Store) (no : Int) (u : V) (b : List UInt8) (hu : IsB u b) (hb : b.length = 256) (L : V) (es : List V) (l : List Chg) (hL : OwnS S L 122 es) (hl : ChgsV S es l) (hes : es.length ≤ 150000) (n last : Nat) (hlast : last ≤ 100000) (hok : ∀ ch ∈ l, z5n n last ch) (hids : l.Pairwise (fun a b => a.id < b.id)) :
  EvS cfg 124 [u, L, .d (.int .i64 no)] S (fun o S' => Keep S S' ∧ ∃ v w ids, o = .ret (.tup [v, w]) ∧ IsB v (rolL b l no ids) ∧ OwnS S' w 3 (zX ids) ∧ ids.length ≤ l.length ∧ RdOk l no l.length ids) := by
 refine qN rfl zqj ?_
 show Wp cfg (Try.f124.body.getD .skip) (u :: L :: (.d (.int .i64 no)) :: uZ (uZ ((.tup []) :: (.tup []) :: (.tup []) :: (.tup []) :: (.tup []) :: (.tup []) :: (.tup []) :: (.tup []) :: []))) S [] _
 unfold uZ
 conv => arg 2; whnf
 rw [zR]
 generalize ha : S.length = a
 have hft := bt42.fits hu hb
 have hu1 := hu.one
 have hL1 := qF hL
 have hk0 : Keep S (S ++ [.row [u] 42, .row [blkV (zC 256)] 42]) := Keep.refl.app
 obtain ⟨o, S2, ⟨hK2, v8, ids, rfl, hv8, hidl, hrd⟩, hE⟩ := qR (zn0 no (S ++ [.row [u] 42, .row [blkV (zC 256)] 42]) L es l (hk0.own hL) (hl.keep hk0) hes n last hlast hok hids)
 have hE := fun {ops dst k T F Q} => zQ (ops := ops) (dst := dst) (l := k) (T := T) (F := F) (Q := Q) rfl hE
 have hK02 := hk0.trans hK2
 have h8 := qF hv8
 have hln : ∀ s, zI Try.prog (S2 ++ s) .len [46] [v8] = some (.val (.d (.int .i64 (ids.length : Int))) (S2 ++ s) 0) := fun s => by rw [wB Try.underlying46 ((Keep.refl.app (l := s)).own hv8), zW]
 generalize ha2 : S2.length = a2
 simp (maxSteps:=1000000) (disch:=first|assumption|omega|rfl) only [↓gp, gc, Nat.reduceAdd, ↓z37, hft, z42, zf42, z178, zxx, List.append_assoc, List.length_append, List.length_cons, List.length_nil, ha, hL1, hE, zy6, h8, ha2, rA1 ha2, pA1 ha2, hln]
 have h0 : MG (S2 ++ [Ob.mp [] 0, Ob.row [V.mr a2] 178]) a2 (inG (ids.take 0)) := by
  have := MG.nil (S := S2 ++ [Ob.mp [] 0, Ob.row [V.mr a2] 178]) (m := a2) (c := 0) (by rw [List.getElem?_append_right (by omega), ha2, Nat.sub_self]; rfl)
  have e : inG (ids.take 0) = fun _ => 0 := by funext n; simp [inG]
  rw [e]; exact this
 have hll := hl.1
 refine zwj S2 (a2 + 1) a2 (by omega) (by omega) (by omega) v8 ids hv8 (by omega) _ ids.length 0 _ _ _ _ _ _ _ _ _ _ _ _ _ _ _ _ _ _ _ _ _ _ _ _ _ _ _ _ rfl (Nat.zero_le _) Keep.refl.app (by rw [List.getElem?_append_right (by omega), ha2, Nat.add_sub_cancel_left]; rfl) h0 ?_
 intro S3 i' gF gD gL gN gK gJ gO hK3 hr hm
 have hK03 := hK02.trans hK3
 obtain ⟨o, S4, ⟨hK4, v, rfl, hv⟩, hE4⟩ := qR (zqf S3 no ids (a2 + 1) a2 hr hm u b hu hb L es l (hK03.own hL) (hl.keep hK03) (fun ch hch => (hok ch hch).1) (by omega))
 have hE4 := fun {ops dst k T F Q} => zQ (ops := ops) (dst := dst) (l := k) (T := T) (F := F) (Q := Q) rfl hE4
 have hlv := z1d (no := no) (ids := ids) hb (fun ch hch => (hok ch hch).1)
 have hra : S3[a]? = some (.row [u] 42) := hK3 _ _ (hK2 _ _ (by rw [List.getElem?_append_right (by omega), ha, Nat.sub_self]; rfl))
 have hrb : S4[a + 1]? = some (.row [blkV (zC 256)] 42) := hK4 _ _ (hK3 _ _ (hK2 _ _ (by rw [List.getElem?_append_right (by omega), ha, Nat.add_sub_cancel_left]; rfl)))
 have hr4 := zK (e := 42) hra
 have hr8 := zK (e := 42) hrb
 have hp8 := fun y => qH (y := y) (e := 42) hrb
 have hld := bt42.load hu hb
 have l0 := z256
 have hst2 := bt42.store hv hlv (w := blkV (zC 256)) isB_v z256
 have hv1 := hv.one
 simp (maxSteps:=1000000) (disch:=first|assumption|omega|rfl) only [↓gp, gc, Nat.reduceAdd, hr4, hld, hL1, wE, mfIm, ziz, hE4, zui, hv1, hu1, hr8, hst2, hp8]
 have hl1 : kC Try.prog (S4.set (a + 1) (.row [v] 42)) 42 (.ref (a + 1) 0 0) = some v := (zM (zK (e := 42) (List.getElem?_set_self (zN hrb)))).trans (bt42.load hv hlv)
 exact ⟨rfl, _, zkw rfl hl1 rfl hv1 h8, (hK03.trans hK4).set (by omega), v, v8, ids, rfl, hv, z4j ((hK3.trans hK4).own hv8) hrb (by decide), hidl, hrd⟩
end Go.Proofs.Ytobgdmgldagjkaa
end
