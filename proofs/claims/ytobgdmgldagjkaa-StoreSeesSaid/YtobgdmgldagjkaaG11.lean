/- store.Mark. -/
import Derived.ProofKit
import Derived.Deep.Slices
import Derived.OpenShut
import Derived.Test.YtobgdmgldagjkaaG10
set_option linter.unusedVariables false
set_option linter.unusedSimpArgs false
set_option maxRecDepth 100000
set_option maxHeartbeats 4000000
set_option linter.defProp false
section
namespace Go.Proofs.Ytobgdmgldagjkaa
open Go.Vm
theorem zyx : IK Try.prog 101 3 46 (.ts []) := ⟨by kernel_rfl, fun _ _ => rfl, fun _ => by kernel_rfl, by kernel_rfl⟩
theorem zze {m : Nat} : binV Try.prog .eql 101 (.mr m) (.d .nilm) = some (.d (.bool false)) := by kernel_rfl
section
variable {d x y c mk : Nat} {B I M e : Int}
theorem zjc : zF Try.prog 103 3 (.ref d x y) = some (.ref d x (y + 5)) := by kernel_rfl
theorem zkl : qL Try.prog 101 5 (some (stoV c mk B I M e)) = some (.mr mk) := by kernel_rfl
theorem zm2 : qL Try.prog 48 0 (some (stoV c mk B I M e)) = some (.ref c 0 0) := by kernel_rfl
end
def MkV (S : Store) (mf : Int → Option V) (b : Nat) : Prop := ∀ n v, mf n = some v → ∃ ms, OwnS S v 3 (zX ms) ∧ ms.length ≤ b
theorem MkV.own {S S' : Store} {mf : Int → Option V} {b : Nat} (h : MkV S mf b) (hk : ∀ v xs, OwnS S v 3 xs → OwnS S' v 3 xs) : MkV S' mf b := fun n v hv => by
 obtain ⟨ms, h1, h2⟩ := h n v hv
 exact ⟨ms, hk _ _ h1, h2⟩
theorem q1j {S : Store} {w : V} {ys : List Int} (h : OwnS S w 3 (zX ys)) : srcV Try.prog S 3 46 w = some (zX ys) := by
 have he : kA S w = some (zX ys) := by
  rcases h with ⟨rfl, h2⟩ | ⟨id, rfl, h2⟩
  ·rw [h2]; rfl
  ·simp only [kA, h2, Nat.zero_add, Nat.le_refl, if_true, List.drop_zero, List.take_length]
 have hs : ∀ s, w ≠ .d (.str s) := by
  intro s hh
  rcases z1r h with h | ⟨_, _, h⟩ <;> (rw [h] at hh; cases hh)
 have hf : (zX ys).all (zZ Try.prog 3) = true := by
  rw [List.all_eq_true]
  intro x hx
  obtain ⟨y, _, rfl⟩ := List.mem_map.1 hx
  exact za2 y
 have h6 : (sz Try.prog 3).isSome = true := s3z
 unfold srcV
 split
 ·rename_i s; exact absurd rfl (hs s)
 ·simp only [Try.underlying46, he, hf, h6, Bool.and_self, if_true]
theorem zgm {S : Store} {v w : V} {xs ys : List Int} (ho : OwnS S v 3 (zX xs)) (hw : OwnS S w 3 (zX ys)) (hl : xs.length + ys.length ≤ 500000) :
  ∃ v' S' k, qE Try.prog S 46 46 v w = some (v', S', k) ∧ OwnS S' v' 3 (zX (xs ++ ys)) ∧ ∀ j o, S[j]? = some o → NotAt v j → S'[j]? = some o ∧ NotAt v' j := by
 have src := q1j hw
 cases ys with
 | nil =>
  rw [List.append_nil]
  refine ⟨v, S, 1, ?_, ho, fun j o hj hn => ⟨hj, hn⟩⟩
  have e : zX [] = [] := rfl
  rw [e] at src
  rcases z1r ho with rfl | ⟨i, k, rfl⟩ <;> simp only [qE, Try.underlying46, src]
 | cons y r =>
  have hz : zOk Try.prog 3 = true := zsn
  have e : zX (y :: r) = .d (.int .i64 y) :: zX r := rfl
  rw [e] at src
  have hr : room Try.prog 3 (xs.length + ((zX r).length + 1)) = true := zks (by rw [zW]; simp at hl; omega)
  have hcat : zX (xs ++ y :: r) = zX xs ++ (.d (.int .i64 y) :: zX r) := by unfold zX; simp
  have hlen : (zX (xs ++ y :: r)).length = xs.length + ((zX r).length + 1) := by rw [zW, zW]; simp
  rcases ho with ⟨rfl, h0⟩ | ⟨id, rfl, h1⟩
  ·have hx0 : xs = [] := by
    have := congrArg List.length h0
    rw [zW] at this
    exact List.length_eq_zero_iff.1 this
   subst hx0
   refine ⟨.rs S.length 0 ((zX r).length + 1), S ++ [.row (.d (.int .i64 y) :: zX r) 3], 2, ?_, ?_, fun j o hj hn => ⟨by rw [List.getElem?_append_left (zN hj)]; exact hj, fun off k hh => by have := zN hj; cases hh; omega⟩⟩
   ·have hr' : room Try.prog 3 ((zX r).length + 1) = true := by simpa using hr
    simp only [qE, Try.underlying46, src, hz, if_true, List.all_nil, List.length_nil, Nat.zero_add, hr', Bool.and_self, List.map_nil, List.nil_append]
   ·refine .inr ⟨S.length, ?_, ?_⟩
    ·rw [hlen]; simp
    ·rw [List.getElem?_append_right (Nat.le_refl _), Nat.sub_self]; rfl
  ·refine ⟨.rs S.length 0 (xs.length + ((zX r).length + 1)), S.set id .dead ++ [.row (zX xs ++ .d (.int .i64 y) :: zX r) 3], 3, ?_, ?_, fun j o hj hn => ⟨?_, fun off k hh => by have := zN hj; cases hh; omega⟩⟩
   ·have hxl : (zX xs).length = xs.length := zW
    simp only [qE, Try.underlying46, src, hz, if_true, h1, hxl, Nat.le_refl, hr, decide_true, Bool.and_self]
    rw [← hxl, List.take_length]
   ·refine .inr ⟨S.length, ?_, ?_⟩
    ·rw [hlen]
    ·rw [List.getElem?_append_right (by rw [List.length_set]; exact Nat.le_refl _), List.length_set, Nat.sub_self, hcat]; rfl
   ·have hjl := zN hj
    rw [List.getElem?_append_left (by rw [List.length_set]; exact hjl), List.getElem?_set_ne (by rintro rfl; exact hn _ _ rfl)]
    exact hj
theorem zwk (x c r m mk : Nat) (l : Lay) (e : Int) (C : CS) (mf : Int → Option V) (S0 : Store) (h0 : StoreP S0 x c r m mk l e C mf) (v28 : V) (ns : List Int) (hn : OwnS S0 v28 3 (zX ns)) (hnl : ns.length ≤ 500000) (R : Post) :
 ∀ (k i : Nat) (S : Store) (v6 : V) (out : List Int) (g1 g2 g3 g4 g5 g7 g8 g9 gM gF gG gB gC gA gE gH gI gD gL gN gK gJ gO gP gW gT gS gV gX gY gf gg gZ gh gj gk gn gr gz hZ xC hH hJ hU hY xA xB : V), ns.length - i = k → i ≤ ns.length → Keep S0 S → (∀ j, j < S0.length → NotAt v6 j) → OwnS S v6 3 (zX out) → out.length ≤ i →
 (∀ S v6 out i' (_8 _31 _32 _33 _34 _35 _36 _37 _38 _39 _40 _41 _42 _43 _44 _45 : V), Keep S0 S → OwnS S v6 3 (zX out) → out.length ≤ ns.length → R (.exit 0) ((.ref x 0 0) :: g1 :: g2 :: g3 :: g4 :: g5 :: v6 :: g7 :: _8 :: g9 :: gM :: gF :: gG :: gB :: gC :: gA :: gE :: gH :: gI :: gD :: gL :: gN :: gK :: gJ :: gO :: gP :: gW :: gT :: v28 :: (.d (.int .i64 (ns.length : Int))) :: i' :: _31 :: _32 :: _33 :: _34 :: _35 :: _36 :: _37 :: _38 :: _39 :: _40 :: _41 :: _42 :: _43 :: _44 :: _45 :: hH :: hJ :: hU :: hY :: xA :: xB :: []) S []) →
 Wp cfg (.loop (lpOf (Try.f19.body.getD .skip) 0)) ((.ref x 0 0) :: g1 :: g2 :: g3 :: g4 :: g5 :: v6 :: g7 :: g8 :: g9 :: gM :: gF :: gG :: gB :: gC :: gA :: gE :: gH :: gI :: gD :: gL :: gN :: gK :: gJ :: gO :: gP :: gW :: gT :: v28 :: (.d (.int .i64 (ns.length : Int))) :: (.d (.int .i64 (i : Int))) :: gS :: gV :: gX :: gY :: gf :: gg :: gZ :: gh :: gj :: gk :: gn :: gr :: gz :: hZ :: xC :: hH :: hJ :: hU :: hY :: xA :: xB :: []) S [] R := by
 intro k
 induction k with
 | zero =>
  intro i S v6 out g1 g2 g3 g4 g5 g7 g8 g9 gM gF gG gB gC gA gE gH gI gD gL gN gK gJ gO gP gW gT gS gV gX gY gf gg gZ gh gj gk gn gr gz hZ xC hH hJ hU hY xA xB hk hi hK hN ho hol hR
  have hie : i = ns.length := by omega
  subst hie
  rw [zR]
  refine zJ ?_
  conv => arg 2; whnf
  simp (maxSteps:=1000000) (disch:=first|assumption|omega|rfl) only [↓gp, gc, Nat.reduceAdd]
  exact hR _ _ _ _ _ _ _ _ _ _ _ _ _ _ _ _ _ _ _ _ hK ho hol
 | succ k ih =>
  intro i S v6 out g1 g2 g3 g4 g5 g7 g8 g9 gM gF gG gB gC gA gE gH gI gD gL gN gK gJ gO gP gW gT gS gV gX gY gf gg gZ gh gj gk gn gr gz hZ xC hH hJ hU hY xA xB hk hi hK hN ho hol hR
  have hlt : i < ns.length := by omega
  have h3 : IntKind.i64.wrap ((i : Int) + 1) = ((i + 1 : Nat) : Int) := by rw [wrap64 (by omega)]; omega
  obtain ⟨id, hix, hre, _⟩ := wH Try.underlying46 s3z (hK.own hn) (i := i) (by rw [zW]; exact hlt)
  have hre : rowE S id i = some (.d (.int .i64 ns[i])) := by rw [hre]; simp [zX]
  have h1 := h0.keep hK
  have hrx := zK (e := 103) h1.hx
  obtain ⟨o, S2, ⟨hK2, rfl⟩, hE⟩ := qR (zir S c r m C h1.ca ns[i])
  have hE := fun {ops dst k T F Q} => zQ (ops := ops) (dst := dst) (l := k) (T := T) (F := F) (Q := Q) rfl hE
  have hK02 := hK.trans hK2
  have ho2 := hK2.own ho
  rw [zR]
  refine zJ ?_
  conv => arg 2; whnf
  by_cases hd : z72 C ns[i]
  ·rw [decide_eq_true hd] at hE
   simp (maxSteps:=1000000) (disch:=first|assumption|omega|rfl) only [↓gp, gc, Nat.reduceAdd, hix, hre, ld3r, hrx, z89, zm2, hE, bo64, kJ, Bool.not_true, h3]
   exact ih (i + 1) S2 v6 out _ _ _ _ _ _ _ _ _ _ _ _ _ _ _ _ _ _ _ _ _ _ _ _ _ _ _ _ _ _ _ _ _ _ _ _ _ _ _ _ _ _ _ _ _ _ _ (by omega) (by omega) hK02 hN ho2 (by omega) hR
  ·rw [decide_eq_false hd] at hE
   obtain ⟨v', S3, cst, hap, ho3, hfr, hlen3⟩ := ap46 ns[i] ho2 (by omega)
   simp (maxSteps:=1000000) (disch:=first|assumption|omega|rfl) only [↓gp, gc, Nat.reduceAdd, hix, hre, ld3r, hrx, z89, zm2, hE, bo64, kJ, Bool.not_false, hap, h3]
   refine ih (i + 1) S3 v' (out ++ [ns[i]]) _ _ _ _ _ _ _ _ _ _ _ _ _ _ _ _ _ _ _ _ _ _ _ _ _ _ _ _ _ _ _ _ _ _ _ _ _ _ _ _ _ _ _ _ _ _ _ (by omega) (by omega) (fun j o hj => (hfr j o (hK02 j o hj) (hN j (zN hj))).1) (fun j hj => (hfr j _ (List.getElem?_eq_getElem (Nat.lt_of_lt_of_le hj hK02.len)) (hN j hj)).2) ?_ (by simp; omega) hR
   have e : zX (out ++ [ns[i]]) = (out ++ [ns[i]]).map fun x => .d (D.int .i64 x) := rfl
   rw [e]; exact ho3
theorem zvz : zA Try.prog 19 = some ⟨(Try.f19.body.getD .skip), 52, #[]⟩ := by
 unfold zA
 rw [Try.func19]
 rfl
abbrev FrM (m mk r : Nat) : Store → Store → Prop := Frm stT [m, mk] 42 r
theorem FrS.toM {m mk r : Nat} {S S' : Store} (h : FrS m r S S') : FrM m mk r S S' := h.mono (fun _ h => h) (fun e he => by simp only [List.contains_cons, List.contains_nil, Bool.or_false, beq_iff_eq] at he ⊢; simp [he])
theorem CacheP.setmp {S : Store} {c d r m k : Nat} {L : V} {es vs : List V} {f : Int → Option V} {z : Int} {w q : Nat} {C : CS} (h : CacheP S c d r m L es vs f z w q C) {xs : List (D × V × Nat)} {e : Nat} (hk : S[k]? = some (.mp xs e)) (hkm : k ≠ m) {o : Ob} : CacheP (S.set k o) c d r m L es vs f z w q C := by
 have at_ : ∀ {j : Nat} {ys : List V} {t : TypeId}, S[j]? = some (.row ys t) → (S.set k o)[j]? = some (.row ys t) := fun hj => by rw [List.getElem?_set_ne (by rintro rfl; cases getE hk hj)]; exact hj
 have own : ∀ {u : V} {t : TypeId} {ys : List V}, OwnS S u t ys → OwnS (S.set k o) u t ys := fun ho => by
  rcases ho with ho | ⟨id, p, q⟩
  ·exact .inl ho
  ·exact .inr ⟨id, p, at_ q⟩
 obtain ⟨l, kk, h1, h2⟩ := h.hm
 exact ⟨at_ h.hc, ⟨l, kk, by rw [List.getElem?_set_ne hkm]; exact h1, h2⟩, ⟨at_ h.dk.hd, at_ h.dk.hr, h.dk.ne⟩, h.zb, h.il, h.im, h.kn, own h.lo, h.lc.mono (fun _ _ => own) (fun _ _ => own), h.wq, h.ok⟩
theorem CacheAt.setmp {S : Store} {c r m k : Nat} {C : CS} (h : CacheAt S c r m C) {xs : List (D × V × Nat)} {e : Nat} (hk : S[k]? = some (.mp xs e)) (hkm : k ≠ m) {o : Ob} : CacheAt (S.set k o) c r m C := by
 obtain ⟨d, L, es, vs, f, z, w, q, h, hq⟩ := h
 exact ⟨d, L, es, vs, f, z, w, q, h.setmp hk hkm, hq⟩
theorem zsr (S : Store) (x c r m mk : Nat) (l : Lay) (e : Int) (C : CS) (mf : Int → Option V) (h0 : StoreP S x c r m mk l e C mf) (b : Nat) (hmk : MkV S mf b) (hb : b ≤ 100000) (dir : Int) (nd : V) (ids : List Int) (hnd : IntsV S nd ids) (hids : ids.length ≤ 100000) :
  EvS cfg 19 [.ref x 0 0, .d (.int .i64 dir), nd] S (fun o S' => o = .ret (.tup []) ∧ FrM m mk r S S' ∧ ∃ mf', StoreP S' x c r m mk l e C mf' ∧ MkV S' mf' (b + ids.length)) := by
 refine qN rfl zvz ?_
 show Wp cfg (Try.f19.body.getD .skip) ((.ref x 0 0) :: (.d (.int .i64 dir)) :: nd :: uZ (uZ (uZ (uZ ((.tup []) :: (.tup []) :: (.tup []) :: (.tup []) :: (.tup []) :: (.tup []) :: (.tup []) :: (.tup []) :: (.tup []) :: []))))) S [] _
 unfold uZ
 conv => arg 2; whnf
 rw [zR]
 have hrx := zK (e := 103) h0.hx
 have hd1 := hnd.one
 have hlk := (h0.mp.look zyx dir).2
 obtain ⟨ms, hms, hmsl⟩ : ∃ ms, OwnS S ((mf dir).getD (.ts [])) 3 (zX ms) ∧ ms.length ≤ b := by
  cases hf : mf dir with
  | none => exact ⟨[], .inl ⟨rfl, rfl⟩, Nat.zero_le _⟩
  | some v => exact hmk dir v hf
 generalize (mf dir).getD (.ts []) = w24 at *
 have hw1 := qF hms
 obtain ⟨v25, S1, k1, hap1, ho1, hfr1⟩ := zgm (S := S) (v := .ts []) (w := w24) (xs := []) (ys := ms) (.inl ⟨rfl, rfl⟩) hms (by simp; omega)
 rw [List.nil_append] at ho1
 have hK1 : Keep S S1 := fun j o hj => (hfr1 j o hj NotAt.ts).1
 have hN1 : ∀ j, j < S.length → NotAt v25 j := fun j hj => (hfr1 j _ (List.getElem?_eq_getElem hj) NotAt.ts).2
 obtain ⟨o, S2, ⟨hK2, v27, rfl, hv27⟩, hE⟩ := qR (ze2 S1 nd ids (hnd.keep hK1) hids)
 have hE := fun {ops dst k T F Q} => zQ (ops := ops) (dst := dst) (l := k) (T := T) (F := F) (Q := Q) rfl hE
 have hnz : (noZ ids).length ≤ ids.length := List.length_filter_le ..
 obtain ⟨v28, S3, k3, hap3, ho3, hfr3⟩ := zgm (hK2.own ho1) hv27 (by omega)
 have hK3 : Keep S S3 := fun j o hj => (hfr3 j o (hK2 j o (hK1 j o hj)) (hN1 j (zN hj))).1
 have hl3 : (ms ++ noZ ids).length ≤ b + ids.length := by simp; omega
 have hln : zI Try.prog S3 .len [46] [v28] = some (.val (.d (.int .i64 ((ms ++ noZ ids).length : Int))) S3 0) := by rw [wB Try.underlying46 ho3, zW]
 have h25 := qF ho1
 have h27 := qF hv27
 simp (maxSteps:=1000000) (disch:=first|assumption|omega|rfl) only [↓gp, gc, Nat.reduceAdd, ↓vbs, zjp, hrx, zjc, zkl, zze, zj2, hlk, hap1, hE, bo63, hd1, hw1, h25, h27, hap3, hln]
 refine zwk x c r m mk l e C mf S3 (h0.keep hK3) v28 (ms ++ noZ ids) ho3 (by omega) _ (ms ++ noZ ids).length 0 S3 (.ts []) [] _ _ _ _ _ _ _ _ _ _ _ _ _ _ _ _ _ _ _ _ _ _ _ _ _ _ _ _ _ _ _ _ _ _ _ _ _ _ _ _ _ _ _ _ _ _ _ rfl (Nat.zero_le _) Keep.refl (fun j _ => NotAt.ts) (.inl ⟨rfl, rfl⟩) (by simp) ?_
 intro S4 v6 out i' g8 gS gV gX gY gf gg gZ gh gj gk gn gr gz hZ xC hK4 ho4 hol
 have hK04 := hK3.trans hK4
 have h4 := h0.keep hK04
 have hrx4 := zK (e := 103) h4.hx
 have h61 := qF ho4
 obtain ⟨oo, hup, hm5, es', c', rfl⟩ := h4.mp.put zyx dir (v := v6) h61
 simp (maxSteps:=1000000) (disch:=first|assumption|omega|rfl) only [↓gp, gc, Nat.reduceAdd, hrx4, zjc, zkl, h61, hup]
 obtain ⟨Lm, cm, hmk4, hrest⟩ := h4.mp
 have own4 : ∀ v xs, OwnS S4 v 3 xs → OwnS (S4.set mk (.mp es' c')) v 3 xs := fun v xs ho => by
  rcases ho with ho | ⟨id, e1, e2⟩
  ·exact .inl ho
  ·exact .inr ⟨id, e1, by rw [List.getElem?_set_ne (by rintro rfl; cases getE hmk4 e2)]; exact e2⟩
 refine ⟨rfl, _, rfl, rfl, ?_, _, ⟨?_, h4.ca.setmp hmk4 h4.ne, hm5, h4.ne, h4.hB⟩, ?_⟩
 ·refine (Frm.keep hK04).set fun q hq => ?_
  obtain ⟨L0, c0, e0, _⟩ := h0.mp
  have := getE hq e0
  subst this
  simp [calm]
 ·rw [List.getElem?_set_ne (by rintro rfl; cases getE hmk4 h4.hx)]; exact h4.hx
 ·intro n v hv
  unfold updI at hv
  split at hv
  ·cases hv
   exact ⟨out, own4 _ _ ho4, by omega⟩
  ·obtain ⟨ms2, e1, e2⟩ := hmk n v hv
   exact ⟨ms2, own4 _ _ (hK04.own e1), by omega⟩
structure Stp where
 do_ : Int
 no : Int
 byte : UInt8
 at_ : Int
 data : List UInt8
 i : Ino
 needs : List Int
def encStp (s : Stp) : D := .agg [.int .i64 s.do_, .int .i64 s.no, byD s.byte, .int .i64 s.at_, encB s.data, .int .i64 s.i.kind, .int .i64 s.i.links, .int .i64 s.i.size, .int .i64 s.i.parent, .int .i64 s.i.d0, .int .i64 s.i.d1, .int .i64 s.i.d2, .int .i64 s.i.d3, .int .i64 s.i.d4, .int .i64 s.i.d5, .int .i64 s.i.ind, encI s.needs]
section
variable {s : Stp} {d x y : Nat}
theorem ft83 : zZ Try.prog 83 (.d (encStp s)) = true := by kernel_rfl
theorem z8d : zF Try.prog 83 0 (.ref d x y) = some (.ref d x (y + 0)) := by kernel_rfl
theorem zcx : zF Try.prog 83 1 (.ref d x y) = some (.ref d x (y + 1)) := by kernel_rfl
theorem zwn : zF Try.prog 83 2 (.ref d x y) = some (.ref d x (y + 2)) := by kernel_rfl
theorem zyl : zF Try.prog 83 3 (.ref d x y) = some (.ref d x (y + 3)) := by kernel_rfl
theorem zyw : zF Try.prog 83 4 (.ref d x y) = some (.ref d x (y + 5)) := by kernel_rfl
theorem zfd : zF Try.prog 83 5 (.ref d x y) = some (.ref d x (y + 16)) := by kernel_rfl
theorem z7z : qL Try.prog 3 0 (some (.d (encStp s))) = some (.d (.int .i64 s.do_)) := by kernel_rfl
theorem za8 : qL Try.prog 3 1 (some (.d (encStp s))) = some (.d (.int .i64 s.no)) := by kernel_rfl
theorem zux : qL Try.prog 5 2 (some (.d (encStp s))) = some (.d (byD s.byte)) := by kernel_rfl
theorem zx3 : qL Try.prog 81 3 (some (.d (encStp s))) = some (.agg [.d (.int .i64 s.at_), .d (encB s.data)]) := by kernel_rfl
theorem zxj : qL Try.prog 61 5 (some (.d (encStp s))) = some (inoV s.i) := by kernel_rfl
theorem zgl : qL Try.prog 46 16 (some (.d (encStp s))) = some (.d (encI s.needs)) := by kernel_rfl
end
def zvi (l : Lay) (e : Int) (C : CS) (s : Stp) (e' : Int) (C' : CS) (id : Int) : Prop :=
 (s.do_ = 0 ∧ e' = spE e C s.no s.at_ s.data s.needs ∧ C' = spC e C s.no s.at_ s.data s.needs ∧ id = spI e C s.no s.at_ s.data s.needs) ∨
 (s.do_ = 1 ∧ e' = spE e C s.no 0 (fulL s.byte) s.needs ∧ C' = spC e C s.no 0 (fulL s.byte) s.needs ∧ id = spI e C s.no 0 (fulL s.byte) s.needs) ∨
 (s.do_ = 2 ∧ e' = siE l e C s.no s.i s.needs ∧ C' = siC l e C s.no s.i s.needs ∧ id = siI l e C s.no s.i s.needs) ∨
 (2 < s.do_ ∨ s.do_ < 0) ∧ e' = e ∧ id = 0 ∧ zeo C C' s.no
section
variable {ops : Array Oper} {dst : Option Tmp} {S : Store} {T : List V} {F : Dfs} {Q : Post} {K : List Nat → List (Nat × Nat) → List V → Store → Prop} {rd : List Nat} {cs : List (Nat × Nat)} {i : Nat}
theorem zz6 {a : Int} {b : List UInt8} (hl : b.length ≤ 100000) : WpE cfg ops F Q K rd cs i dst T S (some (.enter 81 [.agg [.d (.int .i64 a), .d (encB b)]])) = K (i :: rd) (cs ++ [(i, 1)]) (putT T dst (.d (patD a b))) S :=
 z4m (ds := [patD a b]) rfl rfl rfl (q0u a b hl)
theorem zrc {x : UInt8} : WpE cfg ops F Q K rd cs i dst T S (some (.enter 82 [.d (byD x)])) = K (i :: rd) (cs ++ [(i, 1)]) (putT T dst (.d (blkD (fulL x)))) S :=
 z4m (ds := [byD x]) rfl rfl rfl (zrq x)
end
theorem q1r (S : Store) (x c r m mk : Nat) (l : Lay) (e : Int) (C : CS) (mf : Int → Option V) (h0 : StoreP S x c r m mk l e C mf) (hb : InB l.blocks) (hi : InB l.inodes) (hm : MayL l) (b : Nat) (hmk : MkV S mf b) (hbb : b ≤ 100000) (s : Stp) (hat : InB s.at_) (hdl : s.data.length ≤ 300) (hnl : s.needs.length ≤ 20) (hl : C.last < 100000) :
  EvS cfg 41 [.ref x 0 0, .d (encStp s)] S (fun o S' => FrM m mk r S S' ∧ ∃ e' C' mf' id, o = .ret (.d (.int .i64 id)) ∧ StoreP S' x c r m mk l e' C' mf' ∧ MkV S' mf' (b + 20) ∧ zvi l e C s e' C' id) := by
 refine qN rfl zxi ?_
 show Wp cfg (Try.f41.body.getD .skip) ((.ref x 0 0) :: (.d (encStp s)) :: uZ (uZ (uZ (uZ (uZ ((.tup []) :: (.tup []) :: (.tup []) :: (.tup []) :: (.tup []) :: [])))))) S [] _
 unfold uZ
 conv => arg 2; whnf
 rw [zR]
 generalize hal : S.length = a
 have hk0 : Keep S (S ++ [.row [.d (encStp s)] 83]) := Keep.refl.app
 have h1 := h0.keep hk0
 have hnd : ∀ S, IntsV S (.d (encI s.needs)) s.needs := fun S => .inl rfl
 have mkS : ∀ {S' : Store}, FrS m r (S ++ [.row [.d (encStp s)] 83]) S' → MkV S' mf (b + 20) := fun hF n v hv => by
  obtain ⟨ms, g1, g2⟩ := hmk n v hv
  exact ⟨ms, hF.own (hk0.own g1) rfl, by omega⟩
 have toM : ∀ {S' : Store}, FrS m r (S ++ [.row [.d (encStp s)] 83]) S' → FrM m mk r S S' := fun hF => (Frm.keep hk0).trans hF.toM
 by_cases d0 : s.do_ = 0
 ·have hde : ∀ i' : Decidable (s.do_ = 0), @decide (s.do_ = 0) i' = true := fun i' => decide_eq_true d0
  have hp : PatV (S ++ [.row [.d (encStp s)] 83]) (.d (patD s.at_ s.data)) (.d (encB s.data)) s.at_ s.data := .inr ⟨rfl, rfl⟩
  obtain ⟨o, S2, ⟨hF, hC, rfl⟩, hE⟩ := qR (zbe _ x c r m mk l e C mf h1 s.no _ _ _ _ hp hat _ s.needs (hnd _) (by omega) hl)
  have hE := fun {ops F Q K rd cs i dst T} => z7d (ops := ops) (F := F) (Q := Q) (K := K) (rd := rd) (cs := cs) (i := i) (dst := dst) (T := T) rfl hE
  have hto := fun {ops F Q K rd cs i dst T S} => zz6 (ops := ops) (F := F) (Q := Q) (K := K) (rd := rd) (cs := cs) (i := i) (dst := dst) (T := T) (S := S) (a := s.at_) (b := s.data) (by omega)
  simp (maxSteps:=1000000) (disch:=first|assumption|omega|rfl) only [↓gp, gc, Nat.reduceAdd, ft83, hal, rA0 hal, z8d, z7z, hde]
  refine kH (is := [0, 1, 2, 3, 4, 6, 7, 5, 8, 9]) (h := 0) (by kernel_rfl) (by kernel_rfl) ?_
  simp (maxSteps:=1000000) (disch:=first|assumption|omega|rfl) only [List.replicate_zero, eq_self, gd, ga, Nat.reduceAdd, ↓gq, vso, List.append_nil, rA0 hal, zcx, zyl, zfd, za8, zx3, zgl, hto, bo81, hE, bo23]
  refine ⟨fun _ => by kernel_rfl, by kernel_rfl, ?_⟩
  simp (maxSteps:=1000000) (disch:=first|assumption|omega|rfl) only [↓gp, gc, Nat.reduceAdd]
  exact ⟨rfl, _, rfl, toM hF, _, _, mf, _, rfl, hC, mkS hF, .inl ⟨d0, rfl, rfl, rfl⟩⟩
 have n0 : ∀ i' : Decidable (s.do_ = 0), @decide (s.do_ = 0) i' = false := fun i' => decide_eq_false d0
 by_cases d1 : s.do_ = 1
 ·have hde : ∀ i' : Decidable (s.do_ = 1), @decide (s.do_ = 1) i' = true := fun i' => decide_eq_true d1
  obtain ⟨o, S2, ⟨hF, hC, rfl⟩, hE⟩ := qR (zob _ x c r m mk l e C mf h1 s.no (.d (blkD (fulL s.byte))) _ jL z4l _ s.needs (hnd _) (by omega) hl)
  have hE := fun {ops F Q K rd cs i dst T} => z7d (ops := ops) (F := F) (Q := Q) (K := K) (rd := rd) (cs := cs) (i := i) (dst := dst) (T := T) rfl hE
  have hto := fun {ops F Q K rd cs i dst T S} => zrc (ops := ops) (F := F) (Q := Q) (K := K) (rd := rd) (cs := cs) (i := i) (dst := dst) (T := T) (S := S) (x := s.byte)
  simp (maxSteps:=1000000) (disch:=first|assumption|omega|rfl) only [↓gp, gc, Nat.reduceAdd, ft83, hal, rA0 hal, z8d, z7z, n0, hde]
  refine kH (is := [0, 1, 2, 3, 4, 6, 7, 5, 8, 9]) (h := 0) (by kernel_rfl) (by kernel_rfl) ?_
  simp (maxSteps:=1000000) (disch:=first|assumption|omega|rfl) only [List.replicate_zero, eq_self, gd, ga, Nat.reduceAdd, ↓gq, vso, List.append_nil, rA0 hal, zcx, zwn, zfd, za8, zux, zgl, hto, bo82, hE, bo24]
  refine ⟨fun _ => by kernel_rfl, by kernel_rfl, ?_⟩
  simp (maxSteps:=1000000) (disch:=first|assumption|omega|rfl) only [↓gp, gc, Nat.reduceAdd]
  exact ⟨rfl, _, rfl, toM hF, _, _, mf, _, rfl, hC, mkS hF, .inr (.inl ⟨d1, rfl, rfl, rfl⟩)⟩
 have n1 : ∀ i' : Decidable (s.do_ = 1), @decide (s.do_ = 1) i' = false := fun i' => decide_eq_false d1
 by_cases d2 : s.do_ = 2
 ·have hde : ∀ i' : Decidable (s.do_ = 2), @decide (s.do_ = 2) i' = true := fun i' => decide_eq_true d2
  obtain ⟨o, S2, ⟨hF, hC, rfl⟩, hE⟩ := qR (zi0 _ x c r m mk l e C mf h1 hb hi hm s.no (inoV s.i) s.i (.inr rfl) _ s.needs (hnd _) (by omega) hl)
  have hE := fun {ops dst k T F Q} => zQ (ops := ops) (dst := dst) (l := k) (T := T) (F := F) (Q := Q) rfl hE
  have hi1 : (inoV s.i).one = true := rfl
  simp (maxSteps:=1000000) (disch:=first|assumption|omega|rfl) only [↓gp, gc, Nat.reduceAdd, ft83, hal, rA0 hal, z8d, zcx, zyw, zfd, z7z, za8, zxj, zgl, n0, n1, hde, hE, bo25, hi1]
  exact ⟨rfl, _, rfl, toM hF, _, _, mf, _, rfl, hC, mkS hF, .inr (.inr (.inl ⟨d2, rfl, rfl, rfl⟩))⟩
 have n2 : ∀ i' : Decidable (s.do_ = 2), @decide (s.do_ = 2) i' = false := fun i' => decide_eq_false d2
 have hoth : 2 < s.do_ ∨ s.do_ < 0 := by omega
 by_cases d3 : s.do_ = 3
 ·have hde : ∀ i' : Decidable (s.do_ = 3), @decide (s.do_ = 3) i' = true := fun i' => decide_eq_true d3
  have n4 : ∀ i' : Decidable (s.do_ = 4), @decide (s.do_ = 4) i' = false := fun i' => decide_eq_false (by omega)
  obtain ⟨o, S2, ⟨hF, rfl, C', hC, hfl⟩, hE⟩ := qR (zop _ c r m C h1.ca s.no)
  have hE := fun {ops base K ws cs i dst T} => kV (ops := ops) (base := base) (K := K) (ws := ws) (cs := cs) (i := i) (dst := dst) (T := T) rfl hE
  have hca := fun {ops base K ws cs i dst T} => kV (ops := ops) (base := base) (K := K) (ws := ws) (cs := cs) (i := i) (dst := dst) (T := T) rfl (zfx _ x c mk _ _ _ _ h1.hx)
  have hr2 : S2[a]? = some (.row [.d (encStp s)] 83) := hF.row (by rw [List.getElem?_append_right (by omega), hal, Nat.sub_self]; rfl) rfl
  have hra2 := zK (e := 83) hr2
  simp (maxSteps:=1000000) (disch:=first|assumption|omega|rfl) only [↓gp, gc, Nat.reduceAdd, ft83, hal, rA0 hal, z8d, z7z, n0, n1, n2, hde]
  refine kL (is := [0, 2, 3, 1, 4]) (h := 0) (by kernel_rfl) (by kernel_rfl) ?_
  simp (maxSteps:=1000000) (disch:=first|assumption|omega|rfl) only [List.replicate_zero, eq_self, gw, ga, Nat.reduceAdd, ↓gq, vso, List.append_nil, rA0 hal, zcx, za8, hca, bo20, hE, bo83]
  refine ⟨qV rfl (by kernel_rfl) rfl (z3f ((zM (rA0 hal)).trans za8)) (kX (k := .i64) (n := s.no)) qM, zV (by kernel_rfl) qM, by kernel_rfl, ?_⟩
  simp (maxSteps:=1000000) (disch:=first|assumption|omega|rfl) only [↓gp, gc, Nat.reduceAdd, hra2, z8d, z7z, n4]
  have hlen : C'.img.length = C.img.length := (z8y h0.ca.ok hfl).1
  exact ⟨rfl, _, rfl, toM hF.toS, _, C', mf, _, rfl, h1.step hF hC hlen, mkS hF.toS, .inr (.inr (.inr ⟨hoth, rfl, rfl, hfl⟩))⟩
 have n3 : ∀ i' : Decidable (s.do_ = 3), @decide (s.do_ = 3) i' = false := fun i' => decide_eq_false d3
 by_cases d4 : s.do_ = 4
 ·have hde : ∀ i' : Decidable (s.do_ = 4), @decide (s.do_ = 4) i' = true := fun i' => decide_eq_true d4
  obtain ⟨o, S2, ⟨rfl, hF, mf', hS, hM⟩, hE⟩ := qR (zsr _ x c r m mk l e C mf h1 b (hmk.own fun _ _ h => hk0.own h) hbb s.no _ s.needs (hnd _) (by omega))
  have hE := fun {ops dst k T F Q} => zQ (ops := ops) (dst := dst) (l := k) (T := T) (F := F) (Q := Q) rfl hE
  simp (maxSteps:=1000000) (disch:=first|assumption|omega|rfl) only [↓gp, gc, Nat.reduceAdd, ft83, hal, rA0 hal, z8d, zcx, zfd, z7z, za8, zgl, n0, n1, n2, n3, hde, hE, bo19]
  refine ⟨rfl, _, rfl, (Frm.keep hk0).trans hF, _, C, mf', _, rfl, hS, fun n v hv => ?_, .inr (.inr (.inr ⟨hoth, rfl, rfl, .inl rfl⟩))⟩
  obtain ⟨ms, g1, g2⟩ := hM n v hv
  exact ⟨ms, g1, by omega⟩
 ·have n4 : ∀ i' : Decidable (s.do_ = 4), @decide (s.do_ = 4) i' = false := fun i' => decide_eq_false d4
  simp (maxSteps:=1000000) (disch:=first|assumption|omega|rfl) only [↓gp, gc, Nat.reduceAdd, ft83, hal, rA0 hal, z8d, z7z, n0, n1, n2, n3, n4]
  exact ⟨rfl, _, rfl, toM Frm.refl, _, C, mf, _, rfl, h1, mkS Frm.refl, .inr (.inr (.inr ⟨hoth, rfl, rfl, .inl rfl⟩))⟩
def allV (x gm : Nat) : V := .agg [.ref x 0 0, .mr gm]
section
variable {x gm d y z : Nat}
end
def FrA (m r A : Nat) (S S' : Store) : Prop := S.length ≤ S'.length ∧ ∀ (j : Nat) (o : Ob), j < A → S[j]? = some o → calm caT [m] 42 r j o = true → S'[j]? = some o
theorem FrA.of {m r A : Nat} {S S' : Store} (h : FrC m r S S') : FrA m r A S S' := ⟨h.1, fun j o _ hj hc => h.2 j o hj hc⟩
theorem FrA.trans {m r A : Nat} {S S' S'' : Store} (h : FrA m r A S S') (h' : FrA m r A S' S'') : FrA m r A S S'' := ⟨Nat.le_trans h.1 h'.1, fun j o hA hj hc => h'.2 j o hA (h.2 j o hA hj hc) hc⟩
structure SeenAt (S : Store) (B y x c r m mk gm : Nat) (l : Lay) (e : Int) (C : CS) : Prop where
 hy : S[y]? = some (.row [allV x gm] 124)
 hx : S[x]? = some (.row [stoV c mk l.blocks l.inodes l.merge e] 103)
 ca : CacheIn S B c r m C
theorem SeenAt.keep {S S' : Store} {B y x c r m mk gm : Nat} {l : Lay} {e : Int} {C : CS} (h : SeenAt S B y x c r m mk gm l e C) (hk : Keep S S') : SeenAt S' B y x c r m mk gm l e C := ⟨hk _ _ h.hy, hk _ _ h.hx, h.ca.keep hk⟩
theorem zq9 {f : Fn} {a b : List V} : (V.fn f a b).one = true := rfl
section
variable (S : Store) (B y x c r m mk gm : Nat) (l : Lay) (e : Int) (C : CS) (h : SeenAt S B y x c r m mk gm l e C) (hB : l.blocks = C.img.length) (hb : InB l.blocks) (hi : InB l.inodes) (hm : MayL l) (f : Nat → Ino) (hcl : ∀ ino : Nat, 2 ≤ ino → (ino : Int) ≤ l.inodes → ∃ bb, Ev cfg 114 [blkD (wU (C.see (2 + (ino - 1) / 8)) ((ino - 1) % 8))] (.ret (.tup [.d (zS (f ino)), .d (.bool bb)]))) (N : Nat) (hN : l.inodes = N)
include h hB hb hi hm hcl hN
end
def C0 (B I M K : Nat) : CS := ⟨(List.range B).map (finB B I M K), [], 0⟩
theorem zpx {B I M K i : Nat} (h : i < B) : (C0 B I M K).img[i]? = some (finB B I M K i) := by
 unfold C0
 simp [h]
theorem zc6 {B I M K : Nat} : (C0 B I M K).img.length = B := by unfold C0; simp
theorem zy3 (B I M K i : Nat) : (finB B I M K i).length = 256 := by
 unfold finB
 split
 ·exact z5e ..
 ·split
  ·exact z1f ..
  ·exact zma _
theorem q08 {B I M K : Nat} (h : B ≤ 512) : (C0 B I M K).Ok := by
 refine ⟨by rw [zc6]; exact h, ?_, by simp [C0], by simp [C0], by simp [C0]⟩
 intro b hb
 obtain ⟨i, _, rfl⟩ := List.mem_map.1 hb
 exact zy3 ..
theorem zo5 (S : Store) (l : Lay) (B I M K : Nat) (hl : l = ⟨(B : Int), (I : Int), (M : Int)⟩) (hB : B ≤ 512) (hI : I ≤ 128) (hM : M < 18446744073709551616) (hm : MayL l) (hK : 2 + l.inodes.tdiv 8 = ((2 + K : Nat) : Int)) (hK16 : K ≤ 16) (hKB : 2 + K < B) :
  EvS cfg 40 [.d (encLay l)] S (fun o S' => Keep S S' ∧ ∃ d x c r m mk, o = .ret (.tup [.ref d 0 0, .ref x 0 0]) ∧ StoreP S' x c r m mk l 0 (C0 B I M K) (fun _ => none)) := by
 have hB16 : 16 ≤ B := by have := hm.1; rw [hl] at this; simp only at this; omega
 refine qN rfl zwg ?_
 show Wp cfg (Try.f40.body.getD .skip) ((.d (encLay l)) :: uZ (uZ ((.tup []) :: []))) S [] _
 unfold uZ
 conv => arg 2; whnf
 rw [zR]
 generalize ha : S.length = a
 have hlb : l.blocks = (B : Int) := by rw [hl]
 obtain ⟨o1, S1, hR1, hn⟩ := qR (zxm (S ++ [.row [.d (encLay l)] 24]) B hB16 (by omega))
 obtain ⟨hS1, rfl⟩ := hR1
 have hn := fun {ops dst k T F Q} => zQ (ops := ops) (dst := dst) (l := k) (T := T) (F := F) (Q := Q) rfl hn
 simp only [List.append_assoc, List.length_append, List.length_cons, List.length_nil, ha, List.cons_append, List.nil_append] at hS1 hn
 have hD1 : DskAt S1 (a + 2) (a + 1) (List.replicate B (blkV (zC 256))) 0 false false 0 0 := by
  rw [hS1]
  refine ⟨?_, ?_, by omega⟩
  ·rw [List.getElem?_append_right (by omega), ha, Nat.add_sub_cancel_left, List.length_replicate]; rfl
  ·rw [List.getElem?_append_right (by omega), ha, Nat.add_sub_cancel_left]; rfl
 have hKS1 : Keep S S1 := hS1 ▸ Keep.refl.app
 have hlay1 : S1[a]? = some (.row [.d (encLay l)] 24) := by rw [hS1, List.getElem?_append_right (by omega), ha, Nat.sub_self]; rfl
 obtain ⟨o, S2, hR2, hf⟩ := qR (zuy l B I M K hl hB hI hM hm hK hK16 hKB S1 (a + 2) (a + 1) 0 ⟨by omega, by unfold InB; omega⟩ false hD1)
 have hR2 : o = .ret (.d (.int .i64 0)) ∧ ∃ vs f w, K2 (a + 2) (a + 1) S1 S2 ∧ DskAt S2 (a + 2) (a + 1) vs f false false w 0 ∧ vs.length = B ∧ (∀ (i : Nat) (v : V), vs[i]? = some v → IsB v (finB B I M K i)) ∧ (false = false → 0 ≤ f ∧ InB f ∧ 0 ≤ w ∧ w ≤ 100) := by
  rcases hR2 with ⟨_, h2, h3⟩ | ⟨⟨h1, _⟩, _⟩
  ·exact ⟨h2, h3⟩
  ·cases h1
 obtain ⟨rfl, vs, f, w, hK2, hD2, hvl, hV, hfw⟩ := hR2
 obtain ⟨f1, f2, w1, w2⟩ := hfw rfl
 have hf := fun {ops dst k T F Q} => zQ (ops := ops) (dst := dst) (l := k) (T := T) (F := F) (Q := Q) rfl hf
 have hv0 := hV 0 (vs[0]'(by omega)) (List.getElem?_eq_getElem (by omega))
 have hfin0 : finB B I M K 0 = supB B I M := if_pos rfl
 rw [hfin0] at hv0
 obtain ⟨o, S3, ⟨hK3, hD3, x, c, mk, m, rfl, hx, hc, hm0, hmk, hne⟩, hmt⟩ := qR (zgy S2 (a + 2) (a + 1) vs f w false B I M hB hI hM (by rw [← hl]; exact hm) hD2 _ (List.getElem?_eq_getElem (by omega)) hv0 hvl)
 have hmt := fun {ops dst k T F Q} => zQ (ops := ops) (dst := dst) (l := k) (T := T) (F := F) (Q := Q) rfl hmt
 have hrl := zK (e := 24) hlay1
 simp (maxSteps:=1000000) (disch:=first|assumption|omega|rfl) only [↓gp, gc, Nat.reduceAdd, ha, rA0 ha, zaj, z9y, hlb, hn, bo8, hrl, lr24, hf, bo10, hmt, bo13]
 refine ⟨rfl, _, z6g rfl rfl rfl rfl, fun j o hj => ?_, a + 1 + 1, x, c, a + 1, m, mk, rfl, ⟨(by rw [hl]; exact hx), ⟨a + 2, .ts [], [], vs, fun _ => none, f, w.toNat, 1, ⟨hc, MpI.nil hm0, ?_, ⟨f1, f2⟩, ?_, ?_, ?_, .inl ⟨rfl, rfl⟩, ⟨rfl, ?_⟩, ?_, q08 hB⟩, by omega⟩, MpI.nil hmk, hne, ?_⟩⟩
 ·have := zN hj
  exact hK3 j o (by omega) (by omega) (hK2 j o (by omega) (by omega) (hKS1 j o hj))
 ·have hw : ((w.toNat : Nat) : Int) = w := by omega
  rw [hw]
  exact hD3
 ·rw [hvl, zc6]
 ·intro i v b hv hb
  have hi : i < B := by have := (List.getElem?_eq_some_iff.1 hv).1; omega
  rw [zpx hi] at hb
  cases hb
  exact hV i v hv
 ·intro no v hh
  cases hh
 ·intro i e ch he
  cases he
 ·show w.toNat + 0 ≤ 0 + 100
  omega
 ·rw [hlb, zc6]

theorem zso {C : CS} {no : Int} {a : Int} {b : List UInt8} {needs : List Int} {k : Nat} : (C.put no a b needs).see k = if no = k then layB (C.see k) a.toNat b else C.see k := z18
theorem zfq {b d : List UInt8} {k k' : Nat} (hb : b.length = 256) (hd : d.length = 32) (hk : k < 8) (hk' : k' < 8) : wU (layB b (k' * 32) d) k = if k = k' then d else wU b k := by
 have e0 : (b.take (k' * 32)).length = k' * 32 := by rw [List.length_take]; omega
 unfold wU layB
 apply List.ext_getElem?
 intro i
 rw [List.getElem?_take]
 by_cases hi : i < 32
 ·rw [if_pos hi, List.getElem?_drop]
  rcases Nat.lt_trichotomy k k' with h | h | h
  ·rw [if_neg (by omega), List.append_assoc, List.getElem?_append_left (by omega), List.getElem?_take, if_pos (by omega), List.getElem?_take, if_pos hi, List.getElem?_drop]
  ·subst h
   rw [if_pos rfl, List.append_assoc, List.getElem?_append_right (by omega), e0, List.getElem?_append_left (by omega)]
   congr 1
   omega
  ·rw [if_neg (by omega), List.getElem?_append_right (by rw [List.length_append]; omega), List.length_append, e0, List.getElem?_drop, List.getElem?_take, if_pos hi, List.getElem?_drop]
   congr 1
   omega
 ·rw [if_neg hi]
  split
  ·rw [List.getElem?_eq_none (by omega)]
  ·rw [List.getElem?_take, if_neg hi]
structure LaidC (B I M K : Nat) (us : List Nat) (C : CS) : Prop where
 img : C.img = (C0 B I M K).img
 last : C.last = us.length
 see : ∀ no k, 2 ≤ no → no < B → k < 8 → wU (C.see no) k = if (no - 2) * 8 + k + 1 ∈ us then zv1 else wU (finB B I M K no) k
theorem zy1 {B I M K no : Nat} (h : no < B) : (C0 B I M K).see no = finB B I M K no := by
 show ((C0 B I M K).img.getD no []) = _
 rw [List.getD_eq_getElem?_getD, zpx h]
 rfl
theorem LaidC.zero {B I M K : Nat} : LaidC B I M K [] (C0 B I M K) := ⟨rfl, rfl, fun no k h1 h2 h3 => by rw [zy1 h2]; simp⟩
theorem LaidC.next {B I M K : Nat} {us : List Nat} {C : CS} (h : LaidC B I M K us C) (hC : C.Ok) {u : Nat} (hu : 1 ≤ u) (hB : 2 + (u - 1) / 8 < B) : LaidC B I M K (us ++ [u]) (C.put ((2 + (u - 1) / 8 : Nat) : Int) (((u - 1) % 8 * 32 : Nat) : Int) zv1 []) := by
 refine ⟨h.img, by rw [List.length_append]; show C.last + 1 = _; rw [h.last]; rfl, fun no k h1 h2 h3 => ?_⟩
 have hl : (C.see no).length = 256 := hC.see_len (by rw [h.img, zc6]; exact h2)
 have hk : (u - 1) % 8 < 8 := Nat.mod_lt _ (by decide)
 have ih := h.see no k h1 h2 h3
 rw [zso, Int.toNat_natCast]
 by_cases e : ((2 + (u - 1) / 8 : Nat) : Int) = (no : Int)
 ·rw [if_pos e, zfq hl rfl h3 hk]
  have e' : 2 + (u - 1) / 8 = no := by omega
  by_cases e2 : k = (u - 1) % 8
  ·have e3 : (no - 2) * 8 + k + 1 = u := by omega
   rw [if_pos e2, if_pos (by rw [e3]; simp)]
  ·have e3 : (no - 2) * 8 + k + 1 ≠ u := by omega
   rw [if_neg e2, ih]
   simp [e3]
 ·rw [if_neg e, ih]
  have e3 : (no - 2) * 8 + k + 1 ≠ u := by omega
  simp [e3]
theorem zg8 {e : Int} {C : CS} {no a : Int} {b : List UInt8} {ids : List Int} :
  (e ≠ 0 → spI e C no a b ids = 0) ∧ (spI e C no a b ids = 0 → spC e C no a b ids = C) ∧
  (spI e C no a b ids ≠ 0 → ∃ k : Nat, no = k ∧ k < C.img.length ∧ spC e C no a b ids = C.put no a b (z97 C (noZ ids))) ∧
  (spC e C no a b ids).last ≤ C.last + 1 ∧ (spC e C no a b ids).img = C.img := by
 unfold spI spC
 by_cases h : e ≠ 0
 ·rw [if_pos h, if_pos h]
  exact ⟨fun _ => rfl, fun _ => rfl, fun hh => absurd rfl hh, by omega, rfl⟩
 ·rw [if_neg h, if_neg h]
  by_cases h2 : putE C no a b (noZ ids) ≠ 0
  ·rw [if_pos h2, if_pos h2]
   exact ⟨fun _ => rfl, fun _ => rfl, fun hh => absurd rfl hh, by omega, rfl⟩
  ·rw [if_neg h2, if_neg h2]
   refine ⟨fun hh => absurd hh h, fun hh => by omega, fun _ => ?_, Nat.le_refl _, rfl⟩
   have hno : ¬ (no < 0 ∨ no ≥ C.img.length) := by
    intro hh
    apply h2
    unfold putE
    split
    ·decide
    ·split
     ·decide
     ·decide
   exact ⟨no.toNat, by omega, by omega, rfl⟩
theorem zn9 {l : Lay} {e : Int} {C : CS} (hok : C.Ok) {s : Stp} {e' : Int} {C' : CS} {id : Int} (h : zvi l e C s e' C' id) :
  (e ≠ 0 → id = 0) ∧ (id = 0 → ∀ k < C.img.length, C'.see k = C.see k) ∧ (∀ k < C.img.length, C'.see k ≠ C.see k → s.do_ < 2 → (k : Int) = s.no) ∧
  (id ≠ 0 → s.do_ = 2 → z71 l s.no ∧ MayI s.i ∧ 2 + (s.no.toNat - 1) / 8 < C.img.length ∧ C'.see (2 + (s.no.toNat - 1) / 8) = layB (C.see (2 + (s.no.toNat - 1) / 8)) ((s.no.toNat - 1) % 8 * 32) (putI s.i)) ∧
  C'.last ≤ C.last + 1 ∧ C'.img.length = C.img.length := by
 have put1 : ∀ {no a : Int} {b : List UInt8} {ids : List Int}, (spI e C no a b ids = 0 → ∀ k < C.img.length, (spC e C no a b ids).see k = C.see k) ∧ (∀ k < C.img.length, (spC e C no a b ids).see k ≠ C.see k → (k : Int) = no) := by
  intro no a b ids
  obtain ⟨h1, h2, h3, h4, h5⟩ := zg8 (e := e) (C := C) (no := no) (a := a) (b := b) (ids := ids)
  refine ⟨fun hh k _ => by rw [h2 hh], fun k hk hne => ?_⟩
  by_cases hz : spI e C no a b ids = 0
  ·exact absurd (by rw [h2 hz]) hne
  ·obtain ⟨k2, rfl, hk2, hc⟩ := h3 hz
   rw [hc, zg6] at hne
   by_cases e1 : k2 = k
   ·rw [e1]
   ·rw [if_neg e1] at hne; exact absurd rfl hne
 rcases h with ⟨hd, rfl, rfl, rfl⟩ | ⟨hd, rfl, rfl, rfl⟩ | ⟨hd, rfl, rfl, rfl⟩ | ⟨hd, rfl, rfl, hf⟩
 ·obtain ⟨h1, h2, h3, h4, h5⟩ := zg8 (e := e) (C := C) (no := s.no) (a := s.at_) (b := s.data) (ids := s.needs)
  exact ⟨h1, put1.1, fun k hk hne _ => put1.2 k hk hne, fun _ h => by omega, h4, by rw [h5]⟩
 ·obtain ⟨h1, h2, h3, h4, h5⟩ := zg8 (e := e) (C := C) (no := s.no) (a := 0) (b := fulL s.byte) (ids := s.needs)
  exact ⟨h1, put1.1, fun k hk hne _ => put1.2 k hk hne, fun _ h => by omega, h4, by rw [h5]⟩
 ·unfold siI siC
  by_cases he : e ≠ 0
  ·rw [if_pos he, if_pos he]
   exact ⟨fun _ => rfl, fun _ k _ => rfl, fun k _ hh => absurd rfl hh, fun hh => absurd rfl hh, by omega, rfl⟩
  ·rw [if_neg he, if_neg he]
   have he0 : e = 0 := Decidable.not_not.1 he
   by_cases hin : ¬ z71 l s.no
   ·rw [if_pos hin, if_pos hin]
    exact ⟨fun _ => rfl, fun _ k _ => rfl, fun k _ hh => absurd rfl hh, fun hh => absurd rfl hh, by omega, rfl⟩
   ·rw [if_neg hin, if_neg hin]
    by_cases hmi : ¬ MayI s.i
    ·rw [if_pos hmi, if_pos hmi]
     exact ⟨fun _ => rfl, fun _ k _ => rfl, fun k _ hh => absurd rfl hh, fun hh => absurd rfl hh, by omega, rfl⟩
    ·rw [if_neg hmi, if_neg hmi]
     obtain ⟨h1, h2, h3, h4, h5⟩ := zg8 (e := 0) (C := C) (no := ((2 + (s.no.toNat - 1) / 8 : Nat) : Int)) (a := (((s.no.toNat - 1) % 8 * 32 : Nat) : Int)) (b := putI s.i) (ids := s.needs)
     refine ⟨fun hh => absurd hh he, fun hh k _ => by rw [h2 hh], fun k hk _ hd2 => by omega, fun hid _ => ?_, h4, by rw [h5]⟩
     obtain ⟨k2, hk2, hk3, hc⟩ := h3 hid
     refine ⟨Decidable.not_not.1 hin, Decidable.not_not.1 hmi, by omega, ?_⟩
     rw [hc, zg6, if_pos rfl, Int.toNat_natCast]
 ·obtain ⟨g1, g2, g3⟩ := z8y hok hf
  exact ⟨fun _ => rfl, fun _ k hk => g3 k hk, fun k hk hne => absurd (g3 k hk) hne, fun hh => absurd rfl hh, by omega, g1⟩
theorem zmw {b : List UInt8} (hb : b.length = 256) {i : Ino} (hm : MayI i) {k : Nat} (hk : k < 8) : inoA (layB b (k * 32) (putI i)) k = i := by
 unfold inoA
 rw [zfq hb z5h hk hk, if_pos rfl, zkq hm]
theorem u76 : Try.prog.underlying 76 = some (.slice 83) := by kernel_rfl
theorem fd83 (s : Stp) : z0j Try.prog 83 (encStp s) = true := by kernel_rfl
theorem ix76 {S : Store} {l : List Stp} {i : Nat} (h : i < l.length) : zE Try.prog S 76 (.d (.sl (l.map encStp))) (.d (.int .i64 (i : Int))) = some (.d (.ptr (encStp l[i]))) := zj8 u76 (fun a => fd83 a) h
theorem ztp {S : Store} {xs : List D} : zI Try.prog S .len [76] [.d (.sl xs)] = some (.val (.d (.int .i64 xs.length)) S 0) := zkk u76
section
variable {S : Store} {s : Stp}
theorem zgf : zF Try.prog 83 0 (.d (.ptr (encStp s))) = some (.d (.ptr (.int .i64 s.do_))) := by kernel_rfl
theorem zm0 : zF Try.prog 83 1 (.d (.ptr (encStp s))) = some (.d (.ptr (.int .i64 s.no))) := by kernel_rfl
theorem zv4 : zF Try.prog 83 4 (.d (.ptr (encStp s))) = some (.d (.ptr (zS s.i))) := by kernel_rfl
theorem pl83 : kC Try.prog S 83 (.d (.ptr (encStp s))) = some (.d (encStp s)) := by kernel_rfl
theorem pl3 {n : Int} : kC Try.prog S 3 (.d (.ptr (.int .i64 n))) = some (.d (.int .i64 n)) := by kernel_rfl
theorem pl61 {i : Ino} : kC Try.prog S 61 (.d (.ptr (zS i))) = some (.d (zS i)) := by kernel_rfl
end
theorem ne42 {u v : V} {a b : List UInt8} (hu : IsB u a) (hv : IsB v b) (ha : a.length = 256) (hb : b.length = 256) : binV Try.prog .neq 42 u v = some (.d (.bool (decide (a ≠ b)))) := (neB 42 256 bt42 (by kernel_rfl) (by kernel_rfl) (by kernel_rfl) (by kernel_rfl) hu hv ha hb).1
theorem zvs {S : Store} {ws : List V} {id n k : Nat} (h : S[id]? = some (.row ws 42)) (hk : k < n) : zE Try.prog S 37 (.rs id 0 n) (.d (.int .i64 (k : Int))) = some (.ref id k 0) := by
 have e3 : rowT S id 42 = true := by simp only [rowT, h, beq_self_eq_true]
 have e4 : (sz Try.prog 42).isSome = true := s42z
 simp only [zE, intOf?, u37', e3, e4]
 rw [if_pos ⟨⟨by omega, by omega⟩, trivial, trivial⟩, Nat.zero_add, Int.toNat_natCast]
theorem zuz (x : Nat) (steps : List Stp) (ii : Nat) (hii : ii < steps.length) (id : Int) (n idn idw : Nat) (hn : n ≤ 512) (S : Store) (ws wn : List V) (C C' : CS) (hw : S[idw]? = some (.row ws 42)) (hv : S[idn]? = some (.row wn 42)) (iw : ImgV C n ws) (iv : ImgV C' n wn) (hC : C.Ok) (hC' : C'.Ok) (h1 : n = C.img.length) (h2 : n = C'.img.length) (H1 : id = 0 → ∀ k < n, C'.see k = C.see k) (H2 : ∀ k < n, C'.see k ≠ C.see k → steps[ii].do_ < 2 → (k : Int) = steps[ii].no) (R : Post) :
 ∀ (kk k : Nat) (g0 g2 g3 g4 g5 g9 gB gC gA gE gH gI gD gL gN gK gJ gO gP gW gT gU gQ gR gS gV gX gY gf gg gZ gh gj gk gn gr gz hZ xC hH hJ hU hY xA xB xD xE xF xG xH xI xJ xK xL xM xN xO xP xQ xR xS xT xU xV xW xX xY xZ g75 g76 g77 g78 g79 g80 g81 g82 g83 g84 g85 g86 g87 g88 g89 g90 g91 g92 g93 g94 g95 g96 g97 g98 g99 g100 g101 g102 g103 g104 g105 g106 g107 g108 g109 g110 g111 g112 g113 g114 g115 g116 g117 g118 g119 g120 g121 g122 g123 g124 g125 g126 g127 g128 g129 g130 g131 g132 g133 g134 g135 : V), n - k = kk → k ≤ n →
 (∀ k' g0 g2 g3 g4 g5 g9 gB gC gA gE gH gI gD gL gN gK gJ gO gP gW gT gU gQ gR gS gV gX gY gf gg gZ gh gj gk gn gr gz hZ xC hH hJ hU hY xA xB xD xE xF xG xH xI xJ xK xL xM xN xO xP xQ xR xS xT xU xV xW xX xY xZ g75 g76 g77 g78 g79 g80 g81 g82 g83 g84 g85 g86 g87 g88 g89 g90 g91 g92 g93 g94 g95 g96 g97 g98 g99 g100 g101 g102 g103 g104 g105 g106 g107 g108 g109 g110 g111 g112 g113 g114 g115 g116 g117 g118 g119 g120 g121 g122 g123 g124 g125 g126 g127 g128 g129 g130 g131 g132 g133 g134 g135, R (.exit 2) (g0 :: (.d (.sl (steps.map encStp))) :: g2 :: g3 :: g4 :: g5 :: (.ref x 0 0) :: (.rs idw 0 n) :: (.d (.int .i64 (ii : Int))) :: g9 :: (.d (.int .i64 id)) :: (.rs idn 0 n) :: k' :: gB :: gC :: gA :: gE :: gH :: gI :: gD :: gL :: gN :: gK :: gJ :: gO :: gP :: gW :: gT :: gU :: gQ :: gR :: gS :: gV :: gX :: gY :: gf :: gg :: gZ :: gh :: gj :: gk :: gn :: gr :: gz :: hZ :: xC :: hH :: hJ :: hU :: hY :: xA :: xB :: xD :: xE :: xF :: xG :: xH :: xI :: xJ :: xK :: xL :: xM :: xN :: xO :: xP :: xQ :: xR :: xS :: xT :: xU :: xV :: xW :: xX :: xY :: xZ :: g75 :: g76 :: g77 :: g78 :: g79 :: g80 :: g81 :: g82 :: g83 :: g84 :: g85 :: g86 :: g87 :: g88 :: g89 :: g90 :: g91 :: g92 :: g93 :: g94 :: g95 :: g96 :: g97 :: g98 :: g99 :: g100 :: g101 :: g102 :: g103 :: g104 :: g105 :: g106 :: g107 :: g108 :: g109 :: g110 :: g111 :: g112 :: g113 :: g114 :: g115 :: g116 :: g117 :: g118 :: g119 :: g120 :: g121 :: g122 :: g123 :: g124 :: g125 :: g126 :: g127 :: g128 :: g129 :: g130 :: g131 :: g132 :: g133 :: g134 :: g135 :: []) S []) →
 Wp cfg (.loop (lpOf (Try.f6.body.getD .skip) 2)) (g0 :: (.d (.sl (steps.map encStp))) :: g2 :: g3 :: g4 :: g5 :: (.ref x 0 0) :: (.rs idw 0 n) :: (.d (.int .i64 (ii : Int))) :: g9 :: (.d (.int .i64 id)) :: (.rs idn 0 n) :: (.d (.int .i64 (k : Int))) :: gB :: gC :: gA :: gE :: gH :: gI :: gD :: gL :: gN :: gK :: gJ :: gO :: gP :: gW :: gT :: gU :: gQ :: gR :: gS :: gV :: gX :: gY :: gf :: gg :: gZ :: gh :: gj :: gk :: gn :: gr :: gz :: hZ :: xC :: hH :: hJ :: hU :: hY :: xA :: xB :: xD :: xE :: xF :: xG :: xH :: xI :: xJ :: xK :: xL :: xM :: xN :: xO :: xP :: xQ :: xR :: xS :: xT :: xU :: xV :: xW :: xX :: xY :: xZ :: g75 :: g76 :: g77 :: g78 :: g79 :: g80 :: g81 :: g82 :: g83 :: g84 :: g85 :: g86 :: g87 :: g88 :: g89 :: g90 :: g91 :: g92 :: g93 :: g94 :: g95 :: g96 :: g97 :: g98 :: g99 :: g100 :: g101 :: g102 :: g103 :: g104 :: g105 :: g106 :: g107 :: g108 :: g109 :: g110 :: g111 :: g112 :: g113 :: g114 :: g115 :: g116 :: g117 :: g118 :: g119 :: g120 :: g121 :: g122 :: g123 :: g124 :: g125 :: g126 :: g127 :: g128 :: g129 :: g130 :: g131 :: g132 :: g133 :: g134 :: g135 :: []) S [] R := by
 intro kk
 have hln : zI Try.prog S .len [37] [.rs idn 0 n] = some (.val (.d (.int .i64 (n : Int))) S 0) := z9t u37'
 induction kk with
 | zero =>
  intro k g0 g2 g3 g4 g5 g9 gB gC gA gE gH gI gD gL gN gK gJ gO gP gW gT gU gQ gR gS gV gX gY gf gg gZ gh gj gk gn gr gz hZ xC hH hJ hU hY xA xB xD xE xF xG xH xI xJ xK xL xM xN xO xP xQ xR xS xT xU xV xW xX xY xZ g75 g76 g77 g78 g79 g80 g81 g82 g83 g84 g85 g86 g87 g88 g89 g90 g91 g92 g93 g94 g95 g96 g97 g98 g99 g100 g101 g102 g103 g104 g105 g106 g107 g108 g109 g110 g111 g112 g113 g114 g115 g116 g117 g118 g119 g120 g121 g122 g123 g124 g125 g126 g127 g128 g129 g130 g131 g132 g133 g134 g135 hk hi hR
  have hie : k = n := by omega
  subst hie
  rw [zR]
  refine zJ ?_
  conv => arg 2; whnf
  simp (maxSteps:=1000000) (disch:=first|assumption|omega|rfl) only [↓gp, gc, Nat.reduceAdd, hln]
  exact hR _ _ _ _ _ _ _ _ _ _ _ _ _ _ _ _ _ _ _ _ _ _ _ _ _ _ _ _ _ _ _ _ _ _ _ _ _ _ _ _ _ _ _ _ _ _ _ _ _ _ _ _ _ _ _ _ _ _ _ _ _ _ _ _ _ _ _ _ _ _ _ _ _ _ _ _ _ _ _ _ _ _ _ _ _ _ _ _ _ _ _ _ _ _ _ _ _ _ _ _ _ _ _ _ _ _ _ _ _ _ _ _ _ _ _ _ _ _ _ _ _ _ _ _ _ _ _ _ _ _
 | succ kk ih =>
  intro k g0 g2 g3 g4 g5 g9 gB gC gA gE gH gI gD gL gN gK gJ gO gP gW gT gU gQ gR gS gV gX gY gf gg gZ gh gj gk gn gr gz hZ xC hH hJ hU hY xA xB xD xE xF xG xH xI xJ xK xL xM xN xO xP xQ xR xS xT xU xV xW xX xY xZ g75 g76 g77 g78 g79 g80 g81 g82 g83 g84 g85 g86 g87 g88 g89 g90 g91 g92 g93 g94 g95 g96 g97 g98 g99 g100 g101 g102 g103 g104 g105 g106 g107 g108 g109 g110 g111 g112 g113 g114 g115 g116 g117 g118 g119 g120 g121 g122 g123 g124 g125 g126 g127 g128 g129 g130 g131 g132 g133 g134 g135 hk hi hR
  have hlt : k < n := by omega
  have h3 : IntKind.i64.wrap ((k : Int) + 1) = ((k + 1 : Nat) : Int) := by rw [wrap64 (by omega)]; omega
  have hix1 := zvs hv hlt
  have hix2 := zvs hw hlt
  have hwl : k < ws.length := by rw [iw.1]; omega
  have hvl : k < wn.length := by rw [iv.1]; omega
  have hre1 : rowE S idn k = some wn[k] := by unfold rowE; rw [hv]; exact List.getElem?_eq_getElem hvl
  have hre2 : rowE S idw k = some ws[k] := by unfold rowE; rw [hw]; exact List.getElem?_eq_getElem hwl
  have b1 := iv.2 k _ (List.getElem?_eq_getElem hvl)
  have b2 := iw.2 k _ (List.getElem?_eq_getElem hwl)
  rw [if_pos hlt] at b1 b2
  have l1 := hC'.see_len (no := k) (by omega)
  have l2 := hC.see_len (no := k) (by omega)
  have hld1 := bt42.load b1 l1
  have hld2 := bt42.load b2 l2
  have hne := ne42 b1 b2 l1 l2
  have o1 := b1.one
  have o2 := b2.one
  have hsx := ix76 (S := S) hii
  rw [zR]
  refine zJ ?_
  conv => arg 2; whnf
  simp (maxSteps:=1000000) (disch:=first|assumption|omega|rfl) only [↓gp, gc, Nat.reduceAdd, hln]
  refine kH (is := [0, 1, 2, 3, 4, 5, 6, 7, 8, 9, 10, 11, 12, 13, 14, 15, 16, 17, 18, 19, 20, 21, 22, 23, 24, 25, 26, 27, 28, 29, 30, 31, 32, 33, 34, 35, 36, 37, 38, 39, 40]) (h := 0) (by kernel_rfl) (by kernel_rfl) ?_
  by_cases hse : C'.see k = C.see k
  ·have e1 : decide (C'.see k ≠ C.see k) = false := decide_eq_false (fun h => h hse)
   rw [e1] at hne
   by_cases hid : id = 0
   ·have e2 : ∀ i' : Decidable (id = 0), @decide (id = 0) i' = true := fun i' => decide_eq_true hid
    simp (maxSteps:=1000000) (disch:=first|assumption|omega|rfl) only [List.replicate_zero, eq_self, gd, ga, Nat.reduceAdd, ↓gq, vso, List.append_nil, hix1, hix2, hre1, hre2, hld1, hld2, hne, e2, o1, o2]
    refine ⟨by kernel_rfl, ?_⟩
    simp (maxSteps:=1000000) (disch:=first|assumption|omega|rfl) only [↓gp, gc, Nat.reduceAdd, h3]
    exact ih (k + 1) _ _ _ _ _ _ _ _ _ _ _ _ _ _ _ _ _ _ _ _ _ _ _ _ _ _ _ _ _ _ _ _ _ _ _ _ _ _ _ _ _ _ _ _ _ _ _ _ _ _ _ _ _ _ _ _ _ _ _ _ _ _ _ _ _ _ _ _ _ _ _ _ _ _ _ _ _ _ _ _ _ _ _ _ _ _ _ _ _ _ _ _ _ _ _ _ _ _ _ _ _ _ _ _ _ _ _ _ _ _ _ _ _ _ _ _ _ _ _ _ _ _ _ _ _ _ _ _ _ (by omega) (by omega) hR
   ·have e2 : ∀ i' : Decidable (id = 0), @decide (id = 0) i' = false := fun i' => decide_eq_false hid
    simp (maxSteps:=1000000) (disch:=first|assumption|omega|rfl) only [List.replicate_zero, eq_self, gd, ga, Nat.reduceAdd, ↓gq, vso, List.append_nil, hix1, hix2, hre1, hre2, hld1, hld2, hne, e2, o1, o2]
    refine ⟨by kernel_rfl, ?_⟩
    simp (maxSteps:=1000000) (disch:=first|assumption|omega|rfl) only [↓gp, gc, Nat.reduceAdd, h3]
    exact ih (k + 1) _ _ _ _ _ _ _ _ _ _ _ _ _ _ _ _ _ _ _ _ _ _ _ _ _ _ _ _ _ _ _ _ _ _ _ _ _ _ _ _ _ _ _ _ _ _ _ _ _ _ _ _ _ _ _ _ _ _ _ _ _ _ _ _ _ _ _ _ _ _ _ _ _ _ _ _ _ _ _ _ _ _ _ _ _ _ _ _ _ _ _ _ _ _ _ _ _ _ _ _ _ _ _ _ _ _ _ _ _ _ _ _ _ _ _ _ _ _ _ _ _ _ _ _ _ _ _ _ _ (by omega) (by omega) hR
  ·have e1 : decide (C'.see k ≠ C.see k) = true := decide_eq_true hse
   rw [e1] at hne
   have hid : id ≠ 0 := fun h => hse (H1 h k hlt)
   have e2 : ∀ i' : Decidable (id = 0), @decide (id = 0) i' = false := fun i' => decide_eq_false hid
   by_cases hd : steps[ii].do_ < 2
   ·have e3 : ∀ i' : Decidable (steps[ii].do_ < 2), @decide (steps[ii].do_ < 2) i' = true := fun i' => decide_eq_true hd
    have hno := H2 k hlt hse hd
    have e4 : ∀ i' : Decidable ((k : Int) ≠ steps[ii].no), @decide ((k : Int) ≠ steps[ii].no) i' = false := fun i' => decide_eq_false (fun h => h hno)
    simp (maxSteps:=1000000) (disch:=first|assumption|omega|rfl) only [List.replicate_zero, eq_self, gd, ga, Nat.reduceAdd, ↓gq, vso, List.append_nil, hix1, hix2, hre1, hre2, hld1, hld2, hne, e2, o1, o2, hsx, zgf, zm0, pl3, e3, e4]
    refine ⟨by kernel_rfl, ?_⟩
    simp (maxSteps:=1000000) (disch:=first|assumption|omega|rfl) only [↓gp, gc, Nat.reduceAdd, h3]
    exact ih (k + 1) _ _ _ _ _ _ _ _ _ _ _ _ _ _ _ _ _ _ _ _ _ _ _ _ _ _ _ _ _ _ _ _ _ _ _ _ _ _ _ _ _ _ _ _ _ _ _ _ _ _ _ _ _ _ _ _ _ _ _ _ _ _ _ _ _ _ _ _ _ _ _ _ _ _ _ _ _ _ _ _ _ _ _ _ _ _ _ _ _ _ _ _ _ _ _ _ _ _ _ _ _ _ _ _ _ _ _ _ _ _ _ _ _ _ _ _ _ _ _ _ _ _ _ _ _ _ _ _ _ (by omega) (by omega) hR
   ·have e3 : ∀ i' : Decidable (steps[ii].do_ < 2), @decide (steps[ii].do_ < 2) i' = false := fun i' => decide_eq_false hd
    simp (maxSteps:=1000000) (disch:=first|assumption|omega|rfl) only [List.replicate_zero, eq_self, gd, ga, Nat.reduceAdd, ↓gq, vso, List.append_nil, hix1, hix2, hre1, hre2, hld1, hld2, hne, e2, o1, o2, hsx, zgf, zm0, pl3, e3]
    refine ⟨by kernel_rfl, ?_⟩
    simp (maxSteps:=1000000) (disch:=first|assumption|omega|rfl) only [↓gp, gc, Nat.reduceAdd, h3]
    exact ih (k + 1) _ _ _ _ _ _ _ _ _ _ _ _ _ _ _ _ _ _ _ _ _ _ _ _ _ _ _ _ _ _ _ _ _ _ _ _ _ _ _ _ _ _ _ _ _ _ _ _ _ _ _ _ _ _ _ _ _ _ _ _ _ _ _ _ _ _ _ _ _ _ _ _ _ _ _ _ _ _ _ _ _ _ _ _ _ _ _ _ _ _ _ _ _ _ _ _ _ _ _ _ _ _ _ _ _ _ _ _ _ _ _ _ _ _ _ _ _ _ _ _ _ _ _ _ _ _ _ _ _ (by omega) (by omega) hR
theorem zsp {T : List V} {S : Store} {dst : Option Tmp} {t x j : Nat} {ty : TypeId} {pos : String} {after : Array Edge} {g : Option (Nat × Bool)} {v : V} (h : zE Try.prog S t (T.getD x .junk) (T.getD j .junk) = some v) : opV Try.prog S T ⟨dst, .indexAddr t (.tmp x) (.tmp j), ty, pos, after, g⟩ = some (.val v S 1) := by
 show (zE Try.prog S t (T.getD x .junk) (T.getD j .junk)).map (fun v => Rs.val v S 1) = _
 rw [h]
 rfl
theorem zc9 {n : Nat} : ∀ l : List Int, all2 (wS (n + 1)) (l.map (.int .i64)) (l.map (.int .i64)) = true
 | [] => rfl
 | x :: r => by
  have h : wS (n + 1) (.int .i64 x) (.int .i64 x) = true := kX
  simp only [List.map_cons, all2, h, zc9 r, Bool.and_self]
theorem zbf {s : Stp} : z0t (.d (.ptr (encStp s))) (.d (.ptr (encStp s))) = true := by
 show wS 5 (encStp s) (encStp s) = true
 have h1 : ∀ x : Int, wS 4 (.int .i64 x) (.int .i64 x) = true := fun x => kX
 have h2 : wS 4 (byD s.byte) (byD s.byte) = true := kX
 have h3 : wS 4 (encB s.data) (encB s.data) = true := z2a (n := 2) s.data
 have h4 : wS 4 (encI s.needs) (encI s.needs) = true := zc9 (n := 2) s.needs
 show all2 (wS 4) _ _ = true
 simp only [encStp, all2, h1, h2, h3, h4, Bool.and_self]
theorem zfe {i : Ino} : z0t (.d (zS i)) (.d (zS i)) = true := by
 show all2 (wS 5) _ _ = true
 have h1 : ∀ x : Int, wS 5 (.int .i64 x) (.int .i64 x) = true := fun x => kX
 simp only [zS, all2, h1, Bool.and_self]
theorem zvj (x c r m mk : Nat) (l : Lay) (hb : InB l.blocks) (hi : InB l.inodes) (hm : MayL l) (steps : List Stp) (hst : steps.length ≤ 16) (hsl : ∀ s ∈ steps, InB s.at_ ∧ s.data.length ≤ 300 ∧ s.needs.length ≤ 20) (n : Nat) (hn : l.blocks = n) (R : Post) :
 ∀ (k i : Nat) (S : Store) (e : Int) (C : CS) (mf : Int → Option V) (b idw : Nat) (ws : List V) (g0 g2 g3 g4 g5 g9 gM gF gG gB gC gA gE gH gI gD gL gN gK gJ gO gP gW gT gU gQ gR gS gV gX gY gf gg gZ gh gj gk gn gr gz hZ xC hH hJ hU hY xA xB xD xE xF xG xH xI xJ xK xL xM xN xO xP xQ xR xS xT xU xV xW xX xY xZ g75 g76 g77 g78 g79 g80 g81 g82 g83 g84 g85 g86 g87 g88 g89 g90 g91 g92 g93 g94 g95 g96 g97 g98 g99 g100 g101 g102 g103 g104 g105 g106 g107 g108 g109 g110 g111 g112 g113 g114 g115 g116 g117 g118 g119 g120 g121 g122 g123 g124 g125 g126 g127 g128 g129 g130 g131 g132 g133 g134 g135 : V), steps.length - i = k → i ≤ steps.length → StoreP S x c r m mk l e C mf → MkV S mf b → b ≤ 20 * i → C.last ≤ i → S[idw]? = some (.row ws 42) → idw ≠ r → ImgV C n ws →
 (∀ S idw i' g0 g2 g3 g4 g5 g9 gM gF gG gB gC gA gE gH gI gD gL gN gK gJ gO gP gW gT gU gQ gR gS gV gX gY gf gg gZ gh gj gk gn gr gz hZ xC hH hJ hU hY xA xB xD xE xF xG xH xI xJ xK xL xM xN xO xP xQ xR xS xT xU xV xW xX xY xZ g75 g76 g77 g78 g79 g80 g81 g82 g83 g84 g85 g86 g87 g88 g89 g90 g91 g92 g93 g94 g95 g96 g97 g98 g99 g100 g101 g102 g103 g104 g105 g106 g107 g108 g109 g110 g111 g112 g113 g114 g115 g116 g117 g118 g119 g120 g121 g122 g123 g124 g125 g126 g127 g128 g129 g130 g131 g132 g133 g134 g135, R (.exit 0) (g0 :: (.d (.sl (steps.map encStp))) :: g2 :: g3 :: g4 :: g5 :: (.ref x 0 0) :: (.rs idw 0 n) :: i' :: g9 :: gM :: gF :: gG :: gB :: gC :: gA :: gE :: gH :: gI :: gD :: gL :: gN :: gK :: gJ :: gO :: gP :: gW :: gT :: gU :: gQ :: gR :: gS :: gV :: gX :: gY :: gf :: gg :: gZ :: gh :: gj :: gk :: gn :: gr :: gz :: hZ :: xC :: hH :: hJ :: hU :: hY :: xA :: xB :: xD :: xE :: xF :: xG :: xH :: xI :: xJ :: xK :: xL :: xM :: xN :: xO :: xP :: xQ :: xR :: xS :: xT :: xU :: xV :: xW :: xX :: xY :: xZ :: g75 :: g76 :: g77 :: g78 :: g79 :: g80 :: g81 :: g82 :: g83 :: g84 :: g85 :: g86 :: g87 :: g88 :: g89 :: g90 :: g91 :: g92 :: g93 :: g94 :: g95 :: g96 :: g97 :: g98 :: g99 :: g100 :: g101 :: g102 :: g103 :: g104 :: g105 :: g106 :: g107 :: g108 :: g109 :: g110 :: g111 :: g112 :: g113 :: g114 :: g115 :: g116 :: g117 :: g118 :: g119 :: g120 :: g121 :: g122 :: g123 :: g124 :: g125 :: g126 :: g127 :: g128 :: g129 :: g130 :: g131 :: g132 :: g133 :: g134 :: g135 :: []) S []) →
 Wp cfg (.loop (lpOf (Try.f6.body.getD .skip) 0)) (g0 :: (.d (.sl (steps.map encStp))) :: g2 :: g3 :: g4 :: g5 :: (.ref x 0 0) :: (.rs idw 0 n) :: (.d (.int .i64 (i : Int))) :: g9 :: gM :: gF :: gG :: gB :: gC :: gA :: gE :: gH :: gI :: gD :: gL :: gN :: gK :: gJ :: gO :: gP :: gW :: gT :: gU :: gQ :: gR :: gS :: gV :: gX :: gY :: gf :: gg :: gZ :: gh :: gj :: gk :: gn :: gr :: gz :: hZ :: xC :: hH :: hJ :: hU :: hY :: xA :: xB :: xD :: xE :: xF :: xG :: xH :: xI :: xJ :: xK :: xL :: xM :: xN :: xO :: xP :: xQ :: xR :: xS :: xT :: xU :: xV :: xW :: xX :: xY :: xZ :: g75 :: g76 :: g77 :: g78 :: g79 :: g80 :: g81 :: g82 :: g83 :: g84 :: g85 :: g86 :: g87 :: g88 :: g89 :: g90 :: g91 :: g92 :: g93 :: g94 :: g95 :: g96 :: g97 :: g98 :: g99 :: g100 :: g101 :: g102 :: g103 :: g104 :: g105 :: g106 :: g107 :: g108 :: g109 :: g110 :: g111 :: g112 :: g113 :: g114 :: g115 :: g116 :: g117 :: g118 :: g119 :: g120 :: g121 :: g122 :: g123 :: g124 :: g125 :: g126 :: g127 :: g128 :: g129 :: g130 :: g131 :: g132 :: g133 :: g134 :: g135 :: []) S [] R := by
 intro k
 have hln : ∀ S, zI Try.prog S .len [76] [.d (.sl (steps.map encStp))] = some (.val (.d (.int .i64 (steps.length : Int))) S 0) := fun S => by rw [ztp, List.length_map]
 have hl37 : ∀ S id, zI Try.prog S .len [37] [.rs id 0 n] = some (.val (.d (.int .i64 (n : Int))) S 0) := fun S id => z9t u37'
 induction k with
 | zero =>
  intro i S e C mf b idw ws g0 g2 g3 g4 g5 g9 gM gF gG gB gC gA gE gH gI gD gL gN gK gJ gO gP gW gT gU gQ gR gS gV gX gY gf gg gZ gh gj gk gn gr gz hZ xC hH hJ hU hY xA xB xD xE xF xG xH xI xJ xK xL xM xN xO xP xQ xR xS xT xU xV xW xX xY xZ g75 g76 g77 g78 g79 g80 g81 g82 g83 g84 g85 g86 g87 g88 g89 g90 g91 g92 g93 g94 g95 g96 g97 g98 g99 g100 g101 g102 g103 g104 g105 g106 g107 g108 g109 g110 g111 g112 g113 g114 g115 g116 g117 g118 g119 g120 g121 g122 g123 g124 g125 g126 g127 g128 g129 g130 g131 g132 g133 g134 g135 hk hi2 h0 hmk hbb hla hw hwr hI hR
  have hie : i = steps.length := by omega
  subst hie
  rw [zR]
  refine zJ ?_
  conv => arg 2; whnf
  simp (maxSteps:=1000000) (disch:=first|assumption|omega|rfl) only [↓gp, gc, Nat.reduceAdd, hln]
  exact hR _ _ _ _ _ _ _ _ _ _ _ _ _ _ _ _ _ _ _ _ _ _ _ _ _ _ _ _ _ _ _ _ _ _ _ _ _ _ _ _ _ _ _ _ _ _ _ _ _ _ _ _ _ _ _ _ _ _ _ _ _ _ _ _ _ _ _ _ _ _ _ _ _ _ _ _ _ _ _ _ _ _ _ _ _ _ _ _ _ _ _ _ _ _ _ _ _ _ _ _ _ _ _ _ _ _ _ _ _ _ _ _ _ _ _ _ _ _ _ _ _ _ _ _ _ _ _ _ _ _ _ _ _ _ _
 | succ k ih =>
  intro i S e C mf b idw ws g0 g2 g3 g4 g5 g9 gM gF gG gB gC gA gE gH gI gD gL gN gK gJ gO gP gW gT gU gQ gR gS gV gX gY gf gg gZ gh gj gk gn gr gz hZ xC hH hJ hU hY xA xB xD xE xF xG xH xI xJ xK xL xM xN xO xP xQ xR xS xT xU xV xW xX xY xZ g75 g76 g77 g78 g79 g80 g81 g82 g83 g84 g85 g86 g87 g88 g89 g90 g91 g92 g93 g94 g95 g96 g97 g98 g99 g100 g101 g102 g103 g104 g105 g106 g107 g108 g109 g110 g111 g112 g113 g114 g115 g116 g117 g118 g119 g120 g121 g122 g123 g124 g125 g126 g127 g128 g129 g130 g131 g132 g133 g134 g135 hk hi2 h0 hmk hbb hla hw hwr hI hR
  have hlt : i < steps.length := by omega
  have hiw : IntKind.i64.wrap ((i : Int) + 1) = ((i + 1 : Nat) : Int) := by rw [wrap64 (by omega)]; omega
  obtain ⟨s1, s2, s3⟩ := hsl steps[i] (List.getElem_mem hlt)
  have hix := fun S => ix76 (S := S) hlt
  have he := fun {ops dst k T F Q} => zQ (ops := ops) (dst := dst) (l := k) (T := T) (F := F) (Q := Q) rfl (zcb S x c mk _ _ _ e h0.hx)
  have hok := h0.ca.ok
  have hrl : r < S.length := by obtain ⟨d, L, es, vs, f, z, w, q, h, _⟩ := h0.ca; exact zN h.dk.hr
  obtain ⟨o, S2, ⟨hF2, e', C', mf', id, rfl, h2, hmk2, hst2⟩, hE2⟩ := qR (q1r S x c r m mk l e C mf h0 hb hi hm b hmk (by omega) steps[i] s1 s2 s3 (by omega))
  have hE2 := fun {ops dst k T F Q} => zQ (ops := ops) (dst := dst) (l := k) (T := T) (F := F) (Q := Q) rfl hE2
  obtain ⟨q1, q2, q3, q4, q5, q6⟩ := zn9 hok hst2
  have hnC : n = C.img.length := by have := h0.hB; omega
  have hnC' : n = C'.img.length := by omega
  have hok' := h2.ca.ok
  obtain ⟨o, S3, ⟨hK3, v3, rfl, hV3⟩, hE3⟩ := qR (ze0 S2 x c mk _ _ _ e' h2.hx)
  have hE3 := fun {ops dst k T F Q} => zQ (ops := ops) (dst := dst) (l := k) (T := T) (F := F) (Q := Q) rfl hE3
  have h3 := h2.keep hK3
  obtain ⟨o, S4, ⟨hF4, hC4, idn, wn, rfl, hidn, hrow4, hI4⟩, hE4⟩ := qR (zdb S3 v3 _ c r m l C' (CacheIn.of h3.ca) hV3 h3.hB hb hi hm)
  have hE4 := fun {ops dst k T F Q} => zQ (ops := ops) (dst := dst) (l := k) (T := T) (F := F) (Q := Q) rfl hE4
  rw [← hnC'] at hI4 hE4
  have h4 := h3.step hF4 hC4.at rfl
  have hmk4 : MkV S4 mf' (b + 20) := hmk2.own fun v xs h => hF4.own (hK3.own h) rfl
  have hw4 : S4[idw]? = some (.row ws 42) := hF4.row (hK3 _ _ (hF2.row hw (by simp [hwr]))) (zco hwr)
  have hnr : idn ≠ r := by have := hF2.1; have := hK3.len; omega
  have hv1 : v3.one = true := by obtain ⟨g, rfl, _⟩ := hV3; rfl
  rw [zR]
  refine zJ ?_
  conv => arg 2; whnf
  have fin : ∀ {S' : Store} {g0 g2 g3 g4 g5 g9 gM gF gG gB gC gA gE gH gI gD gL gN gK gJ gO gP gW gT gU gQ gR gS gV gX gY gf gg gZ gh gj gk gn gr gz hZ xC hH hJ hU hY xA xB xD xE xF xG xH xI xJ xK xL xM xN xO xP xQ xR xS xT xU xV xW xX xY xZ g75 g76 g77 g78 g79 g80 g81 g82 g83 g84 g85 g86 g87 g88 g89 g90 g91 g92 g93 g94 g95 g96 g97 g98 g99 g100 g101 g102 g103 g104 g105 g106 g107 g108 g109 g110 g111 g112 g113 g114 g115 g116 g117 g118 g119 g120 g121 g122 g123 g124 g125 g126 g127 g128 g129 g130 g131 g132 g133 g134 g135 : V}, StoreP S' x c r m mk l e' C' mf' → MkV S' mf' (b + 20) → S'[idn]? = some (.row wn 42) → Wp cfg (.loop (lpOf (Try.f6.body.getD .skip) 0)) (g0 :: (.d (.sl (steps.map encStp))) :: g2 :: g3 :: g4 :: g5 :: (.ref x 0 0) :: (.rs idn 0 n) :: (.d (.int .i64 ((i + 1 : Nat) : Int))) :: g9 :: gM :: gF :: gG :: gB :: gC :: gA :: gE :: gH :: gI :: gD :: gL :: gN :: gK :: gJ :: gO :: gP :: gW :: gT :: gU :: gQ :: gR :: gS :: gV :: gX :: gY :: gf :: gg :: gZ :: gh :: gj :: gk :: gn :: gr :: gz :: hZ :: xC :: hH :: hJ :: hU :: hY :: xA :: xB :: xD :: xE :: xF :: xG :: xH :: xI :: xJ :: xK :: xL :: xM :: xN :: xO :: xP :: xQ :: xR :: xS :: xT :: xU :: xV :: xW :: xX :: xY :: xZ :: g75 :: g76 :: g77 :: g78 :: g79 :: g80 :: g81 :: g82 :: g83 :: g84 :: g85 :: g86 :: g87 :: g88 :: g89 :: g90 :: g91 :: g92 :: g93 :: g94 :: g95 :: g96 :: g97 :: g98 :: g99 :: g100 :: g101 :: g102 :: g103 :: g104 :: g105 :: g106 :: g107 :: g108 :: g109 :: g110 :: g111 :: g112 :: g113 :: g114 :: g115 :: g116 :: g117 :: g118 :: g119 :: g120 :: g121 :: g122 :: g123 :: g124 :: g125 :: g126 :: g127 :: g128 :: g129 :: g130 :: g131 :: g132 :: g133 :: g134 :: g135 :: []) S' [] R :=
   fun {S'} {_ _ _ _ _ _ _ _ _ _ _ _ _ _ _ _ _ _ _ _ _ _ _ _ _ _ _ _ _ _ _ _ _ _ _ _ _ _ _ _ _ _ _ _ _ _ _ _ _ _ _ _ _ _ _ _ _ _ _ _ _ _ _ _ _ _ _ _ _ _ _ _ _ _ _ _ _ _ _ _ _ _ _ _ _ _ _ _ _ _ _ _ _ _ _ _ _ _ _ _ _ _ _ _ _ _ _ _ _ _ _ _ _ _ _ _ _ _ _ _ _ _ _ _ _ _ _ _ _ _ _ _} a1 a2 a3 => ih (i + 1) S' e' C' mf' (b + 20) idn wn _ _ _ _ _ _ _ _ _ _ _ _ _ _ _ _ _ _ _ _ _ _ _ _ _ _ _ _ _ _ _ _ _ _ _ _ _ _ _ _ _ _ _ _ _ _ _ _ _ _ _ _ _ _ _ _ _ _ _ _ _ _ _ _ _ _ _ _ _ _ _ _ _ _ _ _ _ _ _ _ _ _ _ _ _ _ _ _ _ _ _ _ _ _ _ _ _ _ _ _ _ _ _ _ _ _ _ _ _ _ _ _ _ _ _ _ _ _ _ _ _ _ _ _ _ _ _ _ _ _ _ _ (by omega) (by omega) a1 a2 (by omega) (by omega) a3 hnr hI4 hR
  have hnn : ∀ i' : Decidable ((n : Int) ≠ (n : Int)), @decide ((n : Int) ≠ (n : Int)) i' = false := fun i' => decide_eq_false (fun h => h rfl)
  by_cases he0 : e = 0
  ·have hde : ∀ i' : Decidable (e ≠ 0), @decide (e ≠ 0) i' = false := fun i' => decide_eq_false (fun h => h he0)
   simp (maxSteps:=1000000) (disch:=first|assumption|omega|rfl) only [↓gp, gc, Nat.reduceAdd, hln, he, bo18, hde, hix, pl83, hE2, bo41, hE3, bo21, hv1, hE4, bo22, hl37, hnn]
   refine zuz x steps i hlt id n idn idw (by have := hok.n; omega) S4 ws wn C C' hw4 hrow4 hI hI4 hok hok' hnC hnC' (fun h k hk => q2 h k (by omega)) (fun k hk => q3 k (by omega)) _ n 0 _ _ _ _ _ _ _ _ _ _ _ _ _ _ _ _ _ _ _ _ _ _ _ _ _ _ _ _ _ _ _ _ _ _ _ _ _ _ _ _ _ _ _ _ _ _ _ _ _ _ _ _ _ _ _ _ _ _ _ _ _ _ _ _ _ _ _ _ _ _ _ _ _ _ _ _ _ _ _ _ _ _ _ _ _ _ _ _ _ _ _ _ _ _ _ _ _ _ _ _ _ _ _ _ _ _ _ _ _ _ _ _ _ _ _ _ _ _ _ _ _ _ _ _ _ _ _ _ _ rfl (Nat.zero_le _) ?_
   intro k' g0 g2 g3 g4 g5 g9 gB gC gA gE gH gI gD gL gN gK gJ gO gP gW gT gU gQ gR gS gV gX gY gf gg gZ gh gj gk gn gr gz hZ xC hH hJ hU hY xA xB xD xE xF xG xH xI xJ xK xL xM xN xO xP xQ xR xS xT xU xV xW xX xY xZ g75 g76 g77 g78 g79 g80 g81 g82 g83 g84 g85 g86 g87 g88 g89 g90 g91 g92 g93 g94 g95 g96 g97 g98 g99 g100 g101 g102 g103 g104 g105 g106 g107 g108 g109 g110 g111 g112 g113 g114 g115 g116 g117 g118 g119 g120 g121 g122 g123 g124 g125 g126 g127 g128 g129 g130 g131 g132 g133 g134 g135
   simp (maxSteps:=1000000) (disch:=first|assumption|omega|rfl) only [↓gp, gc, Nat.reduceAdd]
   by_cases hid : id = 0
   ·have hde2 : ∀ i' : Decidable (id ≠ 0), @decide (id ≠ 0) i' = false := fun i' => decide_eq_false (fun h => h hid)
    refine kH (is := [0, 1, 2, 3, 4, 5, 6, 7, 8, 9, 10, 11, 13, 14, 15, 16, 17, 19, 20, 21, 22, 23, 12, 18, 24, 25]) (h := 0) (by kernel_rfl) (by kernel_rfl) ?_
    simp (maxSteps:=1000000) (disch:=first|assumption|omega|rfl) only [List.replicate_zero, eq_self, gd, ga, Nat.reduceAdd, ↓gq, vso, List.append_nil, hde2]
    refine ⟨by kernel_rfl, ?_⟩
    simp (maxSteps:=1000000) (disch:=first|assumption|omega|rfl) only [↓gp, gc, Nat.reduceAdd, hiw]
    exact fin h4 hmk4 hrow4
   have hde2 : ∀ i' : Decidable (id ≠ 0), @decide (id ≠ 0) i' = true := fun i' => decide_eq_true hid
   have hxx := hix S4
   by_cases hd : steps[i].do_ = 2
   ·have hde3 : ∀ i' : Decidable (steps[i].do_ = 2), @decide (steps[i].do_ = 2) i' = true := fun i' => decide_eq_true hd
    obtain ⟨p1, p2, p3, p4⟩ := q4 hid hd
    obtain ⟨p5, p6⟩ := p1
    have hno : ((steps[i].no.toNat : Nat) : Int) = steps[i].no := by omega
    have hk8 : (steps[i].no.toNat - 1) % 8 < 8 := Nat.mod_lt _ (by decide)
    obtain ⟨o, S5, ⟨hK5, v5, rfl, hV5⟩, hE5⟩ := qR (ze0 S4 x c mk _ _ _ e' h4.hx)
    have hE5 := fun {ops base K ws cs i dst T} => kV (ops := ops) (base := base) (K := K) (ws := ws) (cs := cs) (i := i) (dst := dst) (T := T) rfl hE5
    have h5 := h4.keep hK5
    obtain ⟨bb, hcl⟩ := zo1 (C'.see (2 + (steps[i].no.toNat - 1) / 8)) (hok'.see_len (by omega)) _ hk8
    have hsee : inoA (C'.see (2 + (steps[i].no.toNat - 1) / 8)) ((steps[i].no.toNat - 1) % 8) = steps[i].i := by
     rw [p4]
     exact zmw (hok.see_len p3) p2 hk8
    rw [hsee] at hcl
    obtain ⟨o, S6, ⟨hF6, hC6, w6, rfl, rfl⟩, hE6⟩ := qR (zkp S5 v5 _ c r m l C' (CacheIn.of h5.ca) hV5 h5.hB hb hi hm steps[i].no.toNat (by omega) (by omega) _ bb hcl)
    rw [hno] at hE6
    have hE6 := fun {ops base K ws cs i dst T} => kV (ops := ops) (base := base) (K := K) (ws := ws) (cs := cs) (i := i) (dst := dst) (T := T) rfl hE6
    have hv5 : v5.one = true := by obtain ⟨g, rfl, _⟩ := hV5; rfl
    have h6 := h5.step hF6 hC6.at rfl
    have hmk6 : MkV S6 mf' (b + 20) := hmk4.own fun v xs h => hF6.own (hK5.own h) rfl
    have hrow6 : S6[idn]? = some (.row wn 42) := hF6.row (hK5 _ _ hrow4) (zco hnr)
    have hne := (ne61 (u := .d (zS steps[i].i)) (v := .d (zS steps[i].i)) (.inl rfl) (.inl rfl)).1
    have hne1 : decide (steps[i].i ≠ steps[i].i) = false := decide_eq_false (fun h => h rfl)
    rw [hne1] at hne
    refine kL (is := [0, 1, 2, 3, 4, 5, 6, 7, 8, 9, 10, 11, 13, 14, 15, 16, 17, 19, 20, 21, 22, 23, 12, 18, 24, 25]) (h := 0) (by kernel_rfl) (by kernel_rfl) ?_
    simp (maxSteps:=1000000) (disch:=first|assumption|omega|rfl) only [List.replicate_zero, eq_self, gw, ga, Nat.reduceAdd, ↓gq, vso, List.append_nil, hde2, hxx, zgf, zm0, zv4, pl3, pl61, hde3, hE5, bo21, hv5, hE6, bo42, hne]
    refine ⟨qV rfl (by kernel_rfl) rfl (z3f pl61) zfe (qV rfl (by kernel_rfl) rfl (zsp (hix S5)) zbf (qV rfl (by kernel_rfl) rfl (z3f pl3) (kX (k := .i64) (n := steps[i].no)) (qV rfl (by kernel_rfl) rfl (zsp (hix S5)) zbf (zV (by kernel_rfl) (zV (by kernel_rfl) qM))))), qV rfl (by kernel_rfl) rfl (z3f pl61) zfe (qV rfl (by kernel_rfl) rfl (zsp (hix S6)) zbf (zV (by kernel_rfl) (zV (by kernel_rfl) (zV (by kernel_rfl) (zV (by kernel_rfl) qM))))), by kernel_rfl, ?_⟩
    simp (maxSteps:=1000000) (disch:=first|assumption|omega|rfl) only [↓gp, gc, Nat.reduceAdd, hiw]
    exact fin h6 hmk6 hrow6
   ·have hde3 : ∀ i' : Decidable (steps[i].do_ = 2), @decide (steps[i].do_ = 2) i' = false := fun i' => decide_eq_false hd
    refine kH (is := [0, 1, 2, 3, 4, 5, 6, 7, 8, 9, 10, 11, 13, 14, 15, 16, 17, 19, 20, 21, 22, 23, 12, 18, 24, 25]) (h := 0) (by kernel_rfl) (by kernel_rfl) ?_
    simp (maxSteps:=1000000) (disch:=first|assumption|omega|rfl) only [List.replicate_zero, eq_self, gd, ga, Nat.reduceAdd, ↓gq, vso, List.append_nil, hde2, hxx, zgf, pl3, hde3]
    refine ⟨by kernel_rfl, ?_⟩
    simp (maxSteps:=1000000) (disch:=first|assumption|omega|rfl) only [↓gp, gc, Nat.reduceAdd, hiw]
    exact fin h4 hmk4 hrow4
  ·have hde : ∀ i' : Decidable (e ≠ 0), @decide (e ≠ 0) i' = true := fun i' => decide_eq_true he0
   have hid0 := q1 he0
   have hdi : ∀ i' : Decidable (id ≠ 0), @decide (id ≠ 0) i' = false := fun i' => decide_eq_false (fun h => h hid0)
   simp (maxSteps:=1000000) (disch:=first|assumption|omega|rfl) only [↓gp, gc, Nat.reduceAdd, hln, he, bo18, hde, hix, pl83, hE2, bo41, hE3, bo21, hv1, hE4, bo22, hl37, hnn, hdi]
   refine zuz x steps i hlt id n idn idw (by have := hok.n; omega) S4 ws wn C C' hw4 hrow4 hI hI4 hok hok' hnC hnC' (fun h k hk => q2 h k (by omega)) (fun k hk => q3 k (by omega)) _ n 0 _ _ _ _ _ _ _ _ _ _ _ _ _ _ _ _ _ _ _ _ _ _ _ _ _ _ _ _ _ _ _ _ _ _ _ _ _ _ _ _ _ _ _ _ _ _ _ _ _ _ _ _ _ _ _ _ _ _ _ _ _ _ _ _ _ _ _ _ _ _ _ _ _ _ _ _ _ _ _ _ _ _ _ _ _ _ _ _ _ _ _ _ _ _ _ _ _ _ _ _ _ _ _ _ _ _ _ _ _ _ _ _ _ _ _ _ _ _ _ _ _ _ _ _ _ _ _ _ _ rfl (Nat.zero_le _) ?_
   intro k' g0 g2 g3 g4 g5 g9 gB gC gA gE gH gI gD gL gN gK gJ gO gP gW gT gU gQ gR gS gV gX gY gf gg gZ gh gj gk gn gr gz hZ xC hH hJ hU hY xA xB xD xE xF xG xH xI xJ xK xL xM xN xO xP xQ xR xS xT xU xV xW xX xY xZ g75 g76 g77 g78 g79 g80 g81 g82 g83 g84 g85 g86 g87 g88 g89 g90 g91 g92 g93 g94 g95 g96 g97 g98 g99 g100 g101 g102 g103 g104 g105 g106 g107 g108 g109 g110 g111 g112 g113 g114 g115 g116 g117 g118 g119 g120 g121 g122 g123 g124 g125 g126 g127 g128 g129 g130 g131 g132 g133 g134 g135
   simp (maxSteps:=1000000) (disch:=first|assumption|omega|rfl) only [↓gp, gc, Nat.reduceAdd]
   refine kH (is := [0, 1, 2, 3, 4, 5, 6, 7, 8, 9, 10, 11, 13, 14, 15, 16, 17, 19, 20, 21, 22, 23, 12, 18, 24, 25]) (h := 0) (by kernel_rfl) (by kernel_rfl) ?_
   simp (maxSteps:=1000000) (disch:=first|assumption|omega|rfl) only [List.replicate_zero, eq_self, gd, ga, Nat.reduceAdd, ↓gq, vso, List.append_nil, hdi]
   refine ⟨by kernel_rfl, ?_⟩
   simp (maxSteps:=1000000) (disch:=first|assumption|omega|rfl) only [↓gp, gc, Nat.reduceAdd, hiw]
   exact fin h4 hmk4 hrow4

theorem zxc (l : Lay) (hb : InB l.blocks) (hi : InB l.inodes) : Ev cfg 11 [encLay l] (.ret (.d (.bool (decide (MayL l))))) := by
 refine jW rfl rfl zvw ?_
 show Wp cfg (Try.f11.body.getD .skip) ((.d (encLay l)) :: uZ (uZ (uZ ((.tup []) :: (.tup []) :: (.tup []) :: (.tup []) :: (.tup []) :: [])))) [] [] _
 unfold uZ
 conv => arg 2; whnf
 generalize hp : decide (MayL l) = p
 have hq := quo8 hi
 have hr := rem8 (a := l.inodes)
 by_cases c1 : l.blocks ≥ 16
 case neg =>
  rw [decide_eq_false (fun h => by have := h.1; omega)] at hp; subst hp
  simp (maxSteps:=1000000) (disch:=first|assumption|omega|rfl) only [↓gp, gc, Nat.reduceAdd]
  exact zO rfl rfl rfl
 by_cases c2 : l.blocks ≤ 512
 case neg =>
  rw [decide_eq_false (fun h => by have := h.2.1; omega)] at hp; subst hp
  simp (maxSteps:=1000000) (disch:=first|assumption|omega|rfl) only [↓gp, gc, Nat.reduceAdd]
  exact zO rfl rfl rfl
 by_cases c3 : l.inodes ≥ 8
 case neg =>
  rw [decide_eq_false (fun h => by have := h.2.2.1; omega)] at hp; subst hp
  simp (maxSteps:=1000000) (disch:=first|assumption|omega|rfl) only [↓gp, gc, Nat.reduceAdd]
  exact zO rfl rfl rfl
 by_cases c4 : l.inodes ≤ 128
 case neg =>
  rw [decide_eq_false (fun h => by have := h.2.2.2.1; omega)] at hp; subst hp
  simp (maxSteps:=1000000) (disch:=first|assumption|omega|rfl) only [↓gp, gc, Nat.reduceAdd]
  exact zO rfl rfl rfl
 by_cases c5 : l.inodes.tmod 8 = 0
 case neg =>
  rw [decide_eq_false (fun h => c5 h.2.2.2.2.1)] at hp; subst hp
  simp (maxSteps:=1000000) (disch:=first|assumption|omega|rfl) only [↓gp, gc, Nat.reduceAdd, hr]
  exact zO rfl rfl rfl
 have hd : 0 ≤ l.inodes.tdiv 8 ∧ l.inodes.tdiv 8 ≤ 16 := by
  rw [Int.tdiv_eq_ediv_of_nonneg (by omega)]; omega
 have hw : IntKind.i64.wrap (2 + l.inodes.tdiv 8) = 2 + l.inodes.tdiv 8 := wrap64 (by omega)
 by_cases c6 : 2 + l.inodes.tdiv 8 < l.blocks
 case neg =>
  rw [decide_eq_false (fun h => c6 h.2.2.2.2.2)] at hp; subst hp
  simp (maxSteps:=1000000) (disch:=first|assumption|omega|rfl) only [↓gp, gc, Nat.reduceAdd, hr, hq, hw, c5, zL]
  exact zO rfl rfl rfl
 rw [decide_eq_true ⟨by omega, by omega, by omega, by omega, c5, by omega⟩] at hp; subst hp
 simp (maxSteps:=1000000) (disch:=first|assumption|omega|rfl) only [↓gp, gc, Nat.reduceAdd, hr, hq, hw, c5, zL]
 exact zO rfl rfl rfl
theorem zh1 : Ev cfg 7 [] (.ret (.d (.bool true))) := ⟨0, by kernel_rfl⟩
section
variable {ops : Array Oper} {dst : Option Tmp} {k : List Oper} {T : List V} {S : Store} {F : Dfs} {Q : Post}
theorem z2h : WpR cfg ops dst k T S F Q (some (.enter 7 [])) = WpL cfg ops k (putT T dst (.d (.bool true))) S F Q := qA (ds := []) rfl zh1
theorem zfa {l : Lay} (hb : InB l.blocks) (hi : InB l.inodes) : WpR cfg ops dst k T S F Q (some (.enter 11 [.d (encLay l)])) = WpL cfg ops k (putT T dst (.d (.bool (decide (MayL l))))) S F Q := qA (ds := [encLay l]) rfl (zxc l hb hi)
end
theorem zh3 (l : Lay) (hb : InB l.blocks) (hi : InB l.inodes) : Ev cfg 27 [encLay l] (.ret (.d (.bool (decide (MayL l ∧ l.blocks ≤ 60))))) := by
 refine jW rfl rfl zvm ?_
 show Wp cfg (Try.f27.body.getD .skip) ((.d (encLay l)) :: (.tup []) :: (.tup []) :: (.tup []) :: (.tup []) :: (.tup []) :: (.tup []) :: (.tup []) :: (.tup []) :: (.tup []) :: []) [] [] _
 conv => arg 2; whnf
 have hc := fun {ops dst k T S F Q} => zfa (ops := ops) (dst := dst) (k := k) (T := T) (S := S) (F := F) (Q := Q) hb hi
 by_cases h1 : MayL l
 ·rw [decide_eq_true h1] at hc
  have e : decide (MayL l ∧ l.blocks ≤ 60) = decide (l.blocks ≤ 60) := by simp [h1]
  rw [e]
  simp (maxSteps:=1000000) (disch:=first|assumption|omega|rfl) only [↓gp, gc, Nat.reduceAdd, lr24, zaj, z9y, hc, bo11]
  exact zO rfl rfl rfl
 ·rw [decide_eq_false h1] at hc
  have e : decide (MayL l ∧ l.blocks ≤ 60) = false := decide_eq_false (fun h => h1 h.1)
  rw [e]
  simp (maxSteps:=1000000) (disch:=first|assumption|omega|rfl) only [↓gp, gc, Nat.reduceAdd, lr24, zaj, z9y, hc, bo11]
  exact zO rfl rfl rfl
theorem zcg {ops : Array Oper} {dst : Option Tmp} {k : List Oper} {T : List V} {S : Store} {F : Dfs} {Q : Post} {l : Lay} (hb : InB l.blocks) (hi : InB l.inodes) : WpR cfg ops dst k T S F Q (some (.enter 27 [.d (encLay l)])) = WpL cfg ops k (putT T dst (.d (.bool (decide (MayL l ∧ l.blocks ≤ 60))))) S F Q := qA (ds := [encLay l]) rfl (zh3 l hb hi)
def q1w (l : List Stp) : Prop := ∃ s ∈ l, s.data.length > 300 ∨ s.needs.length > 20
theorem zjh {s : Stp} : zF Try.prog 83 3 (.d (.ptr (encStp s))) = some (.d (.ptr (patD s.at_ s.data))) := by kernel_rfl
theorem zq5 {s : Stp} : zF Try.prog 83 5 (.d (.ptr (encStp s))) = some (.d (.ptr (encI s.needs))) := by kernel_rfl
theorem zig {a : Int} {b : List UInt8} : zF Try.prog 81 1 (.d (.ptr (patD a b))) = some (.d (.ptr (encB b))) := by kernel_rfl
theorem pl40 {S : Store} {b : List UInt8} : kC Try.prog S 40 (.d (.ptr (encB b))) = some (.d (encB b)) := by kernel_rfl
theorem pl46 {S : Store} {l : List Int} : kC Try.prog S 46 (.d (.ptr (encI l))) = some (.d (encI l)) := by kernel_rfl
theorem zpg {S : Store} {l : List Int} : zI Try.prog S .len [46] [.d (encI l)] = some (.val (.d (.int .i64 (l.length : Int))) S 0) := IntsV.len (.inl rfl)
theorem zpy (l : List Stp) (hl : l.length ≤ 16) (R : Post) : ∀ (k i : Nat) (g1 g2 g3 g4 g6 g7 g8 g9 gM gF gG gB gC gA gE gH gI gD gL gN gK gJ gO gP gW gT gU gQ gR gS gV : V), l.length - i = k → i ≤ l.length → (∀ s ∈ l.take i, s.data.length ≤ 300 ∧ s.needs.length ≤ 20) →
 (∀ i' g1 g2 g3 g4 g6 g7 g8 g9 gM gF gG gB gC gA gE gH gI gD gL gN gK gJ gO gP gW gT gU gQ gR gS gV, (∀ s ∈ l, s.data.length ≤ 300 ∧ s.needs.length ≤ 20) → R (.exit 0) ((.d (.sl (l.map encStp))) :: g1 :: g2 :: g3 :: g4 :: i' :: g6 :: g7 :: g8 :: g9 :: gM :: gF :: gG :: gB :: gC :: gA :: gE :: gH :: gI :: gD :: gL :: gN :: gK :: gJ :: gO :: gP :: gW :: gT :: gU :: gQ :: gR :: gS :: gV :: []) [] []) →
 (∀ T, q1w l → T.getD 4 (.tup []) = .d (.bool true) → R .ret T [] []) →
 Wp cfg (.loop (lpOf (Try.f39.body.getD .skip) 0)) ((.d (.sl (l.map encStp))) :: g1 :: g2 :: g3 :: g4 :: (.d (.int .i64 (i : Int))) :: g6 :: g7 :: g8 :: g9 :: gM :: gF :: gG :: gB :: gC :: gA :: gE :: gH :: gI :: gD :: gL :: gN :: gK :: gJ :: gO :: gP :: gW :: gT :: gU :: gQ :: gR :: gS :: gV :: []) [] [] R := by
 intro k
 have hln : ∀ S, zI Try.prog S .len [76] [.d (.sl (l.map encStp))] = some (.val (.d (.int .i64 (l.length : Int))) S 0) := fun S => by rw [ztp, List.length_map]
 induction k with
 | zero =>
  intro i g1 g2 g3 g4 g6 g7 g8 g9 gM gF gG gB gC gA gE gH gI gD gL gN gK gJ gO gP gW gT gU gQ gR gS gV hk hi hA hR hR2
  have hie : i = l.length := by omega
  subst hie
  rw [List.take_length] at hA
  rw [zR]
  refine zJ ?_
  conv => arg 2; whnf
  simp (maxSteps:=1000000) (disch:=first|assumption|omega|rfl) only [↓gp, gc, Nat.reduceAdd, hln]
  exact hR _ _ _ _ _ _ _ _ _ _ _ _ _ _ _ _ _ _ _ _ _ _ _ _ _ _ _ _ _ _ _ _ hA
 | succ k ih =>
  intro i g1 g2 g3 g4 g6 g7 g8 g9 gM gF gG gB gC gA gE gH gI gD gL gN gK gJ gO gP gW gT gU gQ gR gS gV hk hi hA hR hR2
  have hlt : i < l.length := by omega
  have hiw : IntKind.i64.wrap ((i : Int) + 1) = ((i + 1 : Nat) : Int) := by rw [wrap64 (by omega)]; omega
  have hix := ix76 (S := []) hlt
  rw [zR]
  refine zJ ?_
  conv => arg 2; whnf
  by_cases h1 : (l[i].data.length : Int) > 300
  ·simp (maxSteps:=1000000) (disch:=first|assumption|omega|rfl) only [↓gp, gc, Nat.reduceAdd, hln, hix, zjh, zig, pl40, z1x, zL]
   exact hR2 _ ⟨l[i], List.getElem_mem hlt, .inl (by omega)⟩ rfl
  ·by_cases h2 : (l[i].needs.length : Int) > 20
   ·simp (maxSteps:=1000000) (disch:=first|assumption|omega|rfl) only [↓gp, gc, Nat.reduceAdd, hln, hix, zjh, zq5, zig, pl40, pl46, z1x, zpg, zL]
    exact hR2 _ ⟨l[i], List.getElem_mem hlt, .inr (by omega)⟩ rfl
   ·simp (maxSteps:=1000000) (disch:=first|assumption|omega|rfl) only [↓gp, gc, Nat.reduceAdd, hln, hix, zjh, zq5, zig, pl40, pl46, z1x, zpg, zL, hiw]
    refine ih (i + 1) _ _ _ _ _ _ _ _ _ _ _ _ _ _ _ _ _ _ _ _ _ _ _ _ _ _ _ _ _ _ _ (by omega) (by omega) ?_ hR hR2
    intro s hs
    rw [wI hlt] at hs
    rcases List.mem_append.1 hs with hs | hs
    ·exact hA s hs
    ·simp only [List.mem_singleton] at hs
     subst hs
     exact ⟨by omega, by omega⟩
theorem ztf (l : List Stp) : Ev cfg 39 [.sl (l.map encStp), .int .i64 16] (.ret (.d (.bool true))) ∨ (l.length ≤ 16 ∧ (∀ s ∈ l, s.data.length ≤ 300 ∧ s.needs.length ≤ 20) ∧ Ev cfg 39 [.sl (l.map encStp), .int .i64 16] (.ret (.d (.bool false)))) := by
 have hln : ∀ S, zI Try.prog S .len [76] [.d (.sl (l.map encStp))] = some (.val (.d (.int .i64 (l.length : Int))) S 0) := fun S => by rw [ztp, List.length_map]
 by_cases h16 : (l.length : Int) > 16
 ·refine .inl (jW rfl rfl zjv ?_)
  show Wp cfg (Try.f39.body.getD .skip) ((.d (.sl (l.map encStp))) :: (.d (.int .i64 16)) :: uZ (uZ (uZ ((.tup []) :: [])))) [] [] _
  unfold uZ
  conv => arg 2; whnf
  simp (maxSteps:=1000000) (disch:=first|assumption|omega|rfl) only [↓gp, gc, Nat.reduceAdd, hln, zL]
  exact zO rfl rfl rfl
 ·by_cases hm : ∀ s ∈ l, s.data.length ≤ 300 ∧ s.needs.length ≤ 20
  ·refine .inr ⟨by omega, hm, jW rfl rfl zjv ?_⟩
   show Wp cfg (Try.f39.body.getD .skip) ((.d (.sl (l.map encStp))) :: (.d (.int .i64 16)) :: uZ (uZ (uZ ((.tup []) :: [])))) [] [] _
   unfold uZ
   conv => arg 2; whnf
   simp (maxSteps:=1000000) (disch:=first|assumption|omega|rfl) only [↓gp, gc, Nat.reduceAdd, hln, zL]
   refine zpy l (by omega) _ l.length 0 _ _ _ _ _ _ _ _ _ _ _ _ _ _ _ _ _ _ _ _ _ _ _ _ _ _ _ _ _ _ _ rfl (Nat.zero_le _) (by simp) ?_ ?_
   ·intro i' g1 g2 g3 g4 g6 g7 g8 g9 gM gF gG gB gC gA gE gH gI gD gL gN gK gJ gO gP gW gT gU gQ gR gS gV hA
    simp (maxSteps:=1000000) (disch:=first|assumption|omega|rfl) only [↓gp, gc, Nat.reduceAdd]
    exact zO rfl rfl rfl
   ·rintro T ⟨s, hs, hh⟩ _
    have := hm s hs
    omega
  ·refine .inl (jW rfl rfl zjv ?_)
   show Wp cfg (Try.f39.body.getD .skip) ((.d (.sl (l.map encStp))) :: (.d (.int .i64 16)) :: uZ (uZ (uZ ((.tup []) :: [])))) [] [] _
   unfold uZ
   conv => arg 2; whnf
   simp (maxSteps:=1000000) (disch:=first|assumption|omega|rfl) only [↓gp, gc, Nat.reduceAdd, hln, zL]
   refine zpy l (by omega) _ l.length 0 _ _ _ _ _ _ _ _ _ _ _ _ _ _ _ _ _ _ _ _ _ _ _ _ _ _ _ _ _ _ _ rfl (Nat.zero_le _) (by simp) ?_ ?_
   ·intro i' g1 g2 g3 g4 g6 g7 g8 g9 gM gF gG gB gC gA gE gH gI gD gL gN gK gJ gO gP gW gT gU gQ gR gS gV hA
    exact absurd hA hm
   ·intro T _ hT
    exact zO hT rfl rfl
end Go.Proofs.Ytobgdmgldagjkaa
end
section
namespace Go.Vm
open Go.ChangeShapes Go.RowKit
inductive Ty where
 | bool
 | int (k : IntKind)
 | str
 | sl (e : Ty)
 | agg (fs : List Ty)
 deriving Inhabited
def Ty.isAgg : Ty → Bool | .agg _ => true | _ => false
def Ty.cells : Ty → List Ty | .agg fs => fs | .bool => [.bool] | .int k => [.int k] | .str => [.str] | .sl e => [.sl e]
def z0o (P : Program) (g : TypeId → Option Ty) : List Field → Nat → Option (List Ty)
 | [], _ => some []
 | f :: r, off => match g f.type with
  | some x => if f.offset = off ∧ P.cellsOf f.type = x.cells.length then match z0o P g r (off + x.cells.length) with
   | some l => some (x.cells ++ l)
   | none => none
   else none
  | none => none
def ofType (P : Program) : Nat → TypeId → Option Ty
 | 0, _ => none
 | n + 1, t => match P.underlying t with
  | some .bool => some .bool
  | some (.int k) => some (.int k)
  | some .string => some .str
  | some (.slice e) => match ofType P n e with
   | some x => if P.cellsOf e = x.cells.length ∧ x.cells.length ≠ 0 then some (.sl x) else none
   | none => none
  | some (.struct fs) => match z0o P (ofType P n) fs.toList 0 with
   | some l => if P.cellsOf t = l.length then some (.agg l) else none
   | none => none
  | some (.array m e) => match ofType P n e with
   | some x => if P.cellsOf e = x.cells.length ∧ P.cellsOf t = m * x.cells.length then some (.agg (List.replicate m x.cells).flatten) else none
   | none => none
  | _ => none
mutual
def HasTy : Ty → D → Prop
 | .bool, x => ∃ b, x = .bool b
 | .int k, x => ∃ n, x = .int k n ∧ k.min ≤ n ∧ n ≤ k.max
 | .str, x => ∃ s, x = .str s ∧ s.length ≤ maxLen
 | .sl e, x => ∃ xs, x = .sl xs ∧ xs.length ≤ maxLen ∧ ∀ y ∈ xs, HasTy e y
 | .agg fs, x => ∃ xs, x = .agg xs ∧ HasL fs xs
def HasL : List Ty → List D → Prop
 | [], xs => xs = []
 | t :: ts, xs => ∃ y r, xs = y :: r ∧ HasTy t y ∧ HasL ts r
end
theorem zdi {t : Ty} {x : D} (h : HasTy t x) : x.isAgg = t.isAgg := by
 cases t <;> simp only [HasTy] at h <;> obtain ⟨_, rfl, _⟩ := h <;> rfl
theorem z3s : ∀ {ts us : List Ty} {xs ys : List D}, HasL ts xs → HasL us ys → HasL (ts ++ us) (xs ++ ys)
 | [], us, xs, ys, h, h' => by simp only [HasL] at h; subst h; exact h'
 | t :: ts, us, xs, ys, h, h' => by
  simp only [HasL] at h
  obtain ⟨y, r, rfl, h1, h2⟩ := h
  simp only [List.cons_append, HasL]
  exact ⟨y, r ++ ys, rfl, h1, z3s h2 h'⟩
theorem z7l {t : Ty} {x : D} (h : HasTy t x) : HasL t.cells x.cells := by
 cases t with
 | agg fs => simp only [HasTy] at h; obtain ⟨xs, rfl, h⟩ := h; exact h
 | _ =>
  have h' := h
  simp only [HasTy] at h
  obtain ⟨_, rfl, _⟩ := h
  simp only [Ty.cells, D.cells, HasL]
  exact ⟨_, [], rfl, h', rfl⟩
section
variable {P : Program} {H : Type} {enc : TypeId × Value → H} {w : World}
theorem z92 {α β : Type} {f : α → Option β} {x : α} {r : List α} {ys : List β} (h : (x :: r).mapM f = some ys) : ∃ y zs, f x = some y ∧ r.mapM f = some zs ∧ ys = y :: zs := by
 rw [List.mapM_cons] at h
 cases h1 : f x with
 | none => simp [h1] at h
 | some y =>
  cases h2 : r.mapM f with
  | none => simp [h1, h2] at h
  | some zs => simp [h1, h2] at h; exact ⟨y, zs, rfl, rfl, h.symm⟩
theorem zbj {α β : Type} {f : α → Option β} {ys : List β} (h : ([] : List α).mapM f = some ys) : ys = [] := by simpa using h.symm
theorem cells?_spec {base : Nat} {a : Addr} {n : Nat} {us : List Value} (h : w.cells? base a n = some us) : us.length = n ∧ ∀ j v, us[j]? = some v → w.cell? (a.add j) = some v := by
 unfold World.cells? at h
 split at h
 ·have key : ∀ (m s : Nat) (us : List Value), (List.range' s m).mapM (fun i => w.cell? (a.add i)) = some us → us.length = m ∧ ∀ j v, us[j]? = some v → w.cell? (a.add (s + j)) = some v := by
   intro m
   induction m with
   | zero => intro s us h; have := zbj h; subst this; exact ⟨rfl, fun j v h => by simp at h⟩
   | succ m ih =>
    intro s us h
    rw [List.range'_succ] at h
    obtain ⟨y, zs, h1, h2, rfl⟩ := z92 h
    obtain ⟨g1, g2⟩ := ih (s + 1) zs h2
    refine ⟨by simp [g1], fun j v hj => ?_⟩
    cases j with
    | zero => simp at hj; subst hj; exact h1
    | succ j => simp at hj; have := g2 j v hj; rw [show s + (j + 1) = s + 1 + j by omega]; exact this
  rw [List.range_eq_range'] at h
  obtain ⟨g1, g2⟩ := key n 0 us h
  exact ⟨g1, fun j v hj => by simpa using g2 j v hj⟩
 ·cases h
theorem zh9 {a : Addr} {us : List Value} (hne : us ≠ []) (h : ∀ j v, us[j]? = some v → w.cell? (a.add j) = some v) : a.spot = none ∧ a.block < w.heap.size ∧ CellsAt w a.block a.off us := by
 have h0 : ∃ v, us[0]? = some v := by cases us with | nil => exact absurd rfl hne | cons x r => exact ⟨x, rfl⟩
 obtain ⟨v, hv⟩ := h0
 have := h 0 v hv
 rw [Addr.add_zero'] at this
 unfold World.cell? at this
 cases hb : w.heap[a.block]? with
 | none => simp [hb] at this
 | some o =>
  cases o with
  | cells c e f =>
   simp only [hb] at this
   split at this
   ·cases this
   ·rename_i hs
    refine ⟨by simpa using hs, jV hb, c, e, f, hb, fun j v hj => ?_⟩
    have := h j v hj
    unfold World.cell? at this
    have hbl : (a.add j).block = a.block := by unfold Addr.add; split <;> rfl
    have hoff : (a.add j).off = a.off + j := by unfold Addr.add; split <;> simp_all
    simp only [hbl, hb] at this
    split at this
    ·cases this
    ·rw [hoff] at this; exact this
  | _ => simp [hb] at this
theorem zd7 (a : Addr) (m n : Nat) : (a.add m).add n = a.add (m + n) := by
 unfold Addr.add
 by_cases h : m = 0 <;> by_cases h' : n = 0 <;> simp [h, h', Nat.add_assoc]
abbrev Old (w : World) (b : Nat) : Prop := b < w.heap.size
theorem z28 {A : Nat → Prop} : ∀ {xs ys : List D} {us vs : List Value}, RepL A w xs us → RepL A w ys vs → RepL A w (xs ++ ys) (us ++ vs)
 | [], ys, us, vs, h, h' => by simp only [RepL] at h; subst h; exact h'
 | x :: r, ys, us, vs, h, h' => by
  simp only [RepL] at h
  obtain ⟨v, us', rfl, h1, h2, h3⟩ := h
  simp only [List.cons_append, RepL]
  exact ⟨v, us' ++ vs, rfl, h1, h2, z28 h3 h'⟩
theorem z9u {base : Nat} {spare : Nat → Bool} {held : Bool} {g : TypeId → Option Ty} {cs : List Value} {fu : Nat} (ih : ∀ {t : TypeId} {cs : List Value} {z : DataW H × List MemPlace} {T : Ty}, DataW.trod enc P w base spare held fu t cs = some z → g t = some T → ∃ x, HasTy T x ∧ RepC (Old w) w x cs) :
  ∀ {l : List Field} {off : Nat} {ts : List Ty}, z0o P g l off = some ts → (∀ f ∈ l, ∃ z, DataW.trod enc P w base spare held fu f.type ((cs.drop f.offset).take (P.cellsOf f.type)) = some z) → ∃ xs, HasL ts xs ∧ RepL (Old w) w xs ((cs.drop off).take ts.length)
 | [], off, ts, h, _ => by
  simp only [z0o, Option.some.injEq] at h; subst h
  exact ⟨[], rfl, by simp [RepL]⟩
 | f :: r, off, ts, h, hz => by
  simp only [z0o] at h
  cases hg : g f.type with
  | none => simp [hg] at h
  | some T =>
   simp only [hg] at h
   split at h
   ·rename_i hc
    obtain ⟨rfl, hc2⟩ := hc
    cases hr : z0o P g r (f.offset + T.cells.length) with
    | none => simp [hr] at h
    | some l =>
     simp only [hr, Option.some.injEq] at h; subst h
     obtain ⟨z, hz1⟩ := hz f (by simp)
     obtain ⟨x, hx, hrx⟩ := ih hz1 hg
     obtain ⟨xs, h1, h2⟩ := z9u ih hr (fun f' hf' => hz f' (by simp [hf']))
     refine ⟨x.cells ++ xs, z3s (z7l hx) h1, ?_⟩
     have e : (cs.drop f.offset).take (T.cells ++ l).length = (cs.drop f.offset).take (P.cellsOf f.type) ++ (cs.drop (f.offset + T.cells.length)).take l.length := by
      rw [List.length_append, List.take_add, hc2, List.drop_drop]
     rw [e]
     exact z28 (wG hrx) h2
   ·cases h
theorem znz {base : Nat} {spare : Nat → Bool} {held : Bool} : ∀ (n : Nat) (fuel : Nat) {t : TypeId} {cs : List Value} {z : DataW H × List MemPlace} {T : Ty}, DataW.trod enc P w base spare held fuel t cs = some z → ofType P n t = some T → ∃ x, HasTy T x ∧ RepC (Old w) w x cs := by
 intro n
 induction n with
 | zero => intro fuel t cs z T h hT; simp [ofType] at hT
 | succ n ih =>
  intro fuel t cs z T h hT
  simp only [ofType] at hT
  cases hu : P.underlying t with
  | none => simp [hu] at hT
  | some td =>
   simp only [hu] at hT
   cases td with
   | bool =>
    simp only [Option.some.injEq] at hT; subst hT
    obtain ⟨b, rfl, _⟩ := DataW.trod_bool hu h
    exact ⟨.bool b, ⟨b, rfl⟩, by simp [RepC]⟩
   | int k =>
    simp only [Option.some.injEq] at hT; subst hT
    obtain ⟨m, rfl, _, hwf⟩ := DataW.trod_int hu h
    exact ⟨.int k m, ⟨m, rfl, by simpa [Lit.wf] using hwf⟩, by simp [RepC]⟩
   | string =>
    simp only [Option.some.injEq] at hT; subst hT
    obtain ⟨s, rfl, _, hl⟩ := DataW.trod_string hu h
    exact ⟨.str s.data.toList, ⟨_, rfl, hl⟩, by simp [RepC]⟩
   | slice e =>
    simp only at hT
    cases he : ofType P n e with
    | none => simp [he] at hT
    | some E =>
     simp only [he] at hT
     split at hT
     ·rename_i hc
      obtain ⟨hc, hne⟩ := hc
      simp only [Option.some.injEq] at hT; subst hT
      rcases Go.Deep.open_slice hu h with ⟨rfl, _⟩ | ⟨a, len, cap, m, fu, D0, Pl, rfl, _, hle, hcap, hm, _, hel⟩
      ·refine ⟨.sl [], ⟨[], rfl, by simp, by simp⟩, ?_⟩
       simp only [RepC]
       exact ⟨none, 0, rfl, Nat.le_refl _, .inl trivial⟩
      ·have hlm : len ≤ m := by rw [hm]; split <;> omega
       rw [hc] at hel
       have key : ∀ (l s : Nat), s + l ≤ m → ∃ xs us, xs.length = l ∧ us.length = l * E.cells.length ∧ (∀ y ∈ xs, HasTy E y) ∧ RepE (Old w) w E.cells.length xs us ∧ ∀ j v, us[j]? = some v → w.cell? (a.add (s * E.cells.length + j)) = some v := by
        intro l
        induction l with
        | zero => intro s _; exact ⟨[], [], rfl, by simp, by simp, by simp [RepE], fun j v h => by simp at h⟩
        | succ l ihl =>
         intro s hs
         obtain ⟨cs', g1, g2⟩ := hel s (by omega)
         obtain ⟨x, hx, hr⟩ := ih fu g2 he
         obtain ⟨k1, k2⟩ := cells?_spec g1
         obtain ⟨xs, us, f1, f2, f3, f4, f5⟩ := ihl (s + 1) (by omega)
         refine ⟨x :: xs, cs' ++ us, by simp [f1], by simp [k1, f2, Nat.succ_mul]; omega, fun y hy => ?_, ?_, fun j v hj => ?_⟩
         ·rcases List.mem_cons.1 hy with rfl | hy
          ·exact hx
          ·exact f3 y hy
         ·simp only [RepE]
          exact ⟨cs', us, rfl, k1, hr, f4⟩
         ·rw [List.getElem?_append] at hj
          split at hj
          ·have := k2 j v hj
           rwa [zd7] at this
          ·rename_i hlt
           have := f5 _ v hj
           rw [show s * E.cells.length + j = (s + 1) * E.cells.length + (j - cs'.length) by rw [Nat.succ_mul]; omega]
           exact this
       obtain ⟨xs, us, f1, f2, f3, f4, f5⟩ := key len 0 (by omega)
       refine ⟨.sl xs, ⟨xs, rfl, by omega, f3⟩, ?_⟩
       simp only [RepC]
       refine ⟨some a, cap, by rw [f1], by omega, ?_⟩
       by_cases h0 : xs = []
       ·exact .inl h0
       ·right
        have hne' : us ≠ [] := by
         intro hn
         rw [hn] at f2
         simp only [List.length_nil] at f2
         have : len ≠ 0 := by
          intro h00; rw [h00] at f1; exact h0 (List.length_eq_zero_iff.1 f1)
         have := Nat.mul_ne_zero this hne
         omega
        obtain ⟨c1, c2, c3⟩ := zh9 hne' (fun j v hj => by simpa using f5 j v hj)
        exact ⟨a, _, us, rfl, c1, c2, c3, f4⟩
     ·cases hT
   | struct fs =>
    simp only at hT
    cases hf : z0o P (ofType P n) fs.toList 0 with
    | none => simp [hf] at hT
    | some l =>
     simp only [hf] at hT
     split at hT
     ·rename_i hc
      simp only [Option.some.injEq] at hT; subst hT
      obtain ⟨xs, fu, _, _, hl, hxl, hel⟩ := DataW.trod_struct hu h
      obtain ⟨ys, h1, h2⟩ := z9u (fun a b => ih fu a b) hf (fun f hf' => by
       obtain ⟨i, hi⟩ := List.getElem?_of_mem hf'
       have hi' : fs[i]? = some f := by simpa using hi
       have := hel i f hi'
       have hlt : i < xs.length := by
        rw [hxl]
        rcases Nat.lt_or_ge i fs.size with h' | h'
        ·exact h'
        ·simp [h'] at hi'
       exact ⟨xs[i], by rw [this]; simp [hlt]⟩)
      refine ⟨.agg ys, ⟨ys, rfl, h1⟩, ?_⟩
      simp only [RepC]
      rw [List.drop_zero, List.take_of_length_le (by omega)] at h2
      exact h2
     ·cases hT
   | array m e =>
    simp only at hT
    cases he : ofType P n e with
    | none => simp [he] at hT
    | some E =>
     simp only [he] at hT
     split at hT
     ·rename_i hc
      obtain ⟨hc, hc2⟩ := hc
      simp only [Option.some.injEq] at hT; subst hT
      obtain ⟨xs, fu, _, _, hl, hxl, hel⟩ := DataW.trod_array hu h
      rw [hc] at hel
      have key : ∀ (l s : Nat), s + l ≤ m → ∃ ys, HasL (List.replicate l E.cells).flatten ys ∧ RepL (Old w) w ys ((cs.drop (s * E.cells.length)).take (l * E.cells.length)) := by
       intro l
       induction l with
       | zero => intro s _; exact ⟨[], by simp [HasL], by simp [RepL]⟩
       | succ l ihl =>
        intro s hs
        have hlt : s < xs.length := by omega
        have h0 := hel s (by omega)
        rw [List.getElem?_eq_getElem hlt] at h0
        obtain ⟨x, hx, hr⟩ := ih fu h0 he
        obtain ⟨ys, f1, f2⟩ := ihl (s + 1) (by omega)
        refine ⟨x.cells ++ ys, by rw [List.replicate_succ, List.flatten_cons]; exact z3s (z7l hx) f1, ?_⟩
        have e : (cs.drop (s * E.cells.length)).take ((l + 1) * E.cells.length) = (cs.drop (s * E.cells.length)).take E.cells.length ++ (cs.drop ((s + 1) * E.cells.length)).take (l * E.cells.length) := by
         rw [Nat.succ_mul, Nat.add_comm (l * _), List.take_add, List.drop_drop, Nat.succ_mul]
        rw [e]
        exact z28 (wG hr) f2
      obtain ⟨ys, f1, f2⟩ := key m 0 (by omega)
      refine ⟨.agg ys, ⟨ys, rfl, f1⟩, ?_⟩
      simp only [RepC]
      rw [Nat.zero_mul, List.drop_zero, List.take_of_length_le (by omega)] at f2
      exact f2
     ·cases hT
   | _ => simp at hT
def zjf (P : Program) (n : Nat) : List TypeId → Option (List Ty) := allO (ofType P n)
theorem zgt {r : Reach} {base : Nat} {t : TypeId} {v : Value} {n : Nat} {T : Ty} (hT : ofType P n t = some T) (hok : Value.okWide P w r base t v) : (T.isAgg = true ∧ ∃ us, v = .agg us) ∨ (T.isAgg = false ∧ v.cells = #[v]) := by
 cases n with
 | zero => simp [ofType] at hT
 | succ n =>
  simp only [ofType] at hT
  unfold Value.okWide at hok
  cases hu : P.underlying t with
  | none => simp [hu] at hT
  | some td =>
   simp only [hu] at hT hok
   cases td with
   | bool =>
    simp only [Option.some.injEq] at hT; subst hT
    refine .inr ⟨rfl, ?_⟩
    simp only [Cell.okWide, hu] at hok
    cases v <;> simp_all [Cell.ok, Value.cells]
   | int k =>
    simp only [Option.some.injEq] at hT; subst hT
    refine .inr ⟨rfl, ?_⟩
    simp only [Cell.okWide, hu] at hok
    cases v <;> simp_all [Cell.ok, Value.cells]
   | string =>
    simp only [Option.some.injEq] at hT; subst hT
    refine .inr ⟨rfl, ?_⟩
    simp only [Cell.okWide, hu] at hok
    cases v <;> simp_all [Cell.ok, Value.cells]
   | slice e =>
    simp only at hT
    cases he : ofType P n e with
    | none => simp [he] at hT
    | some E =>
     simp only [he] at hT
     split at hT
     ·simp only [Option.some.injEq] at hT; subst hT
      refine .inr ⟨rfl, ?_⟩
      simp only [Cell.okWide, hu] at hok
      cases v <;> simp_all [Cell.ok, Value.cells]
     ·cases hT
   | struct fs =>
    simp only at hT
    cases hf : z0o P (ofType P n) fs.toList 0 with
    | none => simp [hf] at hT
    | some l =>
     simp only [hf] at hT
     split at hT
     ·simp only [Option.some.injEq] at hT; subst hT
      obtain ⟨cs, h, _⟩ := hok
      exact .inl ⟨rfl, cs, h⟩
     ·cases hT
   | array m e =>
    simp only at hT
    cases he : ofType P n e with
    | none => simp [he] at hT
    | some E =>
     simp only [he] at hT
     split at hT
     ·simp only [Option.some.injEq] at hT; subst hT
      obtain ⟨cs, h, _⟩ := hok
      exact .inl ⟨rfl, cs, h⟩
     ·cases hT
   | _ => simp at hT
theorem open_all {base : Nat} {spare : Nat → Bool} {held : Bool} {r : Reach} {b0 : Nat} {n : Nat} : ∀ {ts : List TypeId} {vs : List Value} {ds : List (DataW H)} {ps : List MemPlace} {Ts : List Ty}, DataW.TrodAll enc P w base spare held ts vs ds ps → zjf P n ts = some Ts →
  (∀ (j : Nat) t v, ts[j]? = some t → vs[j]? = some v → Value.okWide P w r b0 t v) → ∃ xs, HasL Ts xs ∧ RepS (Old w) w xs vs
 | [], vs, ds, ps, Ts, h, hT, _ => by
  simp only [zjf, allO, Option.some.injEq] at hT; subst hT
  cases vs with
  | nil => exact ⟨[], rfl, by simp [RepS]⟩
  | cons v vs => cases ds <;> simp [DataW.TrodAll] at h
 | t :: ts, vs, ds, ps, Ts, h, hT, hok => by
  obtain ⟨T, Ts', h1, h2, rfl⟩ := wL hT
  cases vs with
  | nil => simp [DataW.TrodAll] at h
  | cons v vs =>
   cases ds with
   | nil => simp [DataW.TrodAll] at h
   | cons d ds =>
    obtain ⟨p, q, ⟨fu, hd⟩, hr, rfl⟩ := h
    obtain ⟨x, hx, hrx⟩ := znz n fu hd h1
    obtain ⟨xs, g1, g2⟩ := open_all hr h2 (fun j t v hj hv => hok (j + 1) t v (by simpa using hj) (by simpa using hv))
    refine ⟨x :: xs, by simp only [HasL]; exact ⟨x, xs, rfl, hx, g1⟩, ?_⟩
    simp only [RepS]
    refine ⟨v, vs, rfl, ?_, g2⟩
    rcases zgt h1 (hok 0 t v (by simp) (by simp)) with ⟨e1, us, rfl⟩ | ⟨e1, e2⟩
    ·exact .inl ⟨by rw [zdi hx, e1], us, rfl, by simpa [Value.cells] using hrx⟩
    ·exact .inr ⟨by rw [zdi hx, e1], by rw [e2] at hrx; simpa using hrx⟩
theorem trodAll_len {base : Nat} {spare : Nat → Bool} {held : Bool} : ∀ {ts : List TypeId} {vs : List Value} {ds : List (DataW H)} {ps : List MemPlace}, DataW.TrodAll enc P w base spare held ts vs ds ps → ds.length = ts.length
 | [], vs, ds, ps, h => by
  cases vs <;> cases ds <;> simp_all [DataW.TrodAll]
 | t :: ts, vs, ds, ps, h => by
  cases vs with
  | nil => simp [DataW.TrodAll] at h
  | cons v vs =>
   cases ds with
   | nil => simp [DataW.TrodAll] at h
   | cons d ds =>
    obtain ⟨p, q, _, hr, rfl⟩ := h
    simp [trodAll_len hr]
theorem trodVars_nil {T : List String} {gs : List (DataW H)} {q : List MemPlace} {own : Nat → Bool} (hT : T = []) (h : DataW.TrodVars enc P w own T gs q) : gs = [] := by
 subst hT
 cases gs with
 | nil => rfl
 | cons g gs => simp [DataW.TrodVars] at h
theorem zcr {W W' : World} (hl : laidOutB P = true) (hb : Below W.heap.size W W') : ∀ {ts : List TypeId} {vs : List Value} {ds : List (DataW H)} {ps : List MemPlace}, (ts.all fun t => P.readableRec t && decide (t < P.types.size)) = true → DataW.TrodAll enc P W 0 (fun _ => true) true ts vs ds ps → (∀ x ∈ ps, x.block < W.heap.size) → DataW.TrodAll enc P W' 0 (fun b => decide (b < W.heap.size)) true ts vs ds ps
 | [], vs, ds, ps, _, h, _ => by
  cases vs <;> cases ds <;> simp_all [DataW.TrodAll]
 | t :: ts, vs, ds, ps, hr, h, hlt => by
  simp only [List.all_cons, Bool.and_eq_true, decide_eq_true_eq] at hr
  cases vs with
  | nil => simp [DataW.TrodAll] at h
  | cons v vs =>
   cases ds with
   | nil => simp [DataW.TrodAll] at h
   | cons d ds =>
    obtain ⟨p, q, hd, hrest, rfl⟩ := h
    exact ⟨p, q, Below.trod hl hr.1.1 hr.1.2 hd hb (fun x hx => hlt x (by simp [hx])), zcr hl hb (by simpa using hr.2) hrest (fun x hx => hlt x (by simp [hx])), rfl⟩
theorem law_post {f : Func} {s : ChangeSpec} {apart : Bool} {W W' : World} {args : Array Value} {ds gs : List (DataW H)} {before : List MemPlace} {t : TypeId} (hl : laidOutB P = true) (hread : (f.params.toList.all fun t => P.readableRec t && decide (t < P.types.size)) = true)
  (hW : DataW.Whole enc P f.params.toList s.vars apart W args.toList ds gs before) (hv : s.vars = []) (hres : f.resultTypes = #[t]) (hu : P.underlying t = some .bool)
  (hfn : s.fn H (ds ++ gs) = { results := [.lit (.bool true)], args := ds }) (hb : Below W.heap.size W W') : s.post enc P f apart true false false W args (.bool true) W' := by
 have hlt : ∀ x ∈ before, x.block < W.heap.size := fun x hx => by simpa using hW.lt x hx
 have hW0 := hW
 obtain ⟨p, q, hA, hV, rfl, hz, hn⟩ := hW
 refine ⟨ds, gs, p ++ q, [], p, q, hW0, ?_, ?_, ?_, hb.frame _, fun h => by cases h⟩
 ·rw [hfn, hres]
  exact trodAll_mk1 (shut_bool hu true)
 ·rw [hfn]
  exact zcr hl hb hread hA (fun x hx => hlt x (by simp [hx]))
 ·rw [hfn]
  rw [hv] at hV ⊢
  cases gs with
  | nil => exact hV
  | cons g gs => simp [DataW.TrodVars] at hV
theorem law_calls {C : Cfg} (hext : kD C) (hcatch : z8e C) {n : Nat} {f : FuncId} {xs : List D} {args : Array Value} {W : World} (hrun : runD C n f xs = some (.ret (.d (.bool true)))) (hr : RepS (Old W) W xs args.toList) (hgl : GlobOk C.P (Old W) W) :
  Calls C.P f args W fun e W' => e = .returned (.bool true) ∧ Below W.heap.size W W' := by
 obtain ⟨o', ho, hcalls⟩ := ze7 hext hcatch n f xs _ hrun
 have ho' : o' = .ret (.bool true) := by
  cases o' with
  | ret x => simp only [OutD.out, Out.ret.injEq, V.d.injEq] at ho; rw [ho]
  | tup xs => simp [OutD.out] at ho
  | pan x => simp [OutD.out] at ho
 subst ho'
 refine (hcalls (Old W) W args (fun b hb => hb) hgl hr).mono fun e W' he => ?_
 cases e with
 | returned v =>
  obtain ⟨A', h1, h2⟩ := he
  have h2 := (zD rfl).1 h2
  simp only [RepC, List.cons.injEq, and_true] at h2
  exact ⟨by rw [h2], h1.os, h1.tape, h1.output, h1.size, h1.old⟩
 | panicked c => obtain ⟨x, v, h, _⟩ := he; cases h
 | outgrown => exact he.elim
end
end Go.Vm
end
