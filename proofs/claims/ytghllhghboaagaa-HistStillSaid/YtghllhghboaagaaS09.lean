/- The state's calls: rename. -/
import Derived.Test.YtghllhghboaagaaS08
set_option linter.unusedVariables false
set_option linter.unusedSimpArgs false
set_option maxRecDepth 100000
set_option maxHeartbeats 4000000
set_option linter.defProp false
section
namespace Go.Proofs.Ytghllhghboaagaa
open Go.Vm
theorem zu6 {t : List Node} {x : Int} (h : (getN t x).kind = 2) : getN t x ∈ t := by
 rcases jH t x with ⟨h1, _⟩ | ⟨h1, _⟩
 ·rw [h1] at h; simp [zM] at h
 ·exact h1
theorem zge {t : List Node} (h : LJ t (fun _ => 0)) (hT : TInv t 1) {f : Int} {e : Ent} (he : e ∈ (getN t f).names) (hk : (getN t e.ino).kind = 2) : (getN t e.ino).parent = f := by
 have hge := hT.inv.ge2 f e he
 have hf : (getN t f).kind = 2 := Classical.byContradiction fun hh => by rw [h.fil f hh] at he; cases he
 obtain ⟨h1, e', he', hi⟩ := hT.inv.told e.ino hk (by omega) (by omega)
 refine Classical.byContradiction fun hne => ?_
 have hD := h.drop (i := e.ino) (s := e.name) hf ⟨e, he, rfl, rfl⟩
 have hkd := qR (s := e.name) h.srt.uniq hf (y := e.ino)
 have hl := hD.lnk e.ino (by rw [hkd.1, hk]; decide) (by omega)
 rw [hkd.2.2, hT.inv.ln _ hk] at hl
 simp only [if_true] at hl
 have hgp : getN (zU t f e.name) (getN t e.ino).parent = getN t (getN t e.ino).parent := by rw [vU h.srt.uniq hf, if_neg hne]
 have hin : getN t (getN t e.ino).parent ∈ zU t f e.name := by rw [← hgp]; exact zu6 (by rw [hgp]; exact h1)
 have h2 := zo1 hin e.ino
 have h3 := zrp he'
 rw [hi] at h3
 omega
theorem zuc {t : List Node} (h : LJ t (fun _ => 0)) (hT : TInv t 1) {f : Int} {e : Ent} (he : e ∈ (getN t f).names) (hk : (getN t e.ino).kind = 2) : e.ino ≠ f := fun hh => by
 have hp := zge h hT he hk
 have hge := hT.inv.ge2 f e he
 rw [hh] at hp hk
 obtain ⟨c, hc, _⟩ := zik hT.inv.root (hT.inv.way f hk)
 cases c with
 | nil => have : f = 1 := hc.2; omega
 | cons j r =>
  have hj : (getN t f).parent = j := hc.2.2.1
  have hn := z4w hc
  rw [← hj, hp] at hn
  simp at hn
theorem zgw {u : List Node} {d x i : Int} {s : List UInt8} (hu : Uniq u) (hd : (getN u d).kind = 2) (hx : x ≠ d) : getN (putN u d s i) x = getN u x := by
 unfold putN
 rw [qX hu]
 unfold upd
 have hi : ({ getN u d with names := putA s i false (getN u d).names } : Node).ino = d := jD hd
 rw [hi, if_neg hx]
structure Mid (k : Nat) (u : List Node) (f d : Int) (old s : List UInt8) (ino : Int) : Prop where
 lj : LJ u (fun _ => 0)
 kf : (getN u f).kind = 2
 kd : (getN u d).kind = 2
 nf : ∃ e ∈ (getN u f).names, e.name = old ∧ e.ino = ino
 sm : Small k u
theorem zhz {t : List Node} {k : Nat} {f d : Int} {old s : List UInt8} {ino : Int} (h : LJ t (fun _ => 0)) (hT : TInv t 1) (hS : Small k t) (hf : (getN t f).kind = 2) (hd : (getN t d).kind = 2) (e0 : Ent) (he0 : e0 ∈ (getN t f).names) (hs0 : e0.name = old) (hi0 : e0.ino = ino)
  (h4 : qV (getN t d).names s ≠ ino) (hw : 0 ≤ qV (getN t d).names s) (hkw : (getN t (qV (getN t d).names s)).kind ≠ 2) : Mid (k + 2) (kO (zU t d s) (qV (getN t d).names s)) f d old s ino := by
 obtain ⟨e1, he1, hs1, hi1⟩ := wW hw
 have hk1 : (getN t (qV (getN t d).names s)).kind ≠ 0 := by rw [← hi1]; exact h.told he1
 have hg1 : 2 ≤ qV (getN t d).names s := by rw [← hi1]; exact hT.inv.ge2 _ e1 he1
 generalize qV (getN t d).names s = was at *
 have hnf : f ≠ was := fun hh => by rw [hh] at hf; exact hkw hf
 have hnd : d ≠ was := fun hh => by rw [hh] at hd; exact hkw hd
 have hni : ino ≠ was := fun hh => h4 hh.symm
 have hgw : getN (zU t d s) was = getN t was := by rw [vU h.srt.uniq hd, if_neg (fun hh => hnd hh.symm)]
 have hD := h.drop (i := was) (s := s) hd ⟨e1, he1, hs1, hi1⟩
 have hL := (hD.loses (i := was) (by rw [hgw]; exact hk1) (by rw [hgw]; exact h.fil _ hkw) (by omega) (by simp)).congr (d' := fun _ => 0) (fun x => by
  by_cases e : x = was
  ·simp [e]
  ·have : ¬ was = x := fun hh => e hh.symm
   simp [e, this])
 have hgl : ∀ y, y ≠ was → getN (kO (zU t d s) was) y = getN (zU t d s) y := fun y hy => z04 hD.srt.uniq hy
 refine ⟨hL, ?_, ?_, ?_, hS.drop.loses.mono (by omega)⟩
 ·rw [hgl f hnf, (qR h.srt.uniq hd).1]; exact hf
 ·rw [hgl d hnd, (qR h.srt.uniq hd).1]; exact hd
 ·rw [hgl f hnf, vU h.srt.uniq hd]
  split
  ·rename_i hfd
   subst hfd
   refine ⟨e0, List.mem_filter.2 ⟨he0, ?_⟩, hs0, hi0⟩
   rw [decide_eq_true_eq]
   intro hh
   have := hT.inv.un _ e0 he0 e1 he1 (hh.trans hs1.symm)
   exact hni (hi0.symm.trans (this.trans hi1))
  ·exact ⟨e0, he0, hs0, hi0⟩
section
variable {S : zA} {a m k : Nat} {A B : Int → V} {u : List Node} {f d ino : Int} {old s : List UInt8}
theorem zue (hM : Mid k u f d old s ino) (hk : k < 200000) (hT : Tree S a m A B u) : EvS cfgS 108 [.ref a 0 0, .d (.int .i64 f), .d (.str old), .d (.bool true)] S fun o S' => (∃ v, o = .ret v) ∧ KeepL S S' ∧ ∃ A' B', Tree S' a m A' B' (zU u f old) ∧ ∀ y, y ≠ f → A' y = A y ∧ B' y = B y := by
 obtain ⟨e, he, hs, _⟩ := hM.nf
 exact EvS.weak (zr9 S a m hT hM.lj.srt k hk hM.sm f hM.kf (hM.lj.nod f) old ⟨e, he, hs⟩ true (fun h => by cases h)) fun o S' ⟨h1, h2, A', B', h3, h4⟩ => ⟨h1, h2, A', B', h3, h4 rfl⟩
theorem putE (hM : Mid k u f d old s ino) (hk : k < 200000) (hT : Tree S a m A B (zU u f old)) : EvS cfgS 106 [.ref a 0 0, .d (.int .i64 d), .d (.str s), .d (.int .i64 ino)] S fun o S' => (∃ v, o = .ret v) ∧ KeepL S S' ∧ ∃ A' B', Tree S' a m A' B' (putN (zU u f old) d s ino) ∧ ∀ y, y ≠ d → A' y = A y ∧ B' y = B y := by
 obtain ⟨e, he, hs, hi⟩ := hM.nf
 have hD := hM.lj.drop (i := ino) (s := old) hM.kf ⟨e, he, hs, hi⟩
 exact zzf S a m hT hD.srt (k + 1) (by omega) hM.sm.drop d (jD (by rw [(qR hM.lj.srt.uniq hM.kf).1]; exact hM.kd)) (hD.nod d) s ino
end
theorem sv3m {n : Node} {a b : V} {p : Int} : qL Try.prog 3 3 (.d (.int .i64 p)) (zD n a b) = some (zD (moved n p) a b) := by kernel_rfl
theorem z8m {i : Decidable True} : @decide True i = true := by cases i with | isTrue _ => rfl | isFalse h => exact absurd trivial h
theorem zua (S0 : zA) (a m r : Nat) (A B : Int → V) (t : List Node) (hT0 : Tree S0 a m A B t) (k0 : Nat) (hk0 : k0 < 190000) (hG : Good k0 t) (o : Opn) (hl : o.a.length < 900000) (hlb : o.b.length < 900000) (hr : S0[r]? = some (.row [ansV okN (.ts []) (.ts [])] 44)) :
  EvS cfgS 79 [.ref a 0 0, .d (encOpn o), .ref r 0 0] S0 (Res S0 a m r (wY t o)) := by
 have hk1 : k0 < 300000 := by omega
 have hk2 : k0 < 200000 := by omega
 have hlt : t.length < 400000 := Nat.lt_of_le_of_lt hG.sm.len (by omega)
 refine wJ rfl zwj ?_
 show Wp cfgS (Try.f79.body.getD .skip) ((.ref a 0 0) :: (.d (encOpn o)) :: (.ref r 0 0) :: uZ (uZ (uZ (uZ (uZ (uZ (uZ (uZ (uZ (uZ (uZ (uZ ((.tup []) :: (.tup []) :: (.tup []) :: (.tup []) :: (.tup []) :: (.tup []) :: (.tup []) :: []))))))))))))) S0 [] _
 unfold uZ
 conv => arg 2; whnf
 rw [qQ]
 have hT1 := hT0.keep (Keep.app (l := [Ob.row [.d (encOpn o)] 48]))
 simp (maxSteps:=1000000) (disch:=first|assumption|omega|rfl) only [↓gp, gc, Nat.reduceAdd, hPS, zL]
 generalize hq : wY t o = q
 unfold wY at hq
 refine z5p rfl (zf9 _ a m hT1 hG.told k0 hk1 hG.sm o.a hl) ?_ ?_
 rotate_left
 ·intro h0 S1 hK1
  rw [if_pos h0] at hq
  subst hq
  exact ⟨rfl, Res.fail h0 (Keep.app.trans hK1)⟩
 intro h0 S1 hK1
 rw [if_neg (by simp [h0])] at hq
 have hdf := jM h0
 have hK01 := Keep.app.trans hK1
 have h41 := hK1 _ _ (qK (S := S0) (o := Ob.row [.d (encOpn o)] 48))
 generalize hw : zQ t o.a = w at *
 obtain ⟨f, old, e⟩ := w
 simp only at hq hdf h0
 have hT2 := hT0.keep (hK01.trans (Keep.app (l := [Ob.row [zD (getN t f) (A f) (B f)] 32])))
 have hgn : (getN t f).names.length < 1000000 := Nat.lt_of_le_of_lt (hG.sm.gnms _) (by omega)
 have h62 := qK (S := S1) (o := Ob.row [zD (getN t f) (A f) (B f)] 32)
 have hr41 : ∀ l, rowE (S1 ++ l) S0.length 0 = some (.d (encOpn o)) := fun l => zC (qA h41)
 rcases z12 (s := old) (l := (getN t f).names) (i := 0) with ⟨f1, f2⟩ | ⟨j, hj, f1, f2⟩
 ·have hf : vR (getN t f) old = (0, false) := by unfold vR; rw [f1]
  rw [if_pos (by rw [f2]; omega)] at hq
  subst hq
  have h40 : (4 : Int) ≠ 0 := by omega
  simp (maxSteps:=1000000) (disch:=first|assumption|omega|rfl) only [↓gp, gc, Nat.reduceAdd, hPS, zagg, z32v, kV, kM, svz, sv, lv, zL, zI, z0b hT2.st trivial hgn, hf, z19, Bool.not_false, jX h40]
  exact ⟨rfl, Res.fail h40 (hK01.trans Keep.app)⟩
 rw [Nat.zero_add] at f1
 have hf : vR (getN t f) old = (((j : Nat) : Int), true) := by unfold vR; rw [f1]
 have hge := hG.ti.inv.ge2 f _ (List.getElem_mem hj)
 have hkx := hG.lj.told (List.getElem_mem hj)
 have hmem := List.getElem_mem hj
 have hne2 := fun h2 => zuc hG.lj hG.ti (List.getElem_mem hj) h2
 have hent : ∃ e ∈ (getN t f).names, e.name = old ∧ e.ino = (getN t f).names[j].ino := by
  obtain ⟨e, he, hs, hi⟩ := wW (l := (getN t f).names) (s := old) (by rw [f2]; omega)
  exact ⟨e, he, hs, hi.trans f2⟩
 rw [if_neg (by rw [f2]; omega), f2] at hq
 simp (maxSteps:=1000000) (disch:=first|assumption|omega|rfl) only [↓gp, gc, Nat.reduceAdd, hPS, zagg, z32v, kV, kM, svz, sv, lv, zL, zI, z0b hT2.st trivial hgn, hf, z19, Bool.not_true, jK, hr41]
 have hK02 := hK01.trans (Keep.app (l := [Ob.row [zD (getN t f) (A f) (B f)] 32]))
 have h42 := qA (l := [Ob.row [zD (getN t f) (A f) (B f)] 32]) h41
 generalize S1 ++ [Ob.row [zD (getN t f) (A f) (B f)] 32] = S2 at *
 refine z5p rfl (zf9 _ a m hT2 hG.told k0 hk1 hG.sm o.b hlb) ?_ ?_
 rotate_left
 ·intro h1 S3 hK3
  rw [if_pos h1] at hq
  subst hq
  exact ⟨rfl, Res.fail h1 (hK02.trans hK3)⟩
 intro h1 S3 hK3
 rw [if_neg (by simp [h1])] at hq
 have hdd := jM h1
 generalize hw2 : zQ t o.b = w2 at *
 obtain ⟨d, s, e2⟩ := w2
 simp only at hq hdd h1
 have hgd : (getN t d).names.length < 1000000 := Nat.lt_of_le_of_lt (hG.sm.gnms _) (by omega)
 have h104 := qK (S := S3) (o := Ob.row [zD (getN t d) (A d) (B d)] 32)
 simp (maxSteps:=1000000) (disch:=first|assumption|omega|rfl) only [↓gp, gc, Nat.reduceAdd, hPS, zagg, z32v, kV, kM, svz, sv, lv, zL, zI]
 have hK24 := hK3.trans (Keep.app (l := [Ob.row [zD (getN t d) (A d) (B d)] 32]))
 generalize S3 ++ [Ob.row [zD (getN t d) (A d) (B d)] 32] = S4 at *
 have hT4 := hT2.keep hK24
 have h44 := hK24 _ _ h42
 have h64 := hK24 _ _ h62
 refine jA (is := [0, 1, 2, 3, 4, 5, 6, 7, 8, 9, 10, 11, 12]) (h := 13) (by kernel_rfl) (by kernel_rfl) ?_
 have hh : (S4 ++ List.replicate 13 Ob.hole)[S4.length + 11]? = some .hole := zcf (by omega)
 have hK45 : Keep S4 (S4 ++ List.replicate 13 Ob.hole) := Keep.app
 generalize S4 ++ List.replicate 13 Ob.hole = S5 at *
 have hT5 := hT4.keep hK45
 have hra5 := hT5.row
 have hlk5 := fun x => (hT5.st.look x).2
 have hr65 := zC (hK45 _ _ h64)
 obtain ⟨id, hix, hre, _⟩ := (hT5.st.na f trivial).ix (t := 30) Try.underlying30 (by kernel_rfl) hj
 have hset := z1c (o := Ob.row [zD zM (.ts []) (.ts [])] 32) hh
 have hrs := zC hset
 have hps := fun y => qG (y := y) hset
 simp (maxSteps:=1000000) (disch:=first|assumption|omega|rfl) only [List.replicate_zero, eq_self, gd, ga, Nat.reduceAdd, ↓gq, hPS, List.append_nil, qP, qI, z8t, z8q z32v kV, zci, vB, wX, hra5, hr65, lv6, hix, hre, le1, hlk5, hrs, hps, sv]
 refine ⟨hh, fun _ => by kernel_rfl, ?_⟩
 refine ⟨by kernel_rfl, ?_⟩
 have hK46 : Keep S4 ((S5.set (S4.length + 11) (.row [zD zM (.ts []) (.ts [])] 32)).set (S4.length + 11) (.row [zD (getN t (getN t f).names[j].ino) (A (getN t f).names[j].ino) (B (getN t f).names[j].ino)] 32)) := (hK45.set (by omega)).set (by omega)
 have h126 : ((S5.set (S4.length + 11) (.row [zD zM (.ts []) (.ts [])] 32)).set (S4.length + 11) (.row [zD (getN t (getN t f).names[j].ino) (A (getN t f).names[j].ino) (B (getN t f).names[j].ino)] 32))[S4.length + 11]? = some (.row [zD (getN t (getN t f).names[j].ino) (A (getN t f).names[j].ino) (B (getN t f).names[j].ino)] 32) := z1c hset
 generalize (S5.set (S4.length + 11) (.row [zD zM (.ts []) (.ts [])] 32)).set (S4.length + 11) (.row [zD (getN t (getN t f).names[j].ino) (A (getN t f).names[j].ino) (B (getN t f).names[j].ino)] 32) = S6 at *
 generalize hx : (getN t f).names[j].ino = x at *
 have hxi := z0e hkx
 have hT6 := hT4.keep hK46
 have h46 := zC (hK46 _ _ h44)
 have h66 := zC (hK46 _ _ h64)
 have h106 := zC (hK46 _ _ h104)
 have hr126 := zC h126
 have hrr6 := ((hK02.trans hK24).trans hK46) _ _ hr
 have hK06 := (hK02.trans hK24).trans hK46
 have hMid0 : Mid (k0 + 2) t f d old s x := ⟨hG.lj, hdf, hdd, hent, hG.sm.mono (by omega)⟩
 unfold z3e at hq
 rcases z12 (s := s) (l := (getN t d).names) (i := 0) with ⟨g1, g2⟩ | ⟨k, hk, g1, g2⟩
 ·have hfd : vR (getN t d) s = (0, false) := by unfold vR; rw [g1]
  rw [g2, if_neg (by omega)] at hq
  simp (maxSteps:=1000000) (disch:=first|assumption|omega|rfl) only [↓gp, gc, Nat.reduceAdd, hPS, h106, lv, kM, z0b hT6.st trivial hgd, hfd]
  refine jA (is := [0, 1, 2, 3, 4, 5, 6, 7, 8, 9, 10, 11]) (h := 0) (by kernel_rfl) (by kernel_rfl) ?_
  simp (maxSteps:=1000000) (disch:=first|assumption|omega|rfl) only [List.replicate_zero, eq_self, gd, ga, Nat.reduceAdd, ↓gq, hPS, List.append_nil, h106, hr126, lv0, lv6]
  refine ⟨by kernel_rfl, ?_⟩
  have neg : ¬ (0 : Int) ≤ -1 := by omega
  by_cases c1 : (getN t x).kind = 2
  ·have hxf := hne2 c1
   have hne : renamed t f old d s x (-1) (getN t x).kind = qY (putN (zU t f old) d s x) (moved (getN (putN (zU t f old) d s x) x) d) := by
    unfold renamed
    simp only [if_neg neg, if_pos c1]
   simp (maxSteps:=1000000) (disch:=first|assumption|omega|rfl) only [↓gp, gc, Nat.reduceAdd, hPS, h106, hr126, lv0, lv1, c1, z8m, hxi, jD hdd]
   refine jB rfl (zrg _ a m hT6 hlt d x) ?_ ?_
   ·rintro v S7 ⟨hS, hv⟩
    have hS := hS.symm
    subst hS
    cases hv
    cases hb : z0c t x (t.length + 1) d with
    | true =>
     rw [if_pos ⟨c1, hb⟩] at hq
     subst hq
     have h9 : (9 : Int) ≠ 0 := by omega
     simp (maxSteps:=1000000) (disch:=first|assumption|omega|rfl) only [↓gp, gc, Nat.reduceAdd, hPS, jX h9]
     exact ⟨rfl, Res.fail h9 hK06⟩
    | false =>
     have hxd : x ≠ d := fun hh => by rw [hh] at hb; simp [z0c] at hb
     rw [if_neg (fun hh => by rw [hb] at hh; cases hh.2), if_neg (fun hh => neg hh.1), if_neg (fun hh => neg hh.1), hne] at hq
     simp (maxSteps:=1000000) (disch:=first|assumption|omega|rfl) only [↓gp, gc, Nat.reduceAdd, hPS, jK, h66, h106, hr126, lv0, lv1, c1, z8m, hxi, jD hdf, jD hdd]
     refine jB rfl (zue hMid0 (by omega) hT6) ?_ ?_
     ·rintro v S7 ⟨_, hK7, A7, B7, hT7, hA7⟩
      have h107 := zC (hK7 _ _ _ (by decide) (by decide) (hK46 _ _ h104))
      have h127 := hK7 _ _ _ (by decide) (by decide) h126
      have hr127 := zC h127
      have hrr7 := hK7 _ _ _ (by decide) (by decide) hrr6
      simp (maxSteps:=1000000) (disch:=first|assumption|omega|rfl) only [↓gp, gc, Nat.reduceAdd, hPS, h107, hr127, lv0, hxi, jD hdd]
      refine jB rfl (putE hMid0 (by omega) hT7) ?_ ?_
      ·rintro v S8 ⟨_, hK8, A8, B8, hT8, hA8⟩
       have h108 := zC (hK8 _ _ _ (by decide) (by decide) (hK7 _ _ _ (by decide) (by decide) (hK46 _ _ h104)))
       have h128 := hK8 _ _ _ (by decide) (by decide) h127
       have hr128 := zC h128
       have hpr128 := fun y => qG (y := y) h128
       have hrr8 := hK8 _ _ _ (by decide) (by decide) hrr7
       have hT9 := hT8.other (o := .row [zD (moved (getN t x) d) (A x) (B x)] 32) h128 (by decide) (by decide) (by decide)
       have h129 : (S8.set (S4.length + 11) (.row [zD (moved (getN t x) d) (A x) (B x)] 32))[S4.length + 11]? = some (.row [zD (moved (getN t x) d) (A x) (B x)] 32) := z1c h128
       have hrr9 : (S8.set (S4.length + 11) (.row [zD (moved (getN t x) d) (A x) (B x)] 32))[r]? = some (.row [ansV okN (.ts []) (.ts [])] 44) := by
        rw [List.getElem?_set_ne]
        ·exact hrr8
        ·rintro rfl
         have q := h128.symm.trans hrr8
         simp only [Option.some.injEq, Ob.row.injEq] at q
         exact absurd q.2 (by decide)
       simp (maxSteps:=1000000) (disch:=first|assumption|omega|rfl) only [↓gp, gc, Nat.reduceAdd, hPS, h108, hr128, hpr128, lv0, lv1, c1, z8m, jD hdd, sv3m]
       have hK89 : KeepR r S8 (S8.set (S4.length + 11) (.row [zD (moved (getN t x) d) (A x) (B x)] 32)) := KeepR.refl.setO h128 (by decide)
       generalize S8.set (S4.length + 11) (.row [zD (moved (getN t x) d) (A x) (B x)] 32) = S9 at *
       have hr129 := zC h129
       have hra9 := hT9.row
       have hgx : getN (putN (zU t f old) d s x) x = getN t x := by
        rw [zgw (show Srt (zU t f old) from hG.lj.srt.with).uniq (by rw [(qR hG.lj.srt.uniq hdf).1]; exact hdd) hxd, vU hG.lj.srt.uniq hdf, if_neg hxf]
       have hA : A8 x = A x ∧ B8 x = B x := ⟨(hA8 x hxd).1.trans (hA7 x hxf).1, (hA8 x hxd).2.trans (hA7 x hxf).2⟩
       have hda := hT9.st.da x trivial
       have hna := hT9.st.na x trivial
       rw [hgx, hA.1] at hda
       rw [hgx, hA.2] at hna
       obtain ⟨o9, hup, hT10, hK10, _⟩ := hT9.renewK (x := x) (n := moved (getN t x) d) (p := A x) (q := B x) (S' := S9) hG.lj.srt.with.with hxi (fun j q hj _ _ => hj) hda hna (fun i hi => .inl (by rw [hA.1]; exact hi)) (fun i hi => .inl (by rw [hA.2]; exact hi))
       have hmi : (moved (getN t x) d).ino = x := hxi
       refine jA (is := [0, 1, 2, 3, 4, 5, 6, 7]) (h := 0) (by kernel_rfl) (by kernel_rfl) ?_
       simp (maxSteps:=1000000) (disch:=first|assumption|omega|rfl) only [List.replicate_zero, eq_self, gd, ga, Nat.reduceAdd, ↓gq, hPS, List.append_nil, qP, qI, jG, vB, wX, hra9, hr129, lv, lv0, hmi, hup, Option.map_some]
       refine ⟨fun _ => by kernel_rfl, ?_⟩
       refine ⟨by kernel_rfl, ?_⟩
       rw [hgx] at hq
       subst hq
       simp (maxSteps:=1000000) (disch:=first|assumption|omega|rfl) only [↓gp, gc, Nat.reduceAdd, hPS]
       exact ⟨rfl, _, rfl, Res.done (v5 := .ts []) (v6 := .ts []) rfl hT10 (hK10 _ _ _ hrr9) vO (.inl ⟨rfl, rfl⟩) ((((hK06.toR.trans hK7.toR).trans hK8.toR).trans hK89).trans (fun j ys e _ _ h => hK10 _ _ _ h))⟩
      ·rintro v S8 ⟨⟨w, hv⟩, _⟩
       cases hv
     ·rintro v S7 ⟨⟨w, hv⟩, _⟩
      cases hv
   ·rintro v S7 ⟨_, hv⟩
    cases hv
  ·have hne : renamed t f old d s x (-1) (getN t x).kind = putN (zU t f old) d s x := by
    unfold renamed
    simp only [if_neg neg, if_neg c1]
   rw [if_neg (fun hh => c1 hh.1), if_neg (fun hh => neg hh.1), if_neg (fun hh => neg hh.1), hne] at hq
   simp (maxSteps:=1000000) (disch:=first|assumption|omega|rfl) only [↓gp, gc, Nat.reduceAdd, hPS, jK, h66, h106, hr126, lv0, lv1, hxi, jD hdf, jD hdd]
   refine jB rfl (zue hMid0 (by omega) hT6) ?_ ?_
   ·rintro v S7 ⟨_, hK7, A7, B7, hT7, hA7⟩
    have h107 := zC (hK7 _ _ _ (by decide) (by decide) (hK46 _ _ h104))
    have h127 := hK7 _ _ _ (by decide) (by decide) h126
    have hr127 := zC h127
    have hrr7 := hK7 _ _ _ (by decide) (by decide) hrr6
    simp (maxSteps:=1000000) (disch:=first|assumption|omega|rfl) only [↓gp, gc, Nat.reduceAdd, hPS, h107, hr127, lv0, hxi, jD hdd]
    refine jB rfl (putE hMid0 (by omega) hT7) ?_ ?_
    ·rintro v S8 ⟨_, hK8, A8, B8, hT8, hA8⟩
     have h128 := hK8 _ _ _ (by decide) (by decide) h127
     have hr128 := zC h128
     have hrr8 := hK8 _ _ _ (by decide) (by decide) hrr7
     subst hq
     simp (maxSteps:=1000000) (disch:=first|assumption|omega|rfl) only [↓gp, gc, Nat.reduceAdd, hPS, hr128, lv1]
     exact ⟨rfl, _, rfl, Res.done (v5 := .ts []) (v6 := .ts []) rfl hT8 hrr8 vO (.inl ⟨rfl, rfl⟩) ((hK06.toR.trans hK7.toR).trans hK8.toR)⟩
    ·rintro v S8 ⟨⟨w, hv⟩, _⟩
     cases hv
   ·rintro v S7 ⟨⟨w, hv⟩, _⟩
    cases hv
 ·rw [Nat.zero_add] at g1
  have hfd : vR (getN t d) s = (((k : Nat) : Int), true) := by unfold vR; rw [g1]
  have hgy := hG.ti.inv.ge2 d _ (List.getElem_mem hk)
  have h0y : 0 ≤ qV (getN t d).names s := by rw [g2]; omega
  rw [g2] at hq
  obtain ⟨id7, hix7, hre7, _⟩ := (hT6.st.na d trivial).ix (t := 30) Try.underlying30 (by kernel_rfl) hk
  have h0k : 0 ≤ (getN t d).names[k].ino := by omega
  simp (maxSteps:=1000000) (disch:=first|assumption|omega|rfl) only [↓gp, gc, Nat.reduceAdd, hPS, h106, lv, kM, z0b hT6.st trivial hgd, hfd]
  refine jA (is := [0, 1, 2, 3, 4, 5, 6, 7, 8, 9, 10, 11]) (h := 0) (by kernel_rfl) (by kernel_rfl) ?_
  simp (maxSteps:=1000000) (disch:=first|assumption|omega|rfl) only [List.replicate_zero, eq_self, gd, ga, Nat.reduceAdd, ↓gq, hPS, List.append_nil, h106, hr126, lv0, lv6, hix7, hre7, le1, hxi]
  refine ⟨by kernel_rfl, ?_⟩
  by_cases c0 : (getN t d).names[k].ino = x
  ·rw [if_pos c0] at hq
   subst hq
   simp (maxSteps:=1000000) (disch:=first|assumption|omega|rfl) only [↓gp, gc, Nat.reduceAdd, hPS, c0, z8m]
   exact ⟨rfl, _, rfl, Res.done (v5 := .ts []) (v6 := .ts []) rfl hT6 hrr6 vO (.inl ⟨rfl, rfl⟩) hK06.toR⟩
  rw [if_neg c0] at hq
  have lose : (getN t (getN t d).names[k].ino).kind ≠ 2 → Mid (k0 + 2) (kO (zU t d s) (getN t d).names[k].ino) f d old s x := fun hy => by
   obtain ⟨e0, he0, hs0, hi0⟩ := hent
   have := zhz (k := k0) (f := f) (d := d) (old := old) (s := s) (ino := x) hG.lj hG.ti hG.sm hdf hdd e0 he0 hs0 hi0 (by rw [g2]; exact c0) h0y (by rw [g2]; exact hy)
   rw [g2] at this
   exact this
  generalize hyy : (getN t d).names[k].ino = y at *
  by_cases c1 : (getN t x).kind = 2
  ·have hxf := hne2 c1
   simp (maxSteps:=1000000) (disch:=first|assumption|omega|rfl) only [↓gp, gc, Nat.reduceAdd, hPS, h106, hr126, lv0, lv1, hxi, jD hdd]
   refine jB rfl (zrg _ a m hT6 hlt d x) ?_ ?_
   ·rintro v S7 ⟨hS, hv⟩
    have hS := hS.symm
    subst hS
    cases hv
    cases hb : z0c t x (t.length + 1) d with
    | true =>
     rw [if_pos ⟨c1, hb⟩] at hq
     subst hq
     have h9 : (9 : Int) ≠ 0 := by omega
     simp (maxSteps:=1000000) (disch:=first|assumption|omega|rfl) only [↓gp, gc, Nat.reduceAdd, hPS, jX h9]
     exact ⟨rfl, Res.fail h9 hK06⟩
    | false =>
     rw [if_neg (fun hh => by rw [hb] at hh; cases hh.2), if_pos ⟨h0k, c1⟩] at hq
     subst hq
     have h5 : (5 : Int) ≠ 0 := by omega
     simp (maxSteps:=1000000) (disch:=first|assumption|omega|rfl) only [↓gp, gc, Nat.reduceAdd, hPS, jK]
     refine jA (is := [0, 1, 2, 3, 4, 5, 6, 7, 8, 9, 10, 11, 12]) (h := 13) (by kernel_rfl) (by kernel_rfl) ?_
     have hh7 : (S6 ++ List.replicate 13 Ob.hole)[S6.length + 11]? = some .hole := zcf (by omega)
     have hK67 : Keep S6 (S6 ++ List.replicate 13 Ob.hole) := Keep.app
     generalize S6 ++ List.replicate 13 Ob.hole = S7 at *
     have hT7 := hT6.keep hK67
     have hra7 := hT7.row
     have hlk7 := fun x => (hT7.st.look x).2
     have hr107 := zC (hK67 _ _ (hK46 _ _ h104))
     obtain ⟨id9, hix9, hre9, _⟩ := (hT7.st.na d trivial).ix (t := 30) Try.underlying30 (by kernel_rfl) hk
     have hset7 := z1c (o := Ob.row [zD zM (.ts []) (.ts [])] 32) hh7
     have hrs7 := zC hset7
     have hps7 := fun y => qG (y := y) hset7
     simp (maxSteps:=1000000) (disch:=first|assumption|omega|rfl) only [List.replicate_zero, eq_self, gd, ga, Nat.reduceAdd, ↓gq, hPS, List.append_nil, qP, qI, z8t, z8q z32v kV, zci, vB, wX, hra7, hr107, lv6, hix9, hre9, le1, hyy, hlk7, hrs7, hps7, sv]
     refine ⟨hh7, fun _ => by kernel_rfl, ?_⟩
     refine ⟨by kernel_rfl, ?_⟩
     have hK68 : Keep S6 ((S7.set (S6.length + 11) (.row [zD zM (.ts []) (.ts [])] 32)).set (S6.length + 11) (.row [zD (getN t y) (A y) (B y)] 32)) := (hK67.set (by omega)).set (by omega)
     have h158 : ((S7.set (S6.length + 11) (.row [zD zM (.ts []) (.ts [])] 32)).set (S6.length + 11) (.row [zD (getN t y) (A y) (B y)] 32))[S6.length + 11]? = some (.row [zD (getN t y) (A y) (B y)] 32) := z1c hset7
     generalize (S7.set (S6.length + 11) (.row [zD zM (.ts []) (.ts [])] 32)).set (S6.length + 11) (.row [zD (getN t y) (A y) (B y)] 32) = S8 at *
     have hT8 := hT6.keep hK68
     have hr158 := zC h158
     have hr128 := zC (hK68 _ _ h126)
     have hr108 := zC (hK68 _ _ (hK46 _ _ h104))
     have hr68 := zC (hK68 _ _ (hK46 _ _ h64))
     have hrr8 := hK68 _ _ hrr6
     simp (maxSteps:=1000000) (disch:=first|assumption|omega|rfl) only [↓gp, gc, Nat.reduceAdd, hPS, hr128, lv1, jX h5]
     exact ⟨rfl, Res.fail h5 (hK06.trans hK68)⟩
   ·rintro v S7 ⟨_, hv⟩
    cases hv
  ·rw [if_neg (fun hh => c1 hh.1), if_neg (fun hh => c1 hh.2)] at hq
   simp (maxSteps:=1000000) (disch:=first|assumption|omega|rfl) only [↓gp, gc, Nat.reduceAdd, hPS, h106, hr126, lv0, lv1, hxi, jD hdd, jK]
   refine jA (is := [0, 1, 2, 3, 4, 5, 6, 7, 8, 9, 10, 11, 12]) (h := 13) (by kernel_rfl) (by kernel_rfl) ?_
   have hh7 : (S6 ++ List.replicate 13 Ob.hole)[S6.length + 11]? = some .hole := zcf (by omega)
   have hK67 : Keep S6 (S6 ++ List.replicate 13 Ob.hole) := Keep.app
   generalize S6 ++ List.replicate 13 Ob.hole = S7 at *
   have hT7 := hT6.keep hK67
   have hra7 := hT7.row
   have hlk7 := fun x => (hT7.st.look x).2
   have hr107 := zC (hK67 _ _ (hK46 _ _ h104))
   obtain ⟨id9, hix9, hre9, _⟩ := (hT7.st.na d trivial).ix (t := 30) Try.underlying30 (by kernel_rfl) hk
   have hset7 := z1c (o := Ob.row [zD zM (.ts []) (.ts [])] 32) hh7
   have hrs7 := zC hset7
   have hps7 := fun y => qG (y := y) hset7
   simp (maxSteps:=1000000) (disch:=first|assumption|omega|rfl) only [List.replicate_zero, eq_self, gd, ga, Nat.reduceAdd, ↓gq, hPS, List.append_nil, qP, qI, z8t, z8q z32v kV, zci, vB, wX, hra7, hr107, lv6, hix9, hre9, le1, hyy, hlk7, hrs7, hps7, sv]
   refine ⟨hh7, fun _ => by kernel_rfl, ?_⟩
   refine ⟨by kernel_rfl, ?_⟩
   have hK68 : Keep S6 ((S7.set (S6.length + 11) (.row [zD zM (.ts []) (.ts [])] 32)).set (S6.length + 11) (.row [zD (getN t y) (A y) (B y)] 32)) := (hK67.set (by omega)).set (by omega)
   have h158 : ((S7.set (S6.length + 11) (.row [zD zM (.ts []) (.ts [])] 32)).set (S6.length + 11) (.row [zD (getN t y) (A y) (B y)] 32))[S6.length + 11]? = some (.row [zD (getN t y) (A y) (B y)] 32) := z1c hset7
   generalize (S7.set (S6.length + 11) (.row [zD zM (.ts []) (.ts [])] 32)).set (S6.length + 11) (.row [zD (getN t y) (A y) (B y)] 32) = S8 at *
   have hT8 := hT6.keep hK68
   have hr158 := zC h158
   have hr128 := zC (hK68 _ _ h126)
   have hr108 := zC (hK68 _ _ (hK46 _ _ h104))
   have hr68 := zC (hK68 _ _ (hK46 _ _ h64))
   have hrr8 := hK68 _ _ hrr6
   by_cases c2 : (getN t y).kind = 2
   ·rw [if_pos ⟨h0k, c2⟩] at hq
    subst hq
    have h7 : (7 : Int) ≠ 0 := by omega
    simp (maxSteps:=1000000) (disch:=first|assumption|omega|rfl) only [↓gp, gc, Nat.reduceAdd, hPS, hr128, hr158, lv1, jK, jX h7]
    exact ⟨rfl, Res.fail h7 (hK06.trans hK68)⟩
   rw [if_neg (fun hh => c2 hh.2)] at hq
   have hM := lose c2
   have hents : ∃ e ∈ (getN t d).names, e.name = s := zi6 (i := 0) (by rw [Nat.zero_add]; exact g1) hk
   have hky : (getN t y).kind ≠ 0 := by rw [← hyy]; exact hG.lj.told (List.getElem_mem hk)
   have hdr := zx8 S8 a m hT8 hG.lj.srt k0 hk2 hG.sm d hdd (hG.lj.nod d) s hents false (fun _ => by rw [g2]; exact z0e (by rw [(qR hG.lj.srt.uniq hdd).1]; exact hky))
   rw [g2] at hdr
   have hne : renamed t f old d s x y (getN t x).kind = putN (zU (kO (zU t d s) y) f old) d s x := by
    unfold renamed
    simp only [if_pos h0k, if_neg c1]
   rw [hne] at hq
   subst hq
   simp (maxSteps:=1000000) (disch:=first|assumption|omega|rfl) only [↓gp, gc, Nat.reduceAdd, hPS, hr128, hr158, hr108, lv0, lv1, jD hdd, jK]
   refine jB rfl hdr ?_ ?_
   ·rintro v S9 ⟨_, hK9, A9, B9, hT9⟩
    have h69 := hK9 _ _ _ (by decide) (by decide) (hK68 _ _ (hK46 _ _ h64))
    have hr69 := zC h69
    have h109 := hK9 _ _ _ (by decide) (by decide) (hK68 _ _ (hK46 _ _ h104))
    have h129 := hK9 _ _ _ (by decide) (by decide) (hK68 _ _ h126)
    have hrr9 := hK9 _ _ _ (by decide) (by decide) hrr8
    simp (maxSteps:=1000000) (disch:=first|assumption|omega|rfl) only [↓gp, gc, Nat.reduceAdd, hPS, hr69, lv0, jD hdf]
    refine jB rfl (zue hM (by omega) hT9) ?_ ?_
    ·rintro v S10 ⟨_, hK10, A10, B10, hT10, _⟩
     have h1010 := hK10 _ _ _ (by decide) (by decide) h109
     have h1210 := hK10 _ _ _ (by decide) (by decide) h129
     have hr1010 := zC h1010
     have hr1210 := zC h1210
     have hrr10 := hK10 _ _ _ (by decide) (by decide) hrr9
     simp (maxSteps:=1000000) (disch:=first|assumption|omega|rfl) only [↓gp, gc, Nat.reduceAdd, hPS, hr1010, hr1210, lv0, hxi, jD hdd]
     refine jB rfl (putE hM (by omega) hT10) ?_ ?_
     ·rintro v S11 ⟨_, hK11, A11, B11, hT11, _⟩
      have hr1211 := zC (hK11 _ _ _ (by decide) (by decide) h1210)
      have hrr11 := hK11 _ _ _ (by decide) (by decide) hrr10
      simp (maxSteps:=1000000) (disch:=first|assumption|omega|rfl) only [↓gp, gc, Nat.reduceAdd, hPS, hr1211, lv1]
      exact ⟨rfl, _, rfl, Res.done (v5 := .ts []) (v6 := .ts []) rfl hT11 hrr11 vO (.inl ⟨rfl, rfl⟩) ((((hK06.trans hK68).toR.trans hK9.toR).trans hK10.toR).trans hK11.toR)⟩
     ·rintro v S11 ⟨⟨w, hv⟩, _⟩
      cases hv
    ·rintro v S10 ⟨⟨w, hv⟩, _⟩
     cases hv
   ·rintro v S9 ⟨⟨w, hv⟩, _⟩
    cases hv
theorem sz5 : (sz Try.prog 5).isSome = true := by kernel_rfl
theorem zok5 : zOk Try.prog 5 = true := by kernel_rfl
theorem zlc {n : Nat} (h : n ≤ 1000000) : room Try.prog 5 n = true := z38 (P := Try.prog) (e := 5) rfl (by decide) h
theorem q2b {S : zA} : bs1 Try.prog S 29 (.d (.int .u8 0)) = some (.val (.ts [.int .u8 0]) S 0) := by kernel_rfl
theorem sv5 {n : Node} {a b v : V} (h1 : qD Try.prog 29 v = true) (h2 : v.cells = [v]) : qL Try.prog 29 5 v (zD n a b) = some (zD n v b) := zrz h1 h2
theorem sv4m {n : Node} {a b : V} {y : Int} : qL Try.prog 3 4 (.d (.int .i64 y)) (zD n a b) = some (zD { n with size := y } a b) := by kernel_rfl
theorem zvl {S : zA} {v : V} {l : List UInt8} (h : SlE encU S v 5 l) : qD Try.prog 29 v = true := by
 rcases h with ⟨rfl, _⟩ | ⟨id, ys, rfl, _⟩ <;> kernel_rfl
theorem zwa {S : zA} {v : V} {l : List UInt8} (h : SlE encU S v 5 l) (hl : l.length < 900000) : ∃ v' S' c, zW Try.prog S 29 29 v (.ts [.int .u8 0]) = some (v', S', c) ∧ SlE encU S' v' 5 (l ++ [0]) ∧ (∀ (j : Nat) (o : Ob), S[j]? = some o → idOf v ≠ some j → S'[j]? = some o) ∧ idOf v' = some S.length ∧ S.length ≤ S'.length := by
 have src1 : srcV Try.prog S 5 29 (.ts [.int .u8 0]) = some [.d (.int .u8 0)] := by kernel_rfl
 rcases h with ⟨rfl, rfl⟩ | ⟨id, ys, rfl, h1⟩
 ·refine ⟨.rs S.length 0 1, S ++ [.row [.d (.int .u8 0)] 5], 2, ?_, .inr ⟨S.length, [], rfl, by simp⟩, fun j o hj _ => Keep.app _ _ hj, rfl, by simp⟩
  have hr := zlc (n := 0 + (0 + 1)) (by omega)
  simp only [zW, Try.underlying29, src1, zok5, if_true, List.all_nil, List.length_nil, hr, Bool.and_self, List.map_nil, List.nil_append]
 ·have hid := zZ h1
  have htk : ((l ++ ys).map fun a => V.d (encU a)).take l.length = l.map fun a => V.d (encU a) := by rw [← List.map_take, List.take_append_of_le_length (Nat.le_refl _), List.take_length]
  refine ⟨.rs S.length 0 (l.length + 1), S.set id .dead ++ [.row (l.map (fun a => V.d (encU a)) ++ [.d (.int .u8 0)]) 5], 3, ?_, .inr ⟨S.length, [], by simp, ?_⟩, ?_, rfl, by simp⟩
  ·have hr := zlc (n := l.length + (0 + 1)) (by omega)
   have hlen : ((l ++ ys).map fun a => V.d (encU a)).length = l.length + ys.length := by simp
   have h2 : l.length ≤ l.length + ys.length := by omega
   simp only [zW, Try.underlying29, src1, zok5, if_true, h1, hlen, hr, h2, htk, List.length_nil, decide_true, Bool.and_self, Nat.zero_add]
  ·rw [List.getElem?_append_right (by simp)]
   simp
  ·intro j o hj hn
   have hjl := zZ hj
   rw [List.getElem?_append_left (by simpa using hjl), List.getElem?_set_ne]
   ·exact hj
   ·rintro rfl; exact hn rfl
theorem znf {S : zA} {v : V} {l : List UInt8} {k : Nat} (h : SlE encU S v 5 l) (hk : k ≤ l.length) : ∃ va, qT Try.prog S 29 v none (some (.d (.int .i64 k))) = some va ∧ SlE encU S va 5 (l.take k) ∧ (∀ i, idOf va = some i → idOf v = some i) := by
 rcases h with ⟨rfl, rfl⟩ | ⟨id, ys, rfl, h1⟩
 ·have : k = 0 := by simpa using hk
  subst this
  refine ⟨.ts [], ?_, .inl ⟨rfl, rfl⟩, fun i hi => hi⟩
  have h1 := bnd (y := ([] : List D).length) (d := ([] : List D).length) (k := 0) (by simp)
  simp only [qT, Try.underlying29, h1, wO, List.all_nil, sz5, Bool.and_self, if_true]
  rfl
 ·refine ⟨.rs id 0 k, ?_, .inr ⟨id, l.drop k ++ ys, by rw [List.length_take, Nat.min_eq_left hk], by rw [← List.append_assoc, List.take_append_drop]; exact h1⟩, fun i hi => hi⟩
  have h3 : rowT S id 5 = true := by simp only [rowT, h1, beq_self_eq_true]
  simp only [qT, Try.underlying29, bnd hk, wO, h3, sz5, Bool.and_self, if_true, Nat.zero_add, Nat.sub_zero]
def sizedB (l : List UInt8) (k : Nat) : List UInt8 := (l ++ List.replicate (k - l.length) 0).take k
theorem z4d {l : List UInt8} {k : Nat} : (sizedB l k).length = k := by
 unfold sizedB
 rw [List.length_take, List.length_append, List.length_replicate]
 omega
theorem zs0 (S0 : zA) (n : Node) (va vb x0 x3 : V) (size : Nat) (hsz : size ≤ 34304) (i2 i4 : Nat) (h24 : i2 ≠ i4) (hi2 : S0.length ≤ i2) (hi4 : S0.length ≤ i4) (z : V) (R : Post) : ∀ (k : Nat) (l : List UInt8) (S : zA) (v : V) (g5 g6 g7 g8 g9 gP gQ gM gF gD gG gH gC gA gB gK gE gL : V), size - l.length = k → l.length ≤ 40000 → SlE encU S v 5 l → S[i2]? = some (.row [zD n v vb] 32) → S[i4]? = some (.row [z] 32) → (∀ (j : Nat) (o : Ob), S0[j]? = some o → idOf va ≠ some j → S[j]? = some o) → (∀ i, idOf v = some i → idOf va = some i ∨ S0.length ≤ i) → S0.length ≤ S.length →
 (∀ S v g5 g6 g7 g8 g9 gP gQ gM gF gD gG gH gC gA gB gK gE gL, SlE encU S v 5 (l ++ List.replicate (size - l.length) 0) → S[i2]? = some (.row [zD n v vb] 32) → S[i4]? = some (.row [z] 32) → (∀ (j : Nat) (o : Ob), S0[j]? = some o → idOf va ≠ some j → S[j]? = some o) → (∀ i, idOf v = some i → idOf va = some i ∨ S0.length ≤ i) → S0.length ≤ S.length → R (.exit 0) (x0 :: (.d (.int .i64 size)) :: (.ref i2 0 0) :: x3 :: (.ref i4 0 0) :: g5 :: g6 :: g7 :: g8 :: g9 :: gP :: gQ :: gM :: gF :: gD :: gG :: gH :: gC :: gA :: gB :: gK :: gE :: gL :: []) S []) →
 Wp cfgS (.loop (lpOf (Try.f110.body.getD .skip) 0)) (x0 :: (.d (.int .i64 size)) :: (.ref i2 0 0) :: x3 :: (.ref i4 0 0) :: g5 :: g6 :: g7 :: g8 :: g9 :: gP :: gQ :: gM :: gF :: gD :: gG :: gH :: gC :: gA :: gB :: gK :: gE :: gL :: []) S [] R := by
 intro k
 induction k with
 | zero =>
  intro l S v g5 g6 g7 g8 g9 gP gQ gM gF gD gG gH gC gA gB gK gE gL hk hl hv h2 h4 hf hi hS hR
  have hr2 := zC h2
  have hlen := hv.len (t := 29) Try.underlying29
  have hge : ¬ (l.length : Int) < (size : Int) := by omega
  rw [qQ]
  refine qC ?_
  conv => arg 2; whnf
  simp (maxSteps:=1000000) (disch:=first|assumption|omega|rfl) only [↓gp, gc, Nat.reduceAdd, hPS, hr2, lv5, hlen]
  exact hR S v _ _ _ _ _ _ _ _ _ _ _ _ _ _ _ _ _ _ (by rw [hk, List.replicate_zero, List.append_nil]; exact hv) h2 h4 hf hi hS
 | succ k ih =>
  intro l S v g5 g6 g7 g8 g9 gP gQ gM gF gD gG gH gC gA gB gK gE gL hk hl hv h2 h4 hf hi hS hR
  have hr2 := zC h2
  have hlen := hv.len (t := 29) Try.underlying29
  have hge : (l.length : Int) < (size : Int) := by omega
  obtain ⟨v', S', c, happ, hv', hf', hid, hSl⟩ := zwa hv (by omega)
  have notv : ∀ (j : Nat) (ys : List V), S[j]? = some (.row ys 32) → idOf v ≠ some j := fun j ys hj hh => by
   obtain ⟨zs, q⟩ := hv.row hh
   rw [hj] at q; cases q
  have h2' := hf' _ _ h2 (notv _ _ h2)
  have h4' := hf' _ _ h4 (notv _ _ h4)
  have hr2' := zC h2'
  have hpr2 := fun y => qG (y := y) h2'
  have hst := sv5 (n := n) (a := v) (b := vb) (zvl hv') hv'.cells
  have hlt2 := zZ h2
  rw [qQ]
  refine qC ?_
  conv => arg 2; whnf
  simp (maxSteps:=1000000) (disch:=first|assumption|omega|rfl) only [↓gp, gc, Nat.reduceAdd, hPS, hr2, lv5, hlen, q2b, happ, hr2', hst, hpr2]
  refine ih (l ++ [0]) _ v' _ _ _ _ _ _ _ _ _ _ _ _ _ _ _ _ _ _ (by rw [List.length_append]; simp; omega) (by rw [List.length_append]; simp; omega) ?_ (kD h2') (by rw [List.getElem?_set_ne h24]; exact h4') ?_ (fun i hi => by rw [hid] at hi; cases hi; exact .inr hS) (by rw [List.length_set]; omega) ?_
  ·refine hv'.frame2 fun j o hj hi => ?_
   rw [hid] at hi
   cases hi
   rw [List.getElem?_set_ne (by omega)]
   exact hj
  ·intro j o hj hn
   have hjl := zZ hj
   have h1 := hf j o hj hn
   rw [List.getElem?_set_ne (by omega)]
   refine hf' j o h1 fun hh => ?_
   rcases hi _ hh with h3 | h3
   ·exact hn h3
   ·omega
  ·intro S v g5 g6 g7 g8 g9 gP gQ gM gF gD gG gH gC gA gB gK gE gL h1
   refine hR S v _ _ _ _ _ _ _ _ _ _ _ _ _ _ _ _ _ _ ?_
   have e : l ++ [0] ++ List.replicate (size - (l ++ [0]).length) (0 : UInt8) = l ++ List.replicate (size - l.length) 0 := by
    rw [List.length_append, List.length_singleton, hk, show size - (l.length + 1) = k by omega, List.append_assoc]
    rfl
   rw [← e]; exact h1
theorem zrr (S0 : zA) (n : Node) (va vb : V) (hda : SlE encU S0 va 5 n.data) (hnb : SlE zJ S0 vb 88 n.names) (hnl : n.data.length ≤ 34304) (size : Nat) (hsz : size ≤ 34304) :
  EvS cfgS 110 [zD n va vb, .d (.int .i64 size)] S0 fun o S => ∃ v', o = .ret (zD { n with size := size } v' vb) ∧ SlE encU S v' 5 (sizedB n.data size) ∧ (∀ (j : Nat) (q : Ob), S0[j]? = some q → idOf va ≠ some j → S[j]? = some q) ∧ (∀ i, idOf v' = some i → idOf va = some i ∨ S0.length ≤ i) ∧ S0.length ≤ S.length := by
 refine wJ rfl zte ?_
 show Wp cfgS (Try.f110.body.getD .skip) ((zD n va vb) :: (.d (.int .i64 size)) :: uZ (uZ ((.tup []) :: []))) S0 [] _
 unfold uZ
 conv => arg 2; whnf
 rw [qQ]
 have hfN : qD Try.prog 32 (zD n va vb) = true := by
  rcases hda with ⟨rfl, _⟩ | ⟨id, ys, rfl, _⟩ <;> rcases hnb with ⟨rfl, _⟩ | ⟨id', ys', rfl, _⟩ <;> kernel_rfl
 simp (maxSteps:=1000000) (disch:=first|assumption|omega|rfl) only [↓gp, gc, Nat.reduceAdd, hPS, zagg, z32v, kV, hfN]
 have hl2 : (S0 ++ [Ob.row [zD n va vb] 32] ++ [Ob.row [zD zM (.ts []) (.ts [])] 32])[S0.length]? = some (.row [zD n va vb] 32) := qA qK
 have hl4 : (S0 ++ [Ob.row [zD n va vb] 32] ++ [Ob.row [zD zM (.ts []) (.ts [])] 32])[(S0 ++ [Ob.row [zD n va vb] 32]).length]? = some (.row [zD zM (.ts []) (.ts [])] 32) := qK
 have hK : Keep S0 (S0 ++ [Ob.row [zD n va vb] 32] ++ [Ob.row [zD zM (.ts []) (.ts [])] 32]) := Keep.app.trans Keep.app
 refine zs0 S0 n va vb _ _ size hsz S0.length (S0 ++ [Ob.row [zD n va vb] 32]).length (by simp) (by omega) (by simp) _ _ (size - n.data.length) n.data _ va _ _ _ _ _ _ _ _ _ _ _ _ _ _ _ _ _ _ rfl (by omega) (hda.keep hK) hl2 hl4 (fun j q hj _ => hK j q hj) (fun i hi => .inl hi) hK.len ?_
 intro S v g5 g6 g7 g8 g9 gP gQ gM gF gD gG gH gC gA gB gK gE gL hv h2 h4 hf hi hS
 have hlen : (n.data ++ List.replicate (size - n.data.length) (0 : UInt8)).length = n.data.length + (size - n.data.length) := by rw [List.length_append, List.length_replicate]
 obtain ⟨v', e1, hv', hid⟩ := znf (k := size) hv (by omega)
 have hv' : SlE encU S v' 5 (sizedB n.data size) := hv'
 have hr2 := zC h2
 have hpr2 := fun y => qG (y := y) h2
 have hst := sv5 (n := n) (a := v) (b := vb) (zvl hv') hv'.cells
 have hrr : ∀ y, rowE (S.set S0.length (.row [y] 32)) S0.length 0 = some y := fun y => zC (kD h2)
 have hpp : ∀ y z, z11 (S.set S0.length (.row [y] 32)) S0.length 0 z = some ((S.set S0.length (.row [y] 32)).set S0.length (.row [z] 32)) := fun y z => qG (kD h2)
 have hlt4 : (S0 ++ [Ob.row [zD n va vb] 32]).length = S0.length + 1 := by simp
 generalize (S0 ++ [Ob.row [zD n va vb] 32]).length = i4 at *
 subst hlt4
 have h44 : ∀ y z, ((S.set S0.length (.row [y] 32)).set S0.length (.row [z] 32))[S0.length + 1]? = some (.row [zD zM (.ts []) (.ts [])] 32) := fun y z => by
  rw [List.getElem?_set_ne (by omega), List.getElem?_set_ne (by omega)]; exact h4
 have hr44 := fun y z => zC (h44 y z)
 have hp44 := fun y z w => qG (y := w) (h44 y z)
 have hrr2 : ∀ y z, rowE ((S.set S0.length (.row [y] 32)).set S0.length (.row [z] 32)) S0.length 0 = some z := fun y z => zC (kD (kD h2))
 simp (maxSteps:=1000000) (disch:=first|assumption|omega|rfl) only [↓gp, gc, Nat.reduceAdd, hPS, hr2, lv5, e1, hst, hpr2, hrr, hpp, sv4m, hrr2, lv, sv, hr44, hp44]
 have hne : ∀ (j : Nat) (q : Ob), S[j]? = some q → j ≠ S0.length → j ≠ S0.length + 1 → (((S.set S0.length (.row [zD n v' vb] 32)).set S0.length (.row [zD { n with size := size } v' vb] 32)).set (S0.length + 1) (.row [zD { n with size := size } v' vb] 32))[j]? = some q := fun j q hj n1 n2 => by
  rw [List.getElem?_set_ne (Ne.symm n2), List.getElem?_set_ne (Ne.symm n1), List.getElem?_set_ne (Ne.symm n1)]; exact hj
 refine ⟨rfl, _, z5k (kD (h44 _ _)), v', rfl, ?_, ?_, ?_, ?_⟩
 ·refine hv'.frame2 fun j o hj hh => hne j o hj ?_ ?_
  ·rintro rfl
   obtain ⟨zs, q⟩ := hv'.row hh
   rw [h2] at q; cases q
  ·rintro rfl
   obtain ⟨zs, q⟩ := hv'.row hh
   rw [h4] at q; cases q
 ·intro j q hj hn
  have := zZ hj
  exact hne j q (hf j q hj hn) (by omega) (by omega)
 ·intro i hh
  exact hi i (hid i hh)
 ·simp only [List.length_set]; exact hS
theorem zcw {a : Int} {d : List UInt8} : ∀ {l : List UInt8} {i j : Nat}, (layA a d i l)[j]? = l[j]?.map fun x => if 0 ≤ a ∧ a ≤ ((i + j : Nat) : Int) ∧ ((i + j : Nat) : Int) - a < d.length then d.getD (((i + j : Nat) : Int) - a).toNat 0 else x
 | [], i, j => by simp [layA]
 | x :: r, i, 0 => by simp [layA]
 | x :: r, i, j + 1 => by
  have ih := zcw (a := a) (d := d) (l := r) (i := i + 1) (j := j)
  have e : i + 1 + j = i + (j + 1) := by omega
  rw [e] at ih
  simpa [layA] using ih
theorem zfa (l : List UInt8) (k : Nat) : layN (List.replicate k 0) 0 l = sizedB l k := by
 refine List.ext_getElem? fun j => ?_
 unfold layN sizedB
 rw [zcw, Nat.zero_add, List.getElem?_replicate, List.getElem?_take]
 by_cases hj : j < k
 ·rw [if_pos hj, if_pos hj, Option.map_some]
  by_cases hl : j < l.length
  ·rw [if_pos (by omega), List.getElem?_append_left hl, List.getElem?_eq_getElem hl]
   have : ((j : Int) - 0).toNat = j := by omega
   rw [this, List.getD_eq_getElem?_getD, List.getElem?_eq_getElem hl]
   rfl
  ·rw [if_neg (by omega), List.getElem?_append_right (by omega), List.getElem?_replicate, if_pos (by omega)]
 ·rw [if_neg hj, if_neg hj]
  rfl
theorem zvi (l d : List UInt8) (off : Nat) (h : off + d.length ≤ l.length) : layN l off d = l.take off ++ d ++ l.drop (off + d.length) := by
 refine List.ext_getElem? fun j => ?_
 unfold layN
 rw [zcw, Nat.zero_add]
 by_cases h1 : j < off
 ·rw [List.append_assoc, List.getElem?_append_left (by rw [List.length_take]; omega), List.getElem?_take, if_pos h1, List.getElem?_eq_getElem (by omega), Option.map_some, if_neg (by omega)]
 ·by_cases h2 : j < off + d.length
  ·rw [List.append_assoc, List.getElem?_append_right (by rw [List.length_take]; omega), List.length_take, Nat.min_eq_left (by omega), List.getElem?_append_left (by omega), List.getElem?_eq_getElem (show j < l.length by omega), Option.map_some, if_pos (by omega)]
   have : ((j : Int) - off).toNat = j - off := by omega
   rw [this, List.getD_eq_getElem?_getD, List.getElem?_eq_getElem (show j - off < d.length by omega)]
   rfl
  ·rw [List.getElem?_append_right (by rw [List.length_append, List.length_take]; omega), List.length_append, List.length_take, Nat.min_eq_left (by omega), List.getElem?_drop]
   rw [show off + d.length + (j - (off + d.length)) = j by omega]
   cases hlj : l[j]? with
   | none => rfl
   | some x => rw [Option.map_some, if_neg (by omega)]
theorem zwr {P : Program} {S : zA} {ts : List TypeId} {x y : Int} : zY P S .max ts [.d (.int .i64 x), .d (.int .i64 y)] = some (.val (.d (.int .i64 (if y > x then y else x))) S 0) := by
 cases ts <;> simp [zY, zd2, zlk]
theorem zvp {P : Program} {S : zA} {ts : List TypeId} {x y : Int} : zY P S .min ts [.d (.int .i64 x), .d (.int .i64 y)] = some (.val (.d (.int .i64 (if y < x then y else x))) S 0) := by
 cases ts <;> simp [zY, zd2, zpz]
theorem zcm {P : Program} {S : zA} {t tx : TypeId} {d x : V} : zY P S .copy [t, tx] [d, x] = (copyV P S t tx d x).map fun r => .val r.1 r.2 3 := rfl
theorem zs5 {S : zA} {l : List UInt8} : srcV Try.prog S 5 29 (.d (encB l)) = some (l.map fun b => .d (encU b)) := by
 have hf : (l.map fun b => V.d (encU b)).all (qD Try.prog 5) = true := by
  rw [List.all_eq_true]
  intro x hx
  obtain ⟨b, _, rfl⟩ := List.mem_map.1 hx
  kernel_rfl
 have he : kU S (.d (encB l)) = some (l.map fun b => V.d (encU b)) := by
  simp only [encB, kU, List.map_map, Function.comp_def]
 unfold encB at he ⊢
 simp only [srcV, Try.underlying29]
 rw [he]
 simp only [hf, sz5, Bool.and_self, if_true]
theorem z5m {k : Nat} {t : List Node} {x : Int} (hS : Small k t) : (getN t x).size = (getN t x).data.length ∧ (getN t x).data.length ≤ 34304 := by
 rcases jH t x with ⟨h1, _⟩ | ⟨h1, _⟩
 ·rw [h1]; exact ⟨rfl, Nat.zero_le _⟩
 ·have := hS.siz _ h1
  omega
theorem av5 {x : Ans} {v5 v6 v : V} (h1 : qD Try.prog 29 v = true) (h2 : v.cells = [v]) : qL Try.prog 29 5 v (ansV x v5 v6) = some (ansV x v v6) := zt2 h1 h2
theorem zu4 {P : Program} {S : zA} {ts : List TypeId} {x y w : Int} (h : (if y < x then y else x) = w) : zY P S .min ts [.d (.int .i64 x), .d (.int .i64 y)] = some (.val (.d (.int .i64 w)) S 0) := by rw [zvp, h]
theorem zt8 {P : Program} {S : zA} {ts : List TypeId} {x y w : Int} (h : (if y > x then y else x) = w) : zY P S .max ts [.d (.int .i64 x), .d (.int .i64 y)] = some (.val (.d (.int .i64 w)) S 0) := by rw [zwr, h]
theorem zm0 {S : zA} {v : V} {l : List UInt8} {p w : Nat} (h : SlE encU S v 5 l) (h0 : p < l.length) (hk : p + w ≤ l.length) : ∃ id ys, v = .rs id 0 l.length ∧ S[id]? = some (.row ((l ++ ys).map fun a => .d (encU a)) 5) ∧ qT Try.prog S 29 v (some (.d (.int .i64 p))) (some (.d (.int .i64 ((p : Int) + (w : Int))))) = some (.rs id p w) := by
 rcases h with ⟨rfl, rfl⟩ | ⟨id, ys, rfl, h1⟩
 ·simp at h0
 ·refine ⟨id, ys, rfl, h1, ?_⟩
  have h3 : rowT S id 5 = true := by simp only [rowT, h1, beq_self_eq_true]
  have e : (p : Int) + (w : Int) = ((p + w : Nat) : Int) := by omega
  rw [e]
  have hb := bnd (y := p + w) (d := 0) (k := p) (by omega)
  simp only [qT, Try.underlying29, bnd hk, hb, h3, sz5, Bool.and_self, if_true, Nat.zero_add, Nat.add_sub_cancel_left]
theorem zo3 {S : zA} {l ys : List UInt8} {id p w : Nat} (h : S[id]? = some (.row ((l ++ ys).map fun a => .d (encU a)) 5)) (hk : p + w ≤ l.length) : srcV Try.prog S 5 29 (.rs id p w) = some (((l.drop p).take w).map fun a => .d (encU a)) := by
 have hf : (((l.drop p).take w).map fun b => V.d (encU b)).all (qD Try.prog 5) = true := by
  rw [List.all_eq_true]
  intro x hx
  obtain ⟨b, _, rfl⟩ := List.mem_map.1 hx
  kernel_rfl
 have hl : ((l ++ ys).map fun a => V.d (encU a)).length = l.length + ys.length := by simp
 have hx : ((((l ++ ys).map fun a => V.d (encU a)).drop p).take w) = ((l.drop p).take w).map fun b => V.d (encU b) := by
  rw [← List.map_drop, ← List.map_take, List.drop_append_of_le_length (by omega), List.take_append_of_le_length (by rw [List.length_drop]; omega)]
 have hle : p + w ≤ l.length + ys.length := by omega
 simp only [srcV, Try.underlying29, kU, h, hl, hle, if_true, hx, hf, sz5, Bool.and_self]
theorem q0w (S0 : zA) (a m r : Nat) (A B : Int → V) (t : List Node) (hT0 : Tree S0 a m A B t) (k0 : Nat) (hk0 : k0 < 200000) (hG : Good k0 t) (o : Opn) (hdo : o.does = 8) (hl : o.a.length < 900000) (hr : S0[r]? = some (.row [ansV okN (.ts []) (.ts [])] 44)) :
  EvS cfgS 81 [.ref a 0 0, .d (encOpn o), .ref r 0 0] S0 (Res S0 a m r (vG t o)) := by
 have hk1 : k0 < 300000 := by omega
 refine wJ rfl zy7 ?_
 show Wp cfgS (Try.f81.body.getD .skip) ((.ref a 0 0) :: (.d (encOpn o)) :: (.ref r 0 0) :: uZ (uZ (uZ (uZ ((.tup []) :: (.tup []) :: (.tup []) :: []))))) S0 [] _
 unfold uZ
 conv => arg 2; whnf
 rw [qQ]
 have hT1 := hT0.keep (Keep.app (l := [Ob.row [.d (encOpn o)] 48]))
 simp (maxSteps:=1000000) (disch:=first|assumption|omega|rfl) only [↓gp, gc, Nat.reduceAdd, hPS, zL]
 generalize hq : vG t o = q
 unfold vG z4v at hq
 refine zcu hT1 hG.told hk1 hG.sm hl ?_ ?_
 ·intro h0 h2 S1 hK1
  rw [if_neg (by simp [h0]), if_neg h2, if_neg (by omega), if_pos hdo] at hq
  have hsz := (z5m (x := (zN t o.a).1) hG.sm).2
  generalize (zN t o.a).1 = x at *
  have hK01 := Keep.app.trans hK1
  have h4 := hK1 _ _ (qK (S := S0) (o := Ob.row [.d (encOpn o)] 48))
  have hr4 : ∀ l, rowE (S1 ++ l) S0.length 0 = some (.d (encOpn o)) := fun l => zC (qA h4)
  have hT2 := hT0.keep (hK01.trans (Keep.app (l := [Ob.row [zD (getN t x) (A x) (B x)] 32])))
  have h6 := qK (S := S1) (o := Ob.row [zD (getN t x) (A x) (B x)] 32)
  have hrr := (hK01.trans (Keep.app (l := [Ob.row [zD (getN t x) (A x) (B x)] 32]))) _ _ hr
  by_cases c1 : o.off < 0
  ·rw [if_pos c1] at hq
   subst hq
   have h1 : (1 : Int) ≠ 0 := by omega
   simp (maxSteps:=1000000) (disch:=first|assumption|omega|rfl) only [↓gp, gc, Nat.reduceAdd, hPS, zagg, z32v, kV, kM, svz, sv, lv, zL, zI, hr4, jX h1]
   exact ⟨rfl, Res.fail h1 (hK01.trans Keep.app)⟩
  rw [if_neg c1] at hq
  by_cases c2 : o.n < 0
  ·rw [if_pos c2] at hq
   subst hq
   have h1 : (1 : Int) ≠ 0 := by omega
   simp (maxSteps:=1000000) (disch:=first|assumption|omega|rfl) only [↓gp, gc, Nat.reduceAdd, hPS, zagg, z32v, kV, kM, svz, sv, lv, zL, zI, hr4, jX h1]
   exact ⟨rfl, Res.fail h1 (hK01.trans Keep.app)⟩
  rw [if_neg c2] at hq
  have hlen := (hT2.st.da x trivial).len (t := 29) Try.underlying29
  by_cases c3 : o.off < ((getN t x).data.length : Int)
  ·obtain ⟨p, hp⟩ : ∃ p : Nat, o.off = p := ⟨o.off.toNat, by omega⟩
   obtain ⟨w, hw⟩ : ∃ w : Nat, (if ((getN t x).data.length : Int) - (p : Int) < o.n then ((getN t x).data.length : Int) - (p : Int) else o.n) = w := by
    refine ⟨(if ((getN t x).data.length : Int) - (p : Int) < o.n then ((getN t x).data.length : Int) - (p : Int) else o.n).toNat, ?_⟩
    split <;> omega
   have hwl : p + w ≤ (getN t x).data.length := by
    split at hw <;> omega
   have hpd : zgm (getN t x).data o.off o.n = ((getN t x).data.drop p).take w := by
    unfold zgm
    rw [hp]
    by_cases hw0 : w = 0
    ·rw [if_pos (by split at hw <;> omega), hw0, List.take_zero]
    ·rw [if_neg (by split at hw <;> omega)]
     have e1 : ((p : Int)).toNat = p := by omega
     have e2 : (if ((getN t x).data.length : Int) - (p : Int) < o.n then ((getN t x).data.length : Int) else (p : Int) + o.n).toNat = p + w := by
      split at hw <;> rename_i hh
      ·rw [if_pos hh]; omega
      ·rw [if_neg hh]; omega
     rw [e1, e2, List.drop_take, Nat.add_sub_cancel_left]
   obtain ⟨id, ys, hA, hrow, hsl⟩ := zm0 (p := p) (w := w) (hT2.st.da x trivial) (by omega) hwl
   have hsrc := zo3 (l := (getN t x).data) (ys := ys) hrow hwl
   have hrv : rowE (S1 ++ [Ob.row [zD (getN t x) (A x) (B x)] 32]) r 0 = some (ansV okN (.ts []) (.ts [])) := zC hrr
   have hpr := fun y => qG (y := y) hrr
   have hst := av5 (x := okN) (v5 := .ts []) (v6 := .ts []) (v := .rs id p w) (by kernel_rfl) rfl
   have hT3 := hT2.other (o := .row [ansV okN (.rs id p w) (.ts [])] 44) hrr (by decide) (by decide) (by decide)
   have c3' : (p : Int) < ((getN t x).data.length : Int) := by omega
   simp (maxSteps:=1000000) (disch:=first|assumption|omega|rfl) only [↓gp, gc, Nat.reduceAdd, hPS, zagg, z32v, kV, kM, svz, sv, lv, zL, zI, hr4, jK, lv5, hlen, hp, zu4 hw, hsl, qI, hrv, hst, hpr]
   subst hq
   rw [hpd]
   refine ⟨rfl, _, rfl, Res.done (v5 := .rs id p w) (v6 := .ts []) rfl hT3 (kD hrr) ?_ (.inl ⟨rfl, rfl⟩) ((hK01.trans Keep.app).toR.setR)⟩
   refine zo3 (l := (getN t x).data) (ys := ys) ?_ hwl
   rw [List.getElem?_set_ne]
   ·exact hrow
   ·rintro rfl
    have q := hrow.symm.trans hrr
    simp only [Option.some.injEq, Ob.row.injEq] at q
    exact absurd q.2 (by decide)
  ·simp (maxSteps:=1000000) (disch:=first|assumption|omega|rfl) only [↓gp, gc, Nat.reduceAdd, hPS, zagg, z32v, kV, kM, svz, sv, lv, zL, zI, hr4, jK, lv5, hlen]
   have e : zgm (getN t x).data o.off o.n = [] := by unfold zgm; rw [if_pos (by omega)]
   subst hq
   rw [e]
   exact ⟨rfl, _, rfl, Res.done (v5 := .ts []) (v6 := .ts []) rfl hT2 hrr vO (.inl ⟨rfl, rfl⟩) (hK01.trans Keep.app).toR⟩
 ·rintro e (⟨h0, rfl⟩ | ⟨h0, h2, rfl⟩) S1 hK1
  ·rw [if_pos h0] at hq
   subst hq
   exact ⟨rfl, Res.fail h0 (Keep.app.trans hK1)⟩
  ·rw [if_neg (by simp [h0]), if_pos h2] at hq
   subst hq
   exact ⟨rfl, Res.fail (by omega) (Keep.app.trans hK1)⟩
theorem ztz {S : zA} {id k off : Nat} {l ys data : List UInt8} (h : S[id]? = some (.row ((l ++ ys).map fun a => .d (encU a)) 5)) (hk : l.length = k) (ho : off + data.length ≤ k) :
  copyV Try.prog S 29 29 (.rs id off (k - off)) (.d (encB data)) = some (.d (.int .i64 data.length), S.set id (.row (((l.take off ++ data ++ l.drop (off + data.length)) ++ ys).map fun a => .d (encU a)) 5)) := by
 have hl : ((l ++ ys).map fun a => V.d (encU a)).length = l.length + ys.length := by simp
 have hm : min (data.map fun b => V.d (encU b)).length (k - off) = data.length := by rw [List.length_map]; omega
 have hle : off + (k - off) ≤ l.length + ys.length := by omega
 have htk : (data.map fun b => V.d (encU b)).take data.length = data.map fun b => V.d (encU b) := List.take_of_length_le (by simp)
 have e1 : ((l ++ ys).map fun a => V.d (encU a)).take off = (l.take off).map fun a => V.d (encU a) := by rw [← List.map_take, List.take_append_of_le_length (by omega)]
 have e2 : ((l ++ ys).map fun a => V.d (encU a)).drop (off + data.length) = (l.drop (off + data.length) ++ ys).map fun a => V.d (encU a) := by rw [← List.map_drop, List.drop_append_of_le_length (by omega)]
 simp only [copyV, Try.underlying29, zs5, h, hm, hl, hle, decide_true, Bool.and_self, if_true, htk, e1, e2, ← List.map_append, List.append_assoc]
theorem znj {S : zA} {v : V} {l : List UInt8} {p : Nat} (h : SlE encU S v 5 l) (h0 : p < l.length) : ∃ id ys, v = .rs id 0 l.length ∧ S[id]? = some (.row ((l ++ ys).map fun a => .d (encU a)) 5) ∧ qT Try.prog S 29 v (some (.d (.int .i64 (p : Int)))) none = some (.rs id p (l.length - p)) := by
 rcases h with ⟨rfl, rfl⟩ | ⟨id, ys, rfl, h1⟩
 ·simp at h0
 ·refine ⟨id, ys, rfl, h1, ?_⟩
  have h3 : rowT S id 5 = true := by simp only [rowT, h1, beq_self_eq_true]
  have hb := bnd (y := l.length) (d := 0) (k := p) (by omega)
  simp only [qT, Try.underlying29, hb, wO, h3, sz5, Bool.and_self, if_true, Nat.zero_add]
theorem zwb (S0 : zA) (a m r : Nat) (A B : Int → V) (t : List Node) (hT0 : Tree S0 a m A B t) (k0 : Nat) (hk0 : k0 < 200000) (hG : Good k0 t) (o : Opn) (hdo : o.does = 7) (hl : o.a.length < 900000) (hd : o.data.length ≤ 1024) (hr : S0[r]? = some (.row [ansV okN (.ts []) (.ts [])] 44)) :
  EvS cfgS 80 [.ref a 0 0, .d (encOpn o), .ref r 0 0] S0 (Res S0 a m r (vG t o)) := by
 have hk1 : k0 < 300000 := by omega
 refine wJ rfl zxt ?_
 show Wp cfgS (Try.f80.body.getD .skip) ((.ref a 0 0) :: (.d (encOpn o)) :: (.ref r 0 0) :: uZ (uZ (uZ (uZ (uZ ((.tup []) :: [])))))) S0 [] _
 unfold uZ
 conv => arg 2; whnf
 rw [qQ]
 have hT1 := hT0.keep (Keep.app (l := [Ob.row [.d (encOpn o)] 48]))
 simp (maxSteps:=1000000) (disch:=first|assumption|omega|rfl) only [↓gp, gc, Nat.reduceAdd, hPS, zL]
 generalize hq : vG t o = q
 unfold vG z4v at hq
 refine zcu hT1 hG.told hk1 hG.sm hl ?_ ?_
 ·intro h0 h2 S1 hK1
  have hkx := hG.lj.hasK (vJ hG.told h0)
  rw [if_neg (by simp [h0]), if_neg h2, if_pos hdo] at hq
  obtain ⟨hsz1, hsz⟩ := z5m (x := (zN t o.a).1) hG.sm
  generalize (zN t o.a).1 = x at *
  have hxi := z0e hkx
  have hK01 := Keep.app.trans hK1
  have h4 := hK1 _ _ (qK (S := S0) (o := Ob.row [.d (encOpn o)] 48))
  have hr4 : ∀ l, rowE (S1 ++ l) S0.length 0 = some (.d (encOpn o)) := fun l => zC (qA h4)
  have hK02 := hK01.trans (Keep.app (l := [Ob.row [zD (getN t x) (A x) (B x)] 32]))
  have hT2 := hT0.keep hK02
  have h6 := qK (S := S1) (o := Ob.row [zD (getN t x) (A x) (B x)] 32)
  have hrr := hK02 _ _ hr
  by_cases c1 : o.off < 0
  ·rw [if_pos c1] at hq
   subst hq
   have h1 : (1 : Int) ≠ 0 := by omega
   simp (maxSteps:=1000000) (disch:=first|assumption|omega|rfl) only [↓gp, gc, Nat.reduceAdd, hPS, zagg, z32v, kV, kM, svz, sv, lv, zL, zI, hr4, jX h1]
   exact ⟨rfl, Res.fail h1 hK02⟩
  rw [if_neg c1] at hq
  by_cases c2 : o.off > 34304 - (o.data.length : Int)
  ·rw [if_pos c2] at hq
   subst hq
   have h11 : (11 : Int) ≠ 0 := by omega
   simp (maxSteps:=1000000) (disch:=first|assumption|omega|rfl) only [↓gp, gc, Nat.reduceAdd, hPS, zagg, z32v, kV, kM, svz, sv, lv, zL, zI, hr4, lenB, jK, jX h11]
   exact ⟨rfl, Res.fail h11 hK02⟩
  rw [if_neg c2] at hq
  by_cases c3 : o.data.length = 0
  ·rw [if_pos c3] at hq
   subst hq
   have c3' : (o.data.length : Int) = 0 := by omega
   simp (maxSteps:=1000000) (disch:=first|assumption|omega|rfl) only [↓gp, gc, Nat.reduceAdd, hPS, zagg, z32v, kV, kM, svz, sv, lv, zL, zI, hr4, lenB, jK]
   exact ⟨rfl, _, rfl, Res.done (v5 := .ts []) (v6 := .ts []) rfl hT2 hrr vO (.inl ⟨rfl, rfl⟩) hK02.toR⟩
  rw [if_neg c3] at hq
  have c3' : ¬ (o.data.length : Int) = 0 := by omega
  have hlen := (hT2.st.da x trivial).len (t := 29) Try.underlying29
  obtain ⟨p, hp⟩ : ∃ p : Nat, o.off = p := ⟨o.off.toNat, by omega⟩
  obtain ⟨k, hk⟩ : ∃ k : Nat, (if (p : Int) + (o.data.length : Int) > ((getN t x).data.length : Int) then (p : Int) + (o.data.length : Int) else ((getN t x).data.length : Int)) = k := by
   refine ⟨(if (p : Int) + (o.data.length : Int) > ((getN t x).data.length : Int) then (p : Int) + (o.data.length : Int) else ((getN t x).data.length : Int)).toNat, ?_⟩
   split <;> omega
  have hk1 : p + o.data.length ≤ k := by split at hk <;> omega
  have hk2 : k ≤ 34304 := by split at hk <;> omega
  have hkW : zad (getN t x) o = k := by
   unfold zad
   rw [hp, hsz1, ← hk]
   split <;> split <;> omega
  have c2' : ¬ (p : Int) > 34304 - (o.data.length : Int) := by omega
  have c1' : ¬ (p : Int) < 0 := by omega
  simp (maxSteps:=1000000) (disch:=first|assumption|omega|rfl) only [↓gp, gc, Nat.reduceAdd, hPS, zagg, z32v, kV, kM, svz, sv, lv, zL, zI, hr4, lenB, jK, hp, lv5, hlen, zt8 hk]
  have h42 := qA (l := [Ob.row [zD (getN t x) (A x) (B x)] 32]) h4
  have hlt : S0.length ≤ S1.length := hK01.len
  generalize hS2 : S1 ++ [Ob.row [zD (getN t x) (A x) (B x)] 32] = S2 at *
  have hlt2 : S1.length < S2.length := zZ h6
  refine jB rfl (zrr S2 (getN t x) (A x) (B x) (hT2.st.da x trivial) (hT2.st.na x trivial) hsz k hk2) ?_ ?_
  ·rintro v S3 ⟨v', hv, hv', hf3, hi3, hS3⟩
   cases hv
   have notA : ∀ (j : Nat) (ys : List V) (e : TypeId), e ≠ 5 → S2[j]? = some (.row ys e) → idOf (A x) ≠ some j := fun j ys e he hj hh => by
    obtain ⟨zs, q⟩ := (hT2.st.da x trivial).row hh
    rw [hj] at q; cases q; exact he rfl
   have h63 := hf3 _ _ h6 (notA _ _ _ (by decide) h6)
   have h43 := hf3 _ _ h42 (notA _ _ _ (by decide) h42)
   have hrr3 := hf3 _ _ hrr (notA _ _ _ (by decide) hrr)
   have hr63 := zC h63
   have hpr63 := fun y => qG (y := y) h63
   simp (maxSteps:=1000000) (disch:=first|assumption|omega|rfl) only [↓gp, gc, Nat.reduceAdd, hPS, hr63, hpr63, sv]
   have h64 : (S3.set S1.length (.row [zD { getN t x with size := (k : Int) } v' (B x)] 32))[S1.length]? = some (.row [zD { getN t x with size := (k : Int) } v' (B x)] 32) := kD h63
   have ne5 : ∀ (j : Nat) (ys : List V), S3[j]? = some (.row ys 5) → j ≠ S1.length := fun j ys hj => by
    rintro rfl
    rw [h63] at hj; cases hj
   have hne : S0.length ≠ S1.length := by
    have h1 := hK1.len
    rw [List.length_append, List.length_singleton] at h1
    omega
   have h44 : (S3.set S1.length (.row [zD { getN t x with size := (k : Int) } v' (B x)] 32))[S0.length]? = some (.row [.d (encOpn o)] 48) := by rw [List.getElem?_set_ne (Ne.symm hne)]; exact h43
   have hrr4 : (S3.set S1.length (.row [zD { getN t x with size := (k : Int) } v' (B x)] 32))[r]? = some (.row [ansV okN (.ts []) (.ts [])] 44) := by
    rw [List.getElem?_set_ne]
    ·exact hrr3
    ·rintro rfl
     have q := h63.symm.trans hrr3
     simp only [Option.some.injEq, Ob.row.injEq] at q
     exact absurd q.2 (by decide)
   have hf4 : ∀ (j : Nat) (q : Ob), S0[j]? = some q → idOf (A x) ≠ some j → (S3.set S1.length (.row [zD { getN t x with size := (k : Int) } v' (B x)] 32))[j]? = some q := fun j q hj hn => by
    have := zZ hj
    rw [List.getElem?_set_ne (by omega)]
    exact hf3 j q (hK02 j q hj) hn
   have hv4 : SlE encU (S3.set S1.length (.row [zD { getN t x with size := (k : Int) } v' (B x)] 32)) v' 5 (sizedB (getN t x).data k) := hv'.frame2 fun j q hj hi => by
    obtain ⟨ys, hq⟩ := hv'.row hi
    rw [List.getElem?_set_ne (Ne.symm (ne5 j ys hq))]; exact hj
   generalize S3.set S1.length (.row [zD { getN t x with size := (k : Int) } v' (B x)] 32) = S4 at *
   have hr64 := zC h64
   have hr44 := zC h44
   obtain ⟨id, ys, hvr, hrow, hsl⟩ := znj (p := p) hv4 (by rw [z4d]; omega)
   rw [z4d] at hsl hvr
   have hcp := ztz (data := o.data) (off := p) hrow z4d hk1
   refine kK (is := [0, 1, 2, 3, 4, 5, 6, 7]) (h := 0) (by kernel_rfl) (by kernel_rfl) ?_
   simp (maxSteps:=1000000) (disch:=first|assumption|omega|rfl) only [List.replicate_zero, eq_self, gw, ga, Nat.reduceAdd, ↓gq, hPS, List.append_nil, hr64, hr44, lv5, hp, hsl, zcm, hcp, Option.map_some, Option.map_none]
   refine ⟨zE (by kernel_rfl) (zE (by kernel_rfl) (zE (by kernel_rfl) (zE (by kernel_rfl) qO))), by kernel_rfl, ?_⟩
   have hid := zZ hrow
   have hnid : ∀ (j : Nat) (zs : List V) (e : TypeId), e ≠ 5 → S4[j]? = some (.row zs e) → (S4.set id (.row (((sizedB (getN t x).data k).take p ++ o.data ++ (sizedB (getN t x).data k).drop (p + o.data.length) ++ ys).map fun a => .d (encU a)) 5))[j]? = some (.row zs e) := fun j zs e he hj => by
    rw [List.getElem?_set_ne]
    ·exact hj
    ·rintro rfl
     rw [hrow] at hj
     simp only [Option.some.injEq, Ob.row.injEq] at hj
     exact he hj.2.symm
   have hdata : (z6m (getN t x) o).data = (sizedB (getN t x).data k).take p ++ o.data ++ (sizedB (getN t x).data k).drop (p + o.data.length) := by
    show layN (layN (List.replicate (zad (getN t x) o).toNat 0) 0 (getN t x).data) o.off o.data = _
    rw [hkW, Int.toNat_natCast, zfa, hp, zvi _ _ _ (by rw [z4d]; exact hk1)]
   have hdl : (z6m (getN t x) o).data.length = k := by
    show (layN (layN (List.replicate (zad (getN t x) o).toNat 0) 0 (getN t x).data) o.off o.data).length = _
    rw [z60, z60, List.length_replicate, hkW, Int.toNat_natCast]
   have h65 := hnid _ _ _ (by decide) h64
   have hrr5 := hnid _ _ _ (by decide) hrr4
   have hf5 : ∀ (j : Nat) (q : Ob), S0[j]? = some q → idOf (A x) ≠ some j → (S4.set id (.row (((sizedB (getN t x).data k).take p ++ o.data ++ (sizedB (getN t x).data k).drop (p + o.data.length) ++ ys).map fun a => .d (encU a)) 5))[j]? = some q := fun j q hj hn => by
    have hjl := zZ hj
    rw [List.getElem?_set_ne]
    ·exact hf4 j q hj hn
    ·rintro rfl
     rcases hi3 id (by rw [hvr]; rfl) with h | h
     ·exact hn h
     ·omega
   have hv5 : SlE encU (S4.set id (.row (((sizedB (getN t x).data k).take p ++ o.data ++ (sizedB (getN t x).data k).drop (p + o.data.length) ++ ys).map fun a => .d (encU a)) 5)) v' 5 (z6m (getN t x) o).data := .inr ⟨id, ys, by rw [hdl]; exact hvr, by rw [List.getElem?_set_self hid, hdata]⟩
   generalize S4.set id (.row (((sizedB (getN t x).data k).take p ++ o.data ++ (sizedB (getN t x).data k).drop (p + o.data.length) ++ ys).map fun a => .d (encU a)) 5) = S5 at *
   have hnW : zD { getN t x with size := (k : Int) } v' (B x) = zD (z6m (getN t x) o) v' (B x) := by
    unfold zD z6m
    rw [hkW]
   rw [hnW] at h65
   obtain ⟨o7, hup, hT6, hK6, hc5⟩ := hT0.renewK (x := x) (n := z6m (getN t x) o) (p := v') (q := B x) (S' := S5) hG.lj.srt hxi (fun j q hj hn _ => hf5 j q hj hn) hv5
    ((hT0.st.na x trivial).frame2 fun j q hj hi => hf5 j q hj (fun hh => hT0.st.apart x x j hh hi))
    (fun i hi => (hi3 i hi).elim .inl (fun h => .inr (by omega))) (fun i hi => .inl hi)
   have hra5 := zC hc5
   have hr65 := zC h65
   have hwi : (z6m (getN t x) o).ino = x := hxi
   simp (maxSteps:=1000000) (disch:=first|assumption|omega|rfl) only [↓gp, gc, Nat.reduceAdd, hPS]
   refine jA (is := [0, 1, 2, 3, 4, 5, 6, 7]) (h := 0) (by kernel_rfl) (by kernel_rfl) ?_
   simp (maxSteps:=1000000) (disch:=first|assumption|omega|rfl) only [List.replicate_zero, eq_self, gd, ga, Nat.reduceAdd, ↓gq, hPS, List.append_nil, qP, qI, jG, vB, wX, hra5, hr65, lv, lv0, hwi, hup, Option.map_some]
   refine ⟨fun _ => by kernel_rfl, ?_⟩
   refine ⟨by kernel_rfl, ?_⟩
   subst hq
   simp (maxSteps:=1000000) (disch:=first|assumption|omega|rfl) only [↓gp, gc, Nat.reduceAdd, hPS]
   exact ⟨rfl, _, rfl, Res.done (v5 := .ts []) (v6 := .ts []) rfl hT6 (hK6 _ _ _ hrr5) vO (.inl ⟨rfl, rfl⟩) (fun j ys e he _ hj => hK6 _ _ _ (hf5 j _ hj (fun hh => by obtain ⟨zs, q⟩ := (hT0.st.da x trivial).row hh; rw [hj] at q; cases q; rcases he with he | he <;> exact absurd he (by decide))))⟩
  ·rintro v S3 ⟨v', hv, _⟩
   cases hv
 ·rintro e (⟨h0, rfl⟩ | ⟨h0, h2, rfl⟩) S1 hK1
  ·rw [if_pos h0] at hq
   subst hq
   exact ⟨rfl, Res.fail h0 (Keep.app.trans hK1)⟩
  ·rw [if_neg (by simp [h0]), if_pos h2] at hq
   subst hq
   exact ⟨rfl, Res.fail (by omega) (Keep.app.trans hK1)⟩
theorem z8o {C : Cfg} {ops : Array Oper} {base : Nat} {K : Ws → List (Nat × Nat) → List V → zA → Prop} {ws : Ws} {cs : List (Nat × Nat)} {i : Nat} {dst : Option Tmp} {T : List V} {S : zA} {f : FuncId} {args : List V} {R : Out → zA → Prop} (hs : C.shared f = true) (he : EvS C f args S R)
  (hk : ∀ v S', R (.ret v) S' → WAll C ops base ws i S' ∧ K ws (cs ++ [(i, 3)]) (putT T dst v) S') (hp : ∀ v S', ¬ R (.pan v) S') : WpEw C ops base K ws cs i dst T S (some (.enter f args)) := by
 obtain ⟨n, out, S', hn, hR⟩ := he
 have hc : kR C (run C n) f args S = some (out, S', 3) := by
  unfold kR
  simp only [hs, if_true, hn, Option.map_some]
 cases out with
 | ret v =>
  obtain ⟨h1, h2⟩ := hk v S' hR
  exact ⟨n, v, S', 3, hc, fun _ => h1, by simpa [num2] using h2⟩
 | pan v => exact absurd hR (hp v S')
theorem zp1 {m : Nat} : z24 (.mr m) (.mr m) = true := by simp [z24, kY, kX]
theorem zlq (S0 : zA) (a m r : Nat) (A B : Int → V) (t : List Node) (hT0 : Tree S0 a m A B t) (k0 : Nat) (hk0 : k0 < 200000) (hG : Good k0 t) (o : Opn) (hdo : o.does = 9) (hl : o.a.length < 900000) (hr : S0[r]? = some (.row [ansV okN (.ts []) (.ts [])] 44)) :
  EvS cfgS 82 [.ref a 0 0, .d (encOpn o), .ref r 0 0] S0 (Res S0 a m r (vG t o)) := by
 have hk1 : k0 < 300000 := by omega
 refine wJ rfl zw6 ?_
 show Wp cfgS (Try.f82.body.getD .skip) ((.ref a 0 0) :: (.d (encOpn o)) :: (.ref r 0 0) :: uZ (uZ ((.tup []) :: (.tup []) :: (.tup []) :: (.tup []) :: (.tup []) :: (.tup []) :: []))) S0 [] _
 unfold uZ
 conv => arg 2; whnf
 rw [qQ]
 have hT1 := hT0.keep (Keep.app (l := [Ob.row [.d (encOpn o)] 48]))
 simp (maxSteps:=1000000) (disch:=first|assumption|omega|rfl) only [↓gp, gc, Nat.reduceAdd, hPS, zL]
 generalize hq : vG t o = q
 unfold vG z4v at hq
 refine zcu hT1 hG.told hk1 hG.sm hl ?_ ?_
 ·intro h0 h2 S1 hK1
  have hkx := hG.lj.hasK (vJ hG.told h0)
  rw [if_neg (by simp [h0]), if_neg h2, if_neg (by omega), if_neg (by omega)] at hq
  obtain ⟨hsz1, hsz⟩ := z5m (x := (zN t o.a).1) hG.sm
  generalize (zN t o.a).1 = x at *
  have hxi := z0e hkx
  have hK01 := Keep.app.trans hK1
  have h4 := hK1 _ _ (qK (S := S0) (o := Ob.row [.d (encOpn o)] 48))
  have hr4 : ∀ l, rowE (S1 ++ l) S0.length 0 = some (.d (encOpn o)) := fun l => zC (qA h4)
  have hK02 := hK01.trans (Keep.app (l := [Ob.row [zD (getN t x) (A x) (B x)] 32]))
  have hT2 := hT0.keep hK02
  have h6 := qK (S := S1) (o := Ob.row [zD (getN t x) (A x) (B x)] 32)
  have hrr := hK02 _ _ hr
  by_cases c1 : o.n < 0
  ·rw [if_pos c1] at hq
   subst hq
   have h1 : (1 : Int) ≠ 0 := by omega
   simp (maxSteps:=1000000) (disch:=first|assumption|omega|rfl) only [↓gp, gc, Nat.reduceAdd, hPS, zagg, z32v, kV, kM, svz, sv, lv, zL, zI, hr4, jX h1]
   exact ⟨rfl, Res.fail h1 hK02⟩
  rw [if_neg c1] at hq
  by_cases c2 : o.n > 34304
  ·rw [if_pos c2] at hq
   subst hq
   have h11 : (11 : Int) ≠ 0 := by omega
   simp (maxSteps:=1000000) (disch:=first|assumption|omega|rfl) only [↓gp, gc, Nat.reduceAdd, hPS, zagg, z32v, kV, kM, svz, sv, lv, zL, zI, hr4, jK, jX h11]
   exact ⟨rfl, Res.fail h11 hK02⟩
  rw [if_neg c2] at hq
  obtain ⟨k, hp⟩ : ∃ k : Nat, o.n = k := ⟨o.n.toNat, by omega⟩
  have hk2 : k ≤ 34304 := by omega
  have c1' : ¬ (k : Int) < 0 := by omega
  have c2' : ¬ (k : Int) > 34304 := by omega
  simp (maxSteps:=1000000) (disch:=first|assumption|omega|rfl) only [↓gp, gc, Nat.reduceAdd, hPS, zagg, z32v, kV, kM, svz, sv, lv, zL, zI, hr4, jK, hp]
  have h42 := qA (l := [Ob.row [zD (getN t x) (A x) (B x)] 32]) h4
  have hlt : S0.length ≤ S1.length := hK01.len
  generalize hS2 : S1 ++ [Ob.row [zD (getN t x) (A x) (B x)] 32] = S2 at *
  have hlt2 : S1.length < S2.length := zZ h6
  have hra2 := hT2.row
  have hr62 := zC h6
  have hr42 := zC h42
  refine kK (is := [0, 1, 2, 3, 4, 5, 6, 7, 8, 9, 10]) (h := 0) (by kernel_rfl) (by kernel_rfl) ?_
  simp (maxSteps:=1000000) (disch:=first|assumption|omega|rfl) only [List.replicate_zero, eq_self, gw, ga, Nat.reduceAdd, ↓gq, hPS, List.append_nil, qP, qI, vB, wX, hra2, hr62, hr42, lv, lv0, hxi, hp]
  refine z8o rfl (zrr S2 (getN t x) (A x) (B x) (hT2.st.da x trivial) (hT2.st.na x trivial) hsz k hk2) ?_ ?_
  ·rintro v S3 ⟨v', hv, hv', hf3, hi3, hS3⟩
   cases hv
   have notA : ∀ (j : Nat) (ys : List V) (e : TypeId), e ≠ 5 → S2[j]? = some (.row ys e) → idOf (A x) ≠ some j := fun j ys e he hj hh => by
    obtain ⟨zs, q⟩ := (hT2.st.da x trivial).row hh
    rw [hj] at q; cases q; exact he rfl
   have h63 := hf3 _ _ h6 (notA _ _ _ (by decide) h6)
   have hrr3 := hf3 _ _ hrr (notA _ _ _ (by decide) hrr)
   have hnW : zD { getN t x with size := (k : Int) } v' (B x) = zD (cutN (getN t x) o.n) v' (B x) := by
    unfold zD cutN
    rw [hp]
   have hv5 : SlE encU S3 v' 5 (cutN (getN t x) o.n).data := by
    show SlE encU S3 v' 5 (layN (List.replicate o.n.toNat 0) 0 (getN t x).data)
    rw [hp, Int.toNat_natCast, zfa]
    exact hv'
   obtain ⟨o7, hup, hT6, hK6, hc5⟩ := hT0.renewK (x := x) (n := cutN (getN t x) o.n) (p := v') (q := B x) (S' := S3) hG.lj.srt hxi (fun j q hj hn _ => hf3 j q (hK02 j q hj) hn) hv5
    ((hT0.st.na x trivial).frame2 fun j q hj hi => hf3 j q (hK02 j q hj) (fun hh => hT0.st.apart x x j hh hi))
    (fun i hi => (hi3 i hi).elim .inl (fun h => .inr (by omega))) (fun i hi => .inl hi)
   have hld3 : jP Try.prog S3 125 (.ref a 0 0) = some (.mr m) := (jN (zC hc5)).trans wX
   have hld5 : jP Try.prog S3 3 (.ref S1.length 0 0) = some (.d (.int .i64 x)) := (jN (zC h63)).trans (by rw [lv0, hxi])
   refine ⟨zE (by kernel_rfl) (zE (by kernel_rfl) (jJ rfl (by kernel_rfl) rfl ?_ vD (jJ rfl (by kernel_rfl) rfl ?_ zp1 qO))), ?_⟩
   ·exact (show _ = (jP Try.prog _ 3 (.ref S1.length 0 0)).map (fun v => Rs.val v _ 1) from rfl).trans (by rw [hld5]; rfl)
   ·exact (show _ = (jP Try.prog _ 125 (.ref a 0 0)).map (fun v => Rs.val v _ 1) from rfl).trans (by rw [hld3]; rfl)
   rw [hnW]
   simp (maxSteps:=1000000) (disch:=first|assumption|omega|rfl) only [List.replicate_zero, eq_self, gw, ga, Nat.reduceAdd, ↓gq, hPS, List.append_nil, jG, hup, Option.map_some]
   refine ⟨zE (by kernel_rfl) (zE (by kernel_rfl) (zE (by kernel_rfl) (zE (by kernel_rfl) qO))), by kernel_rfl, ?_⟩
   subst hq
   simp (maxSteps:=1000000) (disch:=first|assumption|omega|rfl) only [↓gp, gc, Nat.reduceAdd, hPS]
   exact ⟨rfl, _, rfl, Res.done (v5 := .ts []) (v6 := .ts []) rfl hT6 (hK6 _ _ _ hrr3) vO (.inl ⟨rfl, rfl⟩) (fun j ys e he _ hj => hK6 _ _ _ (hf3 j _ (hK02 j _ hj) (notA _ _ _ (by rcases he with rfl | rfl <;> decide) (hK02 j _ hj))))⟩
  ·rintro v S3 ⟨v', hv, _⟩
   cases hv
 ·rintro e (⟨h0, rfl⟩ | ⟨h0, h2, rfl⟩) S1 hK1
  ·rw [if_pos h0] at hq
   subst hq
   exact ⟨rfl, Res.fail h0 (Keep.app.trans hK1)⟩
  ·rw [if_neg (by simp [h0]), if_pos h2] at hq
   subst hq
   exact ⟨rfl, Res.fail (by omega) (Keep.app.trans hK1)⟩
section
variable {x : Ans} {v5 v6 v : V} {y : Int}
theorem av2 : qL Try.prog 3 2 (.d (.int .i64 y)) (ansV x v5 v6) = some (ansV { x with kind := y } v5 v6) := by kernel_rfl
theorem av3 : qL Try.prog 3 3 (.d (.int .i64 y)) (ansV x v5 v6) = some (ansV { x with links := y } v5 v6) := by kernel_rfl
theorem av4 : qL Try.prog 3 4 (.d (.int .i64 y)) (ansV x v5 v6) = some (ansV { x with size := y } v5 v6) := by kernel_rfl
theorem av6 (h1 : qD Try.prog 42 v = true) (h2 : v.cells = [v]) : qL Try.prog 42 6 v (ansV x v5 v6) = some (ansV x v5 v) := zve h1 h2
theorem al6 : kE Try.prog 42 6 (some (ansV x v5 v6)) = some v6 := by kernel_rfl
end
theorem zxf (S0 : zA) (a m r : Nat) (A B : Int → V) (t : List Node) (hT0 : Tree S0 a m A B t) (k0 : Nat) (hk0 : k0 < 200000) (hG : Good k0 t) (o : Opn) (hdo : o.does = 12) (hl : o.a.length < 900000) (hr : S0[r]? = some (.row [ansV okN (.ts []) (.ts [])] 44)) :
  EvS cfgS 85 [.ref a 0 0, .d (encOpn o), .ref r 0 0] S0 (Res S0 a m r (t, z31 t o)) := by
 have hk1 : k0 < 300000 := by omega
 refine wJ rfl zy3 ?_
 show Wp cfgS (Try.f85.body.getD .skip) ((.ref a 0 0) :: (.d (encOpn o)) :: (.ref r 0 0) :: (.tup []) :: (.tup []) :: (.tup []) :: (.tup []) :: (.tup []) :: (.tup []) :: (.tup []) :: []) S0 [] _
 conv => arg 2; whnf
 rw [qQ]
 have hT1 := hT0.keep (Keep.app (l := [Ob.row [.d (encOpn o)] 48]))
 simp (maxSteps:=1000000) (disch:=first|assumption|omega|rfl) only [↓gp, gc, Nat.reduceAdd, hPS, zL]
 refine z9p rfl (zq1 _ a m hT1 hG.told k0 hk1 hG.sm o.a hl) ?_ ?_
 ·intro h0 S1 hK1
  have e : z31 t o = okN := by unfold z31 zmp; rw [if_neg (by simp [h0]), if_neg (by omega), if_pos hdo]
  rw [e]
  simp (maxSteps:=1000000) (disch:=first|assumption|omega|rfl) only [↓gp, gc, Nat.reduceAdd, hPS]
  exact ⟨rfl, _, rfl, Res.done (v5 := .ts []) (v6 := .ts []) rfl (hT1.keep hK1) ((Keep.app.trans hK1) _ _ hr) vO (.inl ⟨rfl, rfl⟩) (Keep.app.trans hK1).toR⟩
 ·intro h0 S1 hK1
  have e : z31 t o = wF (zN t o.a).2 := by unfold z31; rw [if_pos h0]
  rw [e]
  exact ⟨rfl, Res.fail h0 (Keep.app.trans hK1)⟩
theorem q1w (S0 : zA) (a m r : Nat) (A B : Int → V) (t : List Node) (hT0 : Tree S0 a m A B t) (k0 : Nat) (hk0 : k0 < 200000) (hG : Good k0 t) (o : Opn) (hdo : o.does = 11) (hl : o.a.length < 900000) (hr : S0[r]? = some (.row [ansV okN (.ts []) (.ts [])] 44)) :
  EvS cfgS 84 [.ref a 0 0, .d (encOpn o), .ref r 0 0] S0 (Res S0 a m r (t, z31 t o)) := by
 have hk1 : k0 < 300000 := by omega
 refine wJ rfl zxa ?_
 show Wp cfgS (Try.f84.body.getD .skip) ((.ref a 0 0) :: (.d (encOpn o)) :: (.ref r 0 0) :: uZ (uZ ((.tup []) :: (.tup []) :: (.tup []) :: (.tup []) :: (.tup []) :: (.tup []) :: (.tup []) :: (.tup []) :: []))) S0 [] _
 unfold uZ
 conv => arg 2; whnf
 rw [qQ]
 have hT1 := hT0.keep (Keep.app (l := [Ob.row [.d (encOpn o)] 48]))
 simp (maxSteps:=1000000) (disch:=first|assumption|omega|rfl) only [↓gp, gc, Nat.reduceAdd, hPS, zL]
 refine z9p rfl (zq1 _ a m hT1 hG.told k0 hk1 hG.sm o.a hl) ?_ ?_
 ·intro h0 S1 hK1
  have e : z31 t o = ⟨0, (zN t o.a).1, (getN t (zN t o.a).1).kind, (getN t (zN t o.a).1).links, (getN t (zN t o.a).1).size, [], []⟩ := by unfold z31 zmp; rw [if_neg (by simp [h0]), if_pos hdo]
  have hkx := hG.lj.hasK (vJ hG.told h0)
  rw [e]
  generalize (zN t o.a).1 = x at *
  have hxi := z0e hkx
  have hK02 := (Keep.app.trans hK1).trans (Keep.app (l := [Ob.row [zD (getN t x) (A x) (B x)] 32]))
  have hT2 := hT0.keep hK02
  have hrr := hK02 _ _ hr
  have h6 := qK (S := S1) (o := Ob.row [zD (getN t x) (A x) (B x)] 32)
  simp (maxSteps:=1000000) (disch:=first|assumption|omega|rfl) only [↓gp, gc, Nat.reduceAdd, hPS, zagg, z32v, kV, kM, svz, sv, lv, zL, zI]
  generalize S1 ++ [Ob.row [zD (getN t x) (A x) (B x)] 32] = S2 at *
  have hne : r ≠ S1.length := by
   rintro rfl
   have q := h6.symm.trans hrr
   simp only [Option.some.injEq, Ob.row.injEq] at q
   exact absurd q.2 (by decide)
  have hr6 := zC h6
  have hrv := zC hrr
  have hpr := fun y => qG (y := y) hrr
  have hrv2 : ∀ y, rowE (S2.set r (.row [y] 44)) r 0 = some y := fun y => zC (kD hrr)
  have hpr2 : ∀ y z, z11 (S2.set r (.row [y] 44)) r 0 z = some (S2.set r (.row [z] 44)) := fun y z => by
   rw [qG (y := z) (kD hrr), List.set_set]
  have hr62 : ∀ y, rowE (S2.set r (.row [y] 44)) S1.length 0 = some (zD (getN t x) (A x) (B x)) := fun y => zC (by rw [List.getElem?_set_ne hne]; exact h6)
  have hl1 : ∀ y, jP Try.prog (S2.set r (.row [y] 44)) 3 (.ref S1.length 0 1) = some (.d (.int .i64 (getN t x).kind)) := fun y => (jN (hr62 y)).trans lv1
  have hl2 : ∀ y, jP Try.prog (S2.set r (.row [y] 44)) 3 (.ref S1.length 0 2) = some (.d (.int .i64 (getN t x).links)) := fun y => (jN (hr62 y)).trans lv2
  have hl4 : ∀ y, jP Try.prog (S2.set r (.row [y] 44)) 3 (.ref S1.length 0 4) = some (.d (.int .i64 (getN t x).size)) := fun y => (jN (hr62 y)).trans lv4
  refine kK (is := [0, 1, 2, 3, 4, 5, 6, 7, 8, 9, 10, 11, 12, 13, 14, 15, 16, 17, 18, 19, 20, 21, 22, 23]) (h := 0) (by kernel_rfl) (by kernel_rfl) ?_
  simp (maxSteps:=1000000) (disch:=first|assumption|omega|rfl) only [List.replicate_zero, eq_self, gw, ga, Nat.reduceAdd, ↓gq, hPS, List.append_nil, qP, qI, hr6, hrv, hpr, hrv2, hpr2, hr62, lv0, lv1, lv2, lv4, hxi, av1, av2, av3, av4]
  have rd1 : ∀ y (f : Nat) (k : Int), jP Try.prog (S2.set r (.row [y] 44)) 3 (.ref S1.length 0 f) = some (.d (.int .i64 k)) → (jP Try.prog (S2.set r (.row [y] 44)) 3 (.ref S1.length 0 f)).map (fun v => Rs.val v (S2.set r (.row [y] 44)) 1) = some (.val (.d (.int .i64 k)) (S2.set r (.row [y] 44)) 1) := fun y f k h => by rw [h]; rfl
  refine ⟨jJ rfl (by kernel_rfl) rfl (rd1 _ 4 _ (hl4 _)) vD (jJ rfl (by kernel_rfl) rfl (rd1 _ 2 _ (hl2 _)) vD (jJ rfl (by kernel_rfl) rfl (rd1 _ 1 _ (hl1 _)) vD (zE (by kernel_rfl) qO))), ?_⟩
  refine ⟨jJ rfl (by kernel_rfl) rfl (rd1 _ 4 _ (hl4 _)) vD (jJ rfl (by kernel_rfl) rfl (rd1 _ 2 _ (hl2 _)) vD (zE (by kernel_rfl) (zE (by kernel_rfl) qO))), ?_⟩
  refine ⟨jJ rfl (by kernel_rfl) rfl (rd1 _ 4 _ (hl4 _)) vD (zE (by kernel_rfl) (zE (by kernel_rfl) (zE (by kernel_rfl) qO))), ?_⟩
  refine ⟨zE (by kernel_rfl) (zE (by kernel_rfl) (zE (by kernel_rfl) (zE (by kernel_rfl) qO))), by kernel_rfl, ?_⟩
  simp (maxSteps:=1000000) (disch:=first|assumption|omega|rfl) only [↓gp, gc, Nat.reduceAdd, hPS]
  exact ⟨rfl, _, rfl, Res.done (v5 := .ts []) (v6 := .ts []) rfl (hT2.other hrr (by decide) (by decide) (by decide)) (kD hrr) vO (.inl ⟨rfl, rfl⟩) (hK02.toR.setR)⟩
 ·intro h0 S1 hK1
  have e : z31 t o = wF (zN t o.a).2 := by unfold z31; rw [if_pos h0]
  rw [e]
  exact ⟨rfl, Res.fail h0 (Keep.app.trans hK1)⟩
theorem Tree.frameT {S S' : zA} {a m : Nat} {A B : Int → V} {t : List Node} (h : Tree S a m A B t) (hf : ∀ (j : Nat) (o : Ob), S[j]? = some o → ((∃ ys, o = .row ys 5) ∨ (∃ ys, o = .row ys 88) ∨ (∃ ys, o = .row ys 127) ∨ ∃ L c, o = .mp L c) → S'[j]? = some o) : Tree S' a m A B t := by
 obtain ⟨L, c, hm, hrest⟩ := h.st.mp
 refine ⟨hf _ _ h.cell (.inr (.inr (.inl ⟨_, rfl⟩))), ⟨L, c, hf _ _ hm (.inr (.inr (.inr ⟨_, _, rfl⟩))), hrest⟩, fun x hx => (h.st.da x hx).frame2 fun j q hq hi => ?_, fun x hx => (h.st.na x hx).frame2 fun j q hq hi => ?_, h.st.z, h.st.sa, h.st.sb⟩
 ·obtain ⟨ys, e⟩ := (h.st.da x hx).row hi
  rw [e] at hq; cases hq
  exact hf _ _ e (.inl ⟨_, rfl⟩)
 ·obtain ⟨ys, e⟩ := (h.st.na x hx).row hi
  rw [e] at hq; cases hq
  exact hf _ _ e (.inr (.inl ⟨_, rfl⟩))
theorem zg8 {α : Type} {enc : α → D} {t e : TypeId} {S : zA} {v : V} {l : List α} {a : α} (hu : Try.prog.underlying t = some (.slice e)) (hz : zOk Try.prog e = true) (hs : (sz Try.prog e).isSome = true) (hf : qD Try.prog e (.d (enc a)) = true) (hr : room Try.prog e (l.length + 1) = true) (h : SlE enc S v e l) :
  ∃ v' S' c, zW Try.prog S t t v (.ts [enc a]) = some (v', S', c) ∧ (c = 2 ∨ c = 3) ∧ SlE enc S' v' e (l ++ [a]) ∧ (∀ (j : Nat) (o : Ob), S[j]? = some o → idOf v ≠ some j → S'[j]? = some o) ∧ idOf v' = some S.length ∧ S.length ≤ S'.length := by
 have src1 : srcV Try.prog S e t (.ts [enc a]) = some [.d (enc a)] := by
  simp only [srcV, hu, kU, List.map_cons, List.map_nil, List.all_cons, List.all_nil, hf, hs, Bool.and_self, if_true]
 rcases h with ⟨rfl, rfl⟩ | ⟨id, ys, rfl, h1⟩
 ·refine ⟨.rs S.length 0 1, S ++ [.row [.d (enc a)] e], 2, ?_, .inl rfl, .inr ⟨S.length, [], rfl, by simp⟩, fun j o hj _ => Keep.app _ _ hj, rfl, by simp⟩
  have hr' : room Try.prog e (0 + (0 + 1)) = true := by simpa using hr
  simp only [zW, hu, src1, hz, if_true, List.all_nil, List.length_nil, hr', Bool.and_self, List.map_nil, List.nil_append]
 ·have hid := zZ h1
  have htk : ((l ++ ys).map fun a => V.d (enc a)).take l.length = l.map fun a => V.d (enc a) := by rw [← List.map_take, List.take_append_of_le_length (Nat.le_refl _), List.take_length]
  refine ⟨.rs S.length 0 (l.length + 1), S.set id .dead ++ [.row (l.map (fun a => V.d (enc a)) ++ [.d (enc a)]) e], 3, ?_, .inr rfl, .inr ⟨S.length, [], by simp, ?_⟩, ?_, rfl, by simp⟩
  ·have hlen : ((l ++ ys).map fun a => V.d (enc a)).length = l.length + ys.length := by simp
   have h2 : l.length ≤ l.length + ys.length := by omega
   have hr' : room Try.prog e (l.length + (0 + 1)) = true := by simpa using hr
   simp only [zW, hu, src1, hz, if_true, h1, hlen, hr', h2, htk, List.length_nil, decide_true, Bool.and_self, Nat.zero_add]
  ·rw [List.getElem?_append_right (by simp)]
   simp
  ·intro j o hj hn
   have hjl := zZ hj
   rw [List.getElem?_append_left (by simpa using hjl), List.getElem?_set_ne]
   ·exact hj
   ·rintro rfl; exact hn rfl
theorem se88 {e : Ent} {x0 x1 : V} : qL Try.prog 88 0 (.d (zJ e)) (.agg [x0, x1]) = some (.d (zJ e)) := by kernel_rfl
theorem le88 {e : Ent} : kE Try.prog 88 0 (some (.d (zJ e))) = some (.d (zJ e)) := by kernel_rfl
theorem q27 {S : zA} {v : V} {l : List (List UInt8)} (h : SlE encS S v 9 l) : qD Try.prog 42 v = true := by
 rcases h with ⟨rfl, _⟩ | ⟨id, ys, rfl, _⟩ <;> kernel_rfl
theorem zzn (S0 : zA) (a m r : Nat) (A B : Int → V) (t : List Node) (n : Node) (vb : V) (hnl : n.names.length < 900000) (R : Post) (x0 x1 x3 x4 x5 x6 : V) : ∀ (k i : Nat) (S : zA) (v6 : V) (g7 g8 g9 gP gQ gM gF gD gG gH gC gE gL gI gJ gN gO gR gS gT gX gW gU gV gZ gY : V), n.names.length - i = k → i ≤ n.names.length → Tree S a m A B t → SlE zJ S vb 88 n.names → S[r]? = some (.row [ansV okN (.ts []) v6] 44) → SlE encS S v6 9 ((n.names.take i).map (·.name)) → KeepR r S0 S →
 (∀ S v6 i' g7 g8 g9 gP gQ gM gF gD gG gH gC gE gL gI gJ gN gO gR gS gT gX gW gU gV gZ gY, Tree S a m A B t → S[r]? = some (.row [ansV okN (.ts []) v6] 44) → SlE encS S v6 9 (n.names.map (·.name)) → KeepR r S0 S → R (.exit 0) (x0 :: x1 :: (.ref r 0 0) :: x3 :: x4 :: x5 :: x6 :: g7 :: g8 :: g9 :: gP :: gQ :: gM :: gF :: gD :: gG :: gH :: gC :: vb :: (.d (.int .i64 n.names.length)) :: i' :: gE :: gL :: gI :: gJ :: gN :: gO :: gR :: gS :: gT :: gX :: gW :: gU :: gV :: gZ :: gY :: []) S []) →
 Wp cfgS (.loop (lpOf (Try.f83.body.getD .skip) 0)) (x0 :: x1 :: (.ref r 0 0) :: x3 :: x4 :: x5 :: x6 :: g7 :: g8 :: g9 :: gP :: gQ :: gM :: gF :: gD :: gG :: gH :: gC :: vb :: (.d (.int .i64 n.names.length)) :: (.d (.int .i64 i)) :: gE :: gL :: gI :: gJ :: gN :: gO :: gR :: gS :: gT :: gX :: gW :: gU :: gV :: gZ :: gY :: []) S [] R := by
 intro k
 induction k with
 | zero =>
  intro i S v6 g7 g8 g9 gP gQ gM gF gD gG gH gC gE gL gI gJ gN gO gR gS gT gX gW gU gV gZ gY hk hi hT hvb hrr hv6 hKR hR
  have hie : i = n.names.length := by omega
  rw [qQ]
  refine qC ?_
  conv => arg 2; whnf
  simp (maxSteps:=1000000) (disch:=first|assumption|omega|rfl) only [↓gp, gc, Nat.reduceAdd, hPS]
  exact hR _ _ _ _ _ _ _ _ _ _ _ _ _ _ _ _ _ _ _ _ _ _ _ _ _ _ _ _ _ hT hrr (by rw [hie, List.take_length] at hv6; exact hv6) hKR
 | succ k ih =>
  intro i S v6 g7 g8 g9 gP gQ gM gF gD gG gH gC gE gL gI gJ gN gO gR gS gT gX gW gU gV gZ gY hk hi hT hvb hrr hv6 hKR hR
  have hlt : i < n.names.length := by omega
  have htk : n.names.take (i + 1) = n.names.take i ++ [n.names[i]] := by rw [List.take_succ_eq_append_getElem hlt]
  obtain ⟨id, hix, hre, hidl⟩ := hvb.ix (t := 30) Try.underlying30 (by kernel_rfl) hlt
  rw [qQ]
  refine qC ?_
  conv => arg 2; whnf
  generalize n.names[i] = e at *
  have h8 := qK (S := S) (o := Ob.row [.d (zJ e)] 88)
  have hr8 := zC h8
  have hrr1 := qA (l := [Ob.row [.d (zJ e)] 88]) hrr
  have hrv := zC hrr1
  have hv61 := hv6.keep (Keep.app (l := [Ob.row [.d (zJ e)] 88]))
  obtain ⟨v6', S2, c, happ, hc, hv62, hf2, hid2, hl2⟩ := zg8 (t := 42) (a := e.name) Try.underlying42 zvz zv4 ff9 (zrq (by rw [List.length_map, List.length_take]; omega)) hv61
  have notv : ∀ (j : Nat) (ys : List V) (u : TypeId), u ≠ 9 → (S ++ [Ob.row [.d (zJ e)] 88])[j]? = some (.row ys u) → idOf v6 ≠ some j := fun j ys u hu hj hh => by
   obtain ⟨zs, q⟩ := hv61.row hh
   rw [hj] at q; cases q; exact hu rfl
  have hrr2 := hf2 _ _ hrr1 (notv _ _ _ (by decide) hrr1)
  have hrv2 := zC hrr2
  have hpr2 := fun y => qG (y := y) hrr2
  have hst := av6 (x := okN) (v5 := .ts []) (v6 := v6) (q27 hv62) hv62.cells
  simp (maxSteps:=1000000) (disch:=first|assumption|omega|rfl) only [↓gp, gc, Nat.reduceAdd, hPS, hix, hre, le88, z88, zf88, se88, zL, zI]
  have hne : r ≠ S.length := by have := zZ hrr; omega
  have fin : ∀ g7 g8 g9 gP gQ gM gF gD gG gH gC gE gL gI gJ gN gO gR gS gT gX gW gU gV gZ gY, Wp cfgS (.loop (lpOf (Try.f83.body.getD .skip) 0)) (x0 :: x1 :: (.ref r 0 0) :: x3 :: x4 :: x5 :: x6 :: g7 :: g8 :: g9 :: gP :: gQ :: gM :: gF :: gD :: gG :: gH :: gC :: vb :: (.d (.int .i64 n.names.length)) :: (.d (.int .i64 ((i : Int) + 1))) :: gE :: gL :: gI :: gJ :: gN :: gO :: gR :: gS :: gT :: gX :: gW :: gU :: gV :: gZ :: gY :: []) (S2.set r (.row [ansV okN (.ts []) v6'] 44)) [] R := fun g7 g8 g9 gP gQ gM gF gD gG gH gC gE gL gI gJ gN gO gR gS gT gX gW gU gV gZ gY => by
   have hci : (i : Int) + 1 = ((i + 1 : Nat) : Int) := by omega
   rw [hci]
   have hT2 : Tree S2 a m A B t := (hT.keep (Keep.app (l := [Ob.row [.d (zJ e)] 88]))).frameT fun j q hj hq => hf2 j q hj (by
    intro hh
    obtain ⟨zs, h9⟩ := hv61.row hh
    rw [h9] at hj
    cases hj
    rcases hq with ⟨ys, hq⟩ | ⟨ys, hq⟩ | ⟨ys, hq⟩ | ⟨L, c, hq⟩ <;> cases hq)
   refine ih (i + 1) _ v6' _ _ _ _ _ _ _ _ _ _ _ _ _ _ _ _ _ _ _ _ _ _ _ _ _ _ (by omega) (by omega) (hT2.other hrr2 (by decide) (by decide) (by decide)) ?_ (kD hrr2) ?_ ((hKR.trans ((Keep.app (l := [Ob.row [.d (zJ e)] 88])).toR.trans (fun j ys e he _ hj => hf2 j _ hj (notv _ _ _ (by rcases he with rfl | rfl <;> decide) hj)))).setR) hR
   ·refine (hvb.keep (Keep.app (l := [Ob.row [.d (zJ e)] 88]))).frame2 fun j q hj hh => ?_
    obtain ⟨ys, h9⟩ := (hvb.keep (Keep.app (l := [Ob.row [.d (zJ e)] 88]))).row hh
    have h10 := hf2 j _ h9 (notv _ _ _ (by decide) h9)
    rw [List.getElem?_set_ne]
    ·rw [h9] at hj; cases hj; exact h10
    ·rintro rfl
     rw [hrr2] at h10
     simp only [Option.some.injEq, Ob.row.injEq] at h10
     exact absurd h10.2 (by decide)
   ·rw [htk, List.map_append]
    refine hv62.frame2 fun j q hj hh => ?_
    rw [hid2] at hh
    cases hh
    rw [List.getElem?_set_ne]
    ·exact hj
    ·have := zZ hrr1; omega
  rcases hc with rfl | rfl
  ·skip
   refine kK (is := [0, 1, 2, 3, 4, 5, 6, 7, 8, 9, 10, 11]) (h := 0) (by kernel_rfl) (by kernel_rfl) ?_
   simp (maxSteps:=1000000) (disch:=first|assumption|omega|rfl) only [List.replicate_zero, eq_self, gw, ga, Nat.reduceAdd, ↓gq, hPS, List.append_nil, qP, qI, hr8, hrv, al6, le0, bs42, happ, hrv2, hst, hpr2, Option.map_some, Option.map_none]
   refine ⟨zE (by kernel_rfl) (zE (by kernel_rfl) qO), zE (by kernel_rfl) (zE (by kernel_rfl) qO), by kernel_rfl, ?_⟩
   simp (maxSteps:=1000000) (disch:=first|assumption|omega|rfl) only [↓gp, gc, Nat.reduceAdd, hPS]
   exact fin _ _ _ _ _ _ _ _ _ _ _ _ _ _ _ _ _ _ _ _ _ _ _ _ _ _
  ·skip
   refine kK (is := [0, 1, 2, 3, 4, 5, 6, 7, 8, 9, 10, 11]) (h := 0) (by kernel_rfl) (by kernel_rfl) ?_
   simp (maxSteps:=1000000) (disch:=first|assumption|omega|rfl) only [List.replicate_zero, eq_self, gw, ga, Nat.reduceAdd, ↓gq, hPS, List.append_nil, qP, qI, hr8, hrv, al6, le0, bs42, happ, hrv2, hst, hpr2, Option.map_some, Option.map_none]
   refine ⟨zE (by kernel_rfl) (zE (by kernel_rfl) qO), zE (by kernel_rfl) (zE (by kernel_rfl) qO), by kernel_rfl, ?_⟩
   simp (maxSteps:=1000000) (disch:=first|assumption|omega|rfl) only [↓gp, gc, Nat.reduceAdd, hPS]
   exact fin _ _ _ _ _ _ _ _ _ _ _ _ _ _ _ _ _ _ _ _ _ _ _ _ _ _
theorem q2s (S0 : zA) (a m r : Nat) (A B : Int → V) (t : List Node) (hT0 : Tree S0 a m A B t) (k0 : Nat) (hk0 : k0 < 200000) (hG : Good k0 t) (o : Opn) (hdo : o.does = 10) (hl : o.a.length < 900000) (hr : S0[r]? = some (.row [ansV okN (.ts []) (.ts [])] 44)) :
  EvS cfgS 83 [.ref a 0 0, .d (encOpn o), .ref r 0 0] S0 (Res S0 a m r (t, z31 t o)) := by
 have hk1 : k0 < 300000 := by omega
 refine wJ rfl q0m ?_
 show Wp cfgS (Try.f83.body.getD .skip) ((.ref a 0 0) :: (.d (encOpn o)) :: (.ref r 0 0) :: uZ (uZ (uZ ((.tup []) :: (.tup []) :: (.tup []) :: [])))) S0 [] _
 unfold uZ
 conv => arg 2; whnf
 rw [qQ]
 have hT1 := hT0.keep (Keep.app (l := [Ob.row [.d (encOpn o)] 48]))
 simp (maxSteps:=1000000) (disch:=first|assumption|omega|rfl) only [↓gp, gc, Nat.reduceAdd, hPS, zL]
 refine z9p rfl (zq1 _ a m hT1 hG.told k0 hk1 hG.sm o.a hl) ?_ ?_
 ·intro h0 S1 hK1
  have e : z31 t o = if (getN t (zN t o.a).1).kind ≠ 2 then wF 6 else zr6 ((getN t (zN t o.a).1).names.map (·.name)) := by unfold z31 zmp; rw [if_neg (by simp [h0]), if_neg (by omega), if_neg (by omega)]
  have hgn : (getN t (zN t o.a).1).names.length < 900000 := Nat.lt_of_le_of_lt (hG.sm.gnms _) (by omega)
  rw [e]
  generalize (zN t o.a).1 = x at *
  have hK02 := (Keep.app.trans hK1).trans (Keep.app (l := [Ob.row [zD (getN t x) (A x) (B x)] 32]))
  have hT2 := hT0.keep hK02
  have hrr := hK02 _ _ hr
  have hlen := (hT2.st.na x trivial).len (t := 30) Try.underlying30
  by_cases c1 : (getN t x).kind = 2
  ·rw [if_neg (fun hh => hh c1)]
   simp (maxSteps:=1000000) (disch:=first|assumption|omega|rfl) only [↓gp, gc, Nat.reduceAdd, hPS, zagg, z32v, kV, kM, svz, sv, lv, lv1, lv6, hlen, zL, zI, jK]
   refine zzn S0 a m r A B t (getN t x) (B x) hgn _ _ _ _ _ _ _ (getN t x).names.length 0 _ (.ts []) _ _ _ _ _ _ _ _ _ _ _ _ _ _ _ _ _ _ _ _ _ _ _ _ _ _ rfl (by omega) hT2 (hT2.st.na x trivial) hrr (.inl ⟨rfl, rfl⟩) hK02.toR ?_
   intro S v6 i' g7 g8 g9 gP gQ gM gF gD gG gH gC gE gL gI gJ gN gO gR gS gT gX gW gU gV gZ gY hT hrv hv6 hKR
   simp (maxSteps:=1000000) (disch:=first|assumption|omega|rfl) only [↓gp, gc, Nat.reduceAdd, hPS]
   exact ⟨rfl, _, rfl, Res.done (v5 := .ts []) (v6 := v6) rfl hT hrv vO hv6 hKR⟩
  ·rw [if_pos c1]
   have h6 : (6 : Int) ≠ 0 := by omega
   simp (maxSteps:=1000000) (disch:=first|assumption|omega|rfl) only [↓gp, gc, Nat.reduceAdd, hPS, zagg, z32v, kV, kM, svz, sv, lv, lv1, zL, zI, jX h6]
   exact ⟨rfl, Res.fail h6 hK02⟩
 ·intro h0 S1 hK1
  have e : z31 t o = wF (zN t o.a).2 := by unfold z31; rw [if_pos h0]
  rw [e]
  exact ⟨rfl, Res.fail h0 (Keep.app.trans hK1)⟩
end Go.Proofs.Ytghllhghboaagaa
end
section
namespace Go.Vm
open Go
section
variable {C : Cfg} {ops : Array Oper} {base : Nat} {F : Dfs} {Q : Post}
def WpNw (C : Cfg) (ops : Array Oper) (base : Nat) (K : List (Nat × Nat) → Nat → List Nat → V → zA → Prop) : Ws → List (Nat × Nat) → List Nat → List V → zA → Prop
 | _, _, [], _, _ => False
 | ws, cs, i :: is, T, S => ∃ o, ops[i]? = some o ∧ ((∃ n v S', panO C (run C n) ops o T S = some (v, S') ∧ K cs i is v S') ∨ (∃ n v S' c, effC C (run C n) ops (base + i) o T S = some (v, S', c) ∧ (2 < c → WAll C ops base ws i S') ∧ WpNw C ops base K (if c = 1 then (i, T, v) :: ws else ws) (cs ++ [(i, c)]) is (putT T o.dst v) S'))
theorem zoa {K : List (Nat × Nat) → Nat → List Nat → V → zA → Prop} : ∀ {is : List Nat} {ws : Ws} {cs : List (Nat × Nat)} {T : List V} {S : zA}, WpNw C ops base K ws cs is T S → ∃ n v S' cs' p rest, seqP C (run C n) ops (befs ops) base ws is T S = some (v, S', cs', p, rest) ∧ K (cs ++ cs') p rest v S'
 | [], ws, cs, T, S, h => h.elim
 | i :: is, ws, cs, T, S, h => by
  obtain ⟨o, ho, h⟩ := h
  rcases h with ⟨n, v, S', h1, h2⟩ | ⟨n, v, S', c, h1, h2, h3⟩
  ·exact ⟨n, v, S', [], i, is, by simp only [seqP, ho, h1], by simpa using h2⟩
  ·obtain ⟨m, v2, S2, cs', p, rest, h4, h5⟩ := zoa h3
   have hw : ∃ k, 2 < c → ∀ m, k ≤ m → ws.all (kG C (run C m) ops (befs ops) base i S') = true := by
    by_cases hc : 2 < c
    ·obtain ⟨k, hk⟩ := zht (h2 hc)
     exact ⟨k, fun _ => hk⟩
    ·exact ⟨0, fun h => absurd h hc⟩
   obtain ⟨k, hk⟩ := hw
   have he := z07 (z4l C (show n ≤ max (max n m) k by omega)) h1
   have hs := zap (z4l C (show m ≤ max (max n m) k by omega)) h4
   refine ⟨max (max n m) k, v2, S2, (i, c) :: cs', p, rest, ?_, by simpa using h5⟩
   simp only [seqP, ho, z9z he, he, hs]
   rw [if_neg]
   rintro ⟨hc, hall⟩
   rw [hk hc _ (by omega)] at hall
   cases hall
theorem zdt {id : Nat} {T : List V} {S : zA} {is : List Nat} {h : Nat} (ho : z29 C.shared ops = is) (hh : z03 ops = h) (hd : WpNw C ops S.length (fun cs p rest v S' => zpq C.P ops cs p rest = true ∧ Q (.pan v) T (killAll S.length rest S') F) [] [] is T (S ++ List.replicate h .hole)) : Wp C (.region id ops true) T S F Q := by
 subst ho; subst hh
 obtain ⟨n, v, S', cs', p, rest, h1, h2, h3⟩ := zoa hd
 refine ⟨n + 1, .pan v, T, _, F, ?_, h3⟩
 have hn : seqC C (run C n) ops (befs ops) S.length [] (z29 C.shared ops) T (S ++ List.replicate (z03 ops) .hole) = none := z6f (fun _ _ _ _ h => h) h1
 simp only [exec, hn, h1]
 rw [if_pos (by simpa using h2)]
section
variable {K : List (Nat × Nat) → Nat → List Nat → V → zA → Prop} {ws : Ws} {cs : List (Nat × Nat)} {i : Nat} {is : List Nat} {T : List V} {S S' : zA} {o : Oper} {v : V} {c : Nat}
theorem z6b (ho : ops[i]? = some o) (he : effC C (run C 0) ops (base + i) o T S = some (v, S', c)) (hc : 2 < c → WAll C ops base ws i S') (hk : WpNw C ops base K (if c = 1 then (i, T, v) :: ws else ws) (cs ++ [(i, c)]) is (putT T o.dst v) S') : WpNw C ops base K ws cs (i :: is) T S :=
 ⟨o, ho, .inr ⟨0, v, S', c, he, hc, hk⟩⟩
theorem zo6 {id : Nat} {f : FuncId} {args : List V} {n : Nat} (hw : qB ops T o = some true) (ha : kS o = false) (hop : opV C.P S T o = some (.enter f args)) (hs : C.shared f = true) (hn : run C n f args S = some (.ret v, S')) : effC C (run C n) ops id o T S = some (v, S', 3) := by
 have hc : kR C (run C n) f args S = some (.ret v, S', 3) := by
  unfold kR
  simp only [hs, if_true, hn, Option.map_some]
 simp only [effC, hw, ha, Bool.false_eq_true, if_false, hop, hc]
 rfl
theorem zln {f : FuncId} {args : List V} {n : Nat} (hw : qB ops T o = some true) (ha : kS o = false) (hop : opV C.P S T o = some (.enter f args)) (hs : C.shared f = true) (hn : run C n f args S = some (.pan v, S')) : panO C (run C n) ops o T S = some (v, S') := by
 have hc : kR C (run C n) f args S = some (.pan v, S', 3) := by
  unfold kR
  simp only [hs, if_true, hn, Option.map_some]
 simp only [panO, hw, ha, Bool.false_eq_true, if_false, hop, hc]
end
end
def cvV (P : Program) (args : List V) : V → Option Rs
 | .fn (.func g) first caps => if args.all V.one && (zF P g).isSome then some (.enter g (first ++ args ++ caps)) else none
 | .d (.fn (.func g) first caps) => if args.all V.one && (zF P g).isSome then some (.enter g (first.map .d ++ args ++ caps.map .d)) else none
 | _ => none
theorem op_callv {P : Program} {S : zA} {T : List V} {dst : Option Tmp} {ty : TypeId} {pos : String} {after : Array Edge} {g : Option (Nat × Bool)} {t : Nat} {args : Array Operand} {ts : Array TypeId} : opV P S T ⟨dst, .call { callee := .value (.tmp t), args := args, argTypes := ts }, ty, pos, after, g⟩ = cvV P (args.toList.map (zG T)) (zG T (.tmp t)) := by
 simp only [opV, cvV]
 rfl
theorem zz4 {P : Program} {args first caps : List V} {g : FuncId} (h1 : args.all V.one = true) (h2 : (zF P g).isSome = true) : cvV P args (.fn (.func g) first caps) = some (.enter g (first ++ args ++ caps)) := by
 simp only [cvV, h1, h2, Bool.and_self, if_true]
section
variable {C : Cfg} {ops : Array Oper} {dst : Option Tmp} {op : Op} {ty : TypeId} {pos : String} {after : Array Edge} {l : List Oper} {T : List V} {S : zA} {F : Dfs} {Q : Post}
end
end Go.Vm
end
section
namespace Go.Proofs.Ytghllhghboaagaa
open Go.Vm
def z8b (d : Int) : FuncId := if d = 1 ∨ d = 2 then 76 else if d = 3 then 77 else if d = 4 ∨ d = 5 then 78 else if d = 6 then 79 else if d = 7 then 80 else if d = 8 then 81 else if d = 9 then 82 else if d = 10 then 83 else if d = 11 then 84 else if d = 12 then 85 else 86
def zdp (a : Nat) (d : Int) : List V := if 1 ≤ d ∧ d ≤ 12 then [.ref a 0 0] else []
theorem mf_r {fn : Fn} {S : zA} {a : Nat} : mfS fn S [.ref a 0 0] [] = some (.val (.fn fn [.ref a 0 0] []) S 0) := rfl
theorem zsa {T : List V} : zG T (.const .nilFunc) = .d .nilf := rfl
theorem znl {T : List V} {f : FuncId} : zG T (.func f) = .fn (.func f) [] [] := rfl
theorem zxd (S0 : zA) (a : Nat) (d : Int) (h1 : 1 ≤ d) (h13 : d ≤ 13) : EvS cfgS 44 [.ref a 0 0, .d (.int .i64 d)] S0 fun o S => S = S0 ∧ o = .ret (.fn (.func (z8b d)) (zdp a d) []) := by
 refine wJ rfl q0d ?_
 show Wp cfgS (Try.f44.body.getD .skip) ((.ref a 0 0) :: (.d (.int .i64 d)) :: uZ (uZ (uZ (uZ ((.tup []) :: (.tup []) :: (.tup []) :: (.tup []) :: (.tup []) :: (.tup []) :: []))))) S0 [] _
 unfold uZ
 conv => arg 2; whnf
 rw [qQ]
 have hd : d = 1 ∨ d = 2 ∨ d = 3 ∨ d = 4 ∨ d = 5 ∨ d = 6 ∨ d = 7 ∨ d = 8 ∨ d = 9 ∨ d = 10 ∨ d = 11 ∨ d = 12 ∨ d = 13 := by omega
 have hG : ∀ (g : FuncId) (l : List V), z8b d = g → zdp a d = l → (∃ v, (some (V.fn (.func g) l []) : Option V) = some v ∧ (S0 = S0 ∧ Out.ret v = .ret (.fn (.func (z8b d)) (zdp a d) []))) := fun g l h1 h2 => ⟨_, rfl, rfl, by rw [h1, h2]⟩
 rcases hd with h | h | h | h | h | h | h | h | h | h | h | h | h
 all_goals simp (maxSteps:=1000000) (disch:=first|assumption|omega|rfl) only [↓gp, gc, Nat.reduceAdd, hPS, ↓z9y, mf_r, zsa, znl]
 all_goals exact ⟨rfl, hG _ _ (by simp [z8b, h]) (by simp [zdp, h])⟩
theorem zn4 (d : Int) : (zF Try.prog (z8b d)).isSome = true := by
 unfold z8b
 repeat' split
 all_goals kernel_rfl
theorem znv (d : Int) : cfgS.shared (z8b d) = true := by
 unfold z8b
 repeat' split
 all_goals kernel_rfl
theorem q0z (S0 : zA) (a m r : Nat) (A B : Int → V) (t : List Node) (hT0 : Tree S0 a m A B t) (o : Opn) (hr : S0[r]? = some (.row [ansV okN (.ts []) (.ts [])] 44)) :
  EvS cfgS 86 [.d (encOpn o), .ref r 0 0] S0 (Res S0 a m r (t, okN)) := by
 refine wJ rfl zxi ?_
 show Wp cfgS (Try.f86.body.getD .skip) ((.d (encOpn o)) :: (.ref r 0 0) :: (.tup []) :: (.tup []) :: []) S0 [] _
 conv => arg 2; whnf
 rw [qQ]
 simp (maxSteps:=1000000) (disch:=first|assumption|omega|rfl) only [↓gp, gc, Nat.reduceAdd, hPS, zL]
 exact ⟨rfl, _, rfl, Res.done (v5 := .ts []) (v6 := .ts []) rfl (hT0.keep Keep.app) (qA hr) vO (.inl ⟨rfl, rfl⟩) Keep.app.toR⟩
theorem zo4 (S0 : zA) (a m r : Nat) (A B : Int → V) (t : List Node) (hT0 : Tree S0 a m A B t) (k0 : Nat) (hk0 : k0 < 190000) (hG : Good k0 t) (o : Opn) (hm : mayN o = true) (hl : o.a.length < 900000) (hlb : o.b.length < 900000) (hr : S0[r]? = some (.row [ansV okN (.ts []) (.ts [])] 44)) :
  EvS cfgS (z8b o.does) (zdp a o.does ++ [.d (encOpn o), .ref r 0 0] ++ []) S0 (Res S0 a m r (jL t o)) := by
 have hk1 : k0 < 200000 := by omega
 have hm2 := of_decide_eq_true hm
 have hd : o.does = 1 ∨ o.does = 2 ∨ o.does = 3 ∨ o.does = 4 ∨ o.does = 5 ∨ o.does = 6 ∨ o.does = 7 ∨ o.does = 8 ∨ o.does = 9 ∨ o.does = 10 ∨ o.does = 11 ∨ o.does = 12 ∨ o.does = 13 := by omega
 have hs : jL t o = if o.does < 3 then z3j t o
  else if o.does = 3 then z3v t o
  else if o.does < 6 then vF t o
  else if o.does = 6 then wY t o
  else if o.does < 10 then vG t o
  else if o.does < 13 then (t, z31 t o)
  else (t, okN) := by
  unfold jL
  rw [if_neg (by rw [hm]; exact Bool.noConfusion)]
 rw [hs]
 unfold z8b zdp
 rcases hd with h | h | h | h | h | h | h | h | h | h | h | h | h
 ·simp only [h]; exact zn3 S0 a m r A B t hT0 k0 hk1 hG o hl hr
 ·simp only [h]; exact zn3 S0 a m r A B t hT0 k0 hk1 hG o hl hr
 ·simp only [h]; exact q2g S0 a m r A B t hT0 k0 hk1 hG o hl hlb hr
 ·simp only [h]; exact zo8 S0 a m r A B t hT0 k0 hk1 hG o (.inl h) hl hr
 ·simp only [h]; exact zo8 S0 a m r A B t hT0 k0 hk1 hG o (.inr h) hl hr
 ·simp only [h]; exact zua S0 a m r A B t hT0 k0 hk0 hG o hl hlb hr
 ·simp only [h]; exact zwb S0 a m r A B t hT0 k0 hk1 hG o h hl hm2.2.2 hr
 ·simp only [h]; exact q0w S0 a m r A B t hT0 k0 hk1 hG o h hl hr
 ·simp only [h]; exact zlq S0 a m r A B t hT0 k0 hk1 hG o h hl hr
 ·simp only [h]; exact q2s S0 a m r A B t hT0 k0 hk1 hG o h hl hr
 ·simp only [h]; exact q1w S0 a m r A B t hT0 k0 hk1 hG o h hl hr
 ·simp only [h]; exact zxf S0 a m r A B t hT0 k0 hk1 hG o h hl hr
 ·simp only [h]; exact q0z S0 a m r A B t hT0 o hr
theorem lr94 {a : Nat} : kE Try.prog 94 0 (some (.ref a 0 0)) = some (.ref a 0 0) := by kernel_rfl
theorem zt5 {n : Nat} {l : List UInt8} : z3d (n + 2) (encB l) (encB l) = true := by
 unfold encB
 show all2 (z3d (n + 1)) _ _ = true
 induction l with
 | nil => rfl
 | cons b r ih =>
  show (z3d (n + 1) (.int .u8 b.toNat) (.int .u8 b.toNat) && all2 (z3d (n + 1)) _ _) = true
  rw [ih]
  simp [z3d, jY]
theorem zeb {o : Opn} : z24 (.d (encOpn o)) (.d (encOpn o)) = true := by
 show (jY (.int .i64 o.does) (.int .i64 o.does) && (jY (.str o.a) (.str o.a) && (jY (.str o.b) (.str o.b) && (jY (.int .i64 o.off) (.int .i64 o.off) && (jY (.int .i64 o.n) (.int .i64 o.n) && (z3d 5 (encB o.data) (encB o.data) && true)))))) = true
 rw [zt5]
 simp [jY]
theorem zd7 {C : Cfg} {call : wA} {ops : Array Oper} {id : Nat} {o : Oper} {T : List V} {S S' : zA} {v : V} {c : Nat} (hw : qB ops T o = some true) (ha : kS o = false) (hop : opV C.P S T o = some (.val v S' c)) : effC C call ops id o T S = some (v, S', num2 c) := by
 simp only [effC, hw, ha, Bool.false_eq_true, if_false, hop]
theorem ld1 {S : zA} {t : TypeId} {y : V} {i f : Nat} (h : jP Try.prog S t (.ref i 0 f) = some y) : (jP Try.prog S t (.ref i 0 f)).map (fun v => Rs.val v S 1) = some (.val y S 1) := by rw [h]; rfl
theorem zz9 (S0 : zA) (a m r i7 i3 : Nat) (A B : Int → V) (t : List Node) (hT0 : Tree S0 a m A B t) (k0 : Nat) (hk0 : k0 < 190000) (hG : Good k0 t) (o : Opn) (hm : mayN o = true) (hl : o.a.length < 900000) (hlb : o.b.length < 900000) (hr : S0[r]? = some (.row [ansV okN (.ts []) (.ts [])] 44)) (h7 : S0[i7]? = some (.row [.ref a 0 0] 94)) (h3 : S0[i3]? = some (.row [.d (encOpn o)] 48)) :
  EvS cfgS 43 [.ref i7 0 0, .ref i3 0 0, .ref r 0 0] S0 (Res S0 a m r (jL t o)) := by
 have hm2 := of_decide_eq_true hm
 obtain ⟨n1, o1, S1, hn1, hS1, ho1⟩ := zxd S0 a o.does hm2.1 hm2.2.1
 rw [hS1, ho1] at hn1
 obtain ⟨n2, o2, S2, hn2, hR⟩ := zo4 S0 a m r A B t hT0 k0 hk0 hG o hm hl hlb hr
 have hr7 := zC h7
 have hr3 := zC h3
 refine wJ rfl zwz ?_
 show Wp cfgS (Try.f43.body.getD .skip) ((.ref i7 0 0) :: (.ref i3 0 0) :: (.ref r 0 0) :: (.tup []) :: (.tup []) :: (.tup []) :: (.tup []) :: (.tup []) :: (.tup []) :: []) S0 [] _
 conv => arg 2; whnf
 rw [qQ]
 have hl7 : jP Try.prog S0 94 (.ref i7 0 0) = some (.ref a 0 0) := (jN hr7).trans lr94
 have hl3 : jP Try.prog S0 48 (.ref i3 0 0) = some (.d (encOpn o)) := (jN hr3).trans lr48
 have hld : jP Try.prog S0 3 (.ref i3 0 0) = some (.d (.int .i64 o.does)) := (jN hr3).trans (by kernel_rfl)
 have hE1 : EvS cfgS 44 [.ref a 0 0, .d (.int .i64 o.does)] S0 fun o' S => S = S0 ∧ o' = .ret (.fn (.func (z8b o.does)) (zdp a o.does) []) := zxd S0 a o.does hm2.1 hm2.2.1
 by_cases he : (jL t o).2.err = 0
 ·refine kK (is := [0, 1, 2, 4, 3, 5]) (h := 0) (by kernel_rfl) (by kernel_rfl) ?_
  simp (maxSteps:=1000000) (disch:=first|assumption|omega|rfl) only [List.replicate_zero, eq_self, gw, ga, Nat.reduceAdd, ↓gq, hPS, List.append_nil, hr7, hr3, lr94, lr48]
  refine z8o rfl hE1 ?_ ?_
  ·rintro v S1' ⟨hS, hv⟩
   have hS := hS.symm
   subst hS
   cases hv
   refine ⟨jJ rfl (by kernel_rfl) rfl (ld1 hl3) zeb (zE (by kernel_rfl) (zE (by kernel_rfl) qO)), ?_⟩
   simp (maxSteps:=1000000) (disch:=first|assumption|omega|rfl) only [List.replicate_zero, eq_self, gw, ga, Nat.reduceAdd, ↓gq, hPS, List.append_nil, op_callv]
   rw [zz4 (by rfl) (zn4 _), List.append_nil]
   have hE2 := zo4 S0 a m r A B t hT0 k0 hk0 hG o hm hl hlb hr
   rw [List.append_nil] at hE2
   refine z8o (znv _) hE2 ?_ ?_
   ·intro v S2' hR'
    refine ⟨zE (by kernel_rfl) (zE (by kernel_rfl) (zE (by kernel_rfl) qO)), by kernel_rfl, ?_⟩
    simp (maxSteps:=1000000) (disch:=first|assumption|omega|rfl) only [↓gp, gc, Nat.reduceAdd, hPS]
    refine ⟨rfl, _, rfl, ?_⟩
    unfold Res at hR' ⊢
    rw [if_pos he] at hR' ⊢
    exact ⟨⟨_, rfl⟩, hR'.2⟩
   ·intro v S2' hR'
    unfold Res at hR'
    rw [if_pos he] at hR'
    obtain ⟨⟨w, hv⟩, _⟩ := hR'
    cases hv
  ·rintro v S' ⟨_, hv⟩
   cases hv
 ·have ho2 : o2 = panD (jL t o).2.err := by
   unfold Res at hR
   rw [if_neg he] at hR
   exact hR.1
  have hk2 : Keep S0 S2 := by
   unfold Res at hR
   rw [if_neg he] at hR
   exact hR.2
  rw [ho2] at hn2
  refine zdt (is := [0, 1, 2, 4, 3, 5]) (h := 0) (by kernel_rfl) (by kernel_rfl) ?_
  rw [List.replicate_zero, List.append_nil]
  refine z6b rfl (zd7 (by kernel_rfl) rfl (ld1 hl7)) (fun h => absurd h (by decide)) ?_
  refine z6b (v := .ref i3 0 0) (S' := S0) (c := 0) rfl (zd7 (c := 0) (by kernel_rfl) rfl (by kernel_rfl)) (fun h => absurd h (by decide)) ?_
  refine z6b rfl (zd7 (by kernel_rfl) rfl (ld1 hld)) (fun h => absurd h (by decide)) ?_
  refine z6b rfl (zd7 (by kernel_rfl) rfl (ld1 hl3)) (fun h => absurd h (by decide)) ?_
  refine ⟨_, rfl, .inr ⟨n1, _, S0, 3, zo6 (by kernel_rfl) rfl (by kernel_rfl) (f := 44) (args := [.ref a 0 0, .d (.int .i64 o.does)]) rfl hn1, fun _ => ?_, ?_⟩⟩
  ·exact jJ rfl (by kernel_rfl) rfl (ld1 hl3) zeb (zE (by kernel_rfl) (zE (by kernel_rfl) qO))
  refine ⟨_, rfl, .inl ⟨n2, _, S2, zln (by kernel_rfl) rfl (f := z8b o.does) (args := zdp a o.does ++ [.d (encOpn o), .ref r 0 0] ++ []) ?_ (znv _) hn2, ?_⟩⟩
  ·exact op_callv.trans (zz4 (by kernel_rfl) (zn4 _))
  refine ⟨by kernel_rfl, rfl, ?_⟩
  show Res S0 a m r (jL t o) (panD (jL t o).2.err) S2
  unfold Res
  rw [if_neg he]
  exact ⟨rfl, hk2⟩
theorem zpk {S : zA} {n : Node} {v1 v2 : V} (h1 : SlE encU S v1 5 n.data) (h2 : SlE zJ S v2 88 n.names) :
  ∃ w S' c u, bs1 Try.prog S 25 (zD n v1 v2) = some (.val w S' c) ∧ srcV Try.prog S' 32 25 w = some [u] ∧ (u = zD n v1 v2 ∨ u = .d (zB n)) ∧ Keep S S' := by
 have src : ∀ {x : V}, qD Try.prog 32 x = true → srcV Try.prog (S ++ [.row [x] 32]) 32 25 (.rs S.length 0 1) = some [x] := fun {x} hx => by
  have e1 : kU (S ++ [.row [x] 32]) (.rs S.length 0 1) = some [x] := by simp [kU]
  simp only [srcV, Try.underlying25, e1, List.all_cons, List.all_nil, hx, zxu, Bool.and_self, if_true]
 rcases h1 with ⟨rfl, hd⟩ | ⟨i, ys, rfl, hi⟩
 ·rcases h2 with ⟨rfl, hn⟩ | ⟨j, zs, rfl, hj⟩
  ·refine ⟨.ts [zB n], S, 0, .d (zB n), ?_, ?_, .inr rfl, Keep.refl⟩
   ·have : zB n = .agg [.int .i64 n.ino, .int .i64 n.kind, .int .i64 n.links, .int .i64 n.parent, .int .i64 n.size, .sl [], .sl []] := by unfold zB encB; rw [hd, hn]; rfl
    rw [this]
    exact zvj
   ·have e1 : kU S (.ts [zB n]) = some [.d (zB n)] := rfl
    simp only [srcV, Try.underlying25, e1, List.all_cons, List.all_nil, zgo, zxu, Bool.and_self, if_true]
  ·exact ⟨.rs S.length 0 1, S ++ [.row [zD n (.ts []) (.rs j 0 n.names.length)] 32], 2, _, by unfold zD; kernel_rfl, src (by unfold zD; exact zqu), .inl rfl, Keep.app⟩
 ·rcases h2 with ⟨rfl, hn⟩ | ⟨j, zs, rfl, hj⟩
  ·exact ⟨.rs S.length 0 1, S ++ [.row [zD n (.rs i 0 n.data.length) (.ts [])] 32], 2, _, by unfold zD; kernel_rfl, src (by unfold zD; exact zqu), .inl rfl, Keep.app⟩
  ·exact ⟨.rs S.length 0 1, S ++ [.row [zD n (.rs i 0 n.data.length) (.rs j 0 n.names.length)] 32], 2, _, by unfold zD; kernel_rfl, src (by unfold zD; exact zqu), .inl rfl, Keep.app⟩
def Us (A B : Int → V) : List Node → List V → Prop
 | [], [] => True
 | n :: ns, u :: us => (u = .d (zB n) ∨ u = zD n (A n.ino) (B n.ino)) ∧ Us A B ns us
 | _, _ => False
theorem Us.snoc {A B : Int → V} {n : Node} {u : V} (hn : u = .d (zB n) ∨ u = zD n (A n.ino) (B n.ino)) : ∀ {ns : List Node} {us : List V}, Us A B ns us → Us A B (ns ++ [n]) (us ++ [u])
 | [], [], _ => ⟨hn, trivial⟩
 | m :: ns, v :: us, h => ⟨h.1, Us.snoc hn h.2⟩
theorem Us.len {A B : Int → V} : ∀ {ns : List Node} {us : List V}, Us A B ns us → us.length = ns.length
 | [], [], _ => rfl
 | m :: ns, v :: us, h => by simp [Us.len h.2]
theorem Us.frz {S : zA} {A B : Int → V} (hf : ∀ n : Node, True) : ∀ {ns : List Node} {us : List V}, (∀ n ∈ ns, Go.Vm.frz S 11 (zD n (A n.ino) (B n.ino)) = some (zB n)) → Us A B ns us → allO (Go.Vm.frz S 11) us = some (ns.map zB)
 | [], [], _, _ => rfl
 | m :: ns, v :: us, h, hu => by
  have h1 : Go.Vm.frz S 11 v = some (zB m) := by
   rcases hu.1 with rfl | rfl
   ·rfl
   ·exact h m (by simp)
  simp only [allO, h1, Us.frz hf (fun n hn => h n (by simp [hn])) hu.2, List.map_cons]
theorem zjm {d r : List Node} {i : Int} (hd : ∀ n ∈ d, n.ino < i) (hs : Srt r) (hr : ∀ n ∈ r, i ≤ n.ino) : (hasN (d ++ r) i = false ∧ ∀ n ∈ r, i + 1 ≤ n.ino) ∨ ∃ n r', r = n :: r' ∧ n.ino = i ∧ hasN (d ++ r) i = true ∧ ∀ m ∈ r', i + 1 ≤ m.ino := by
 by_cases h : ∃ n ∈ r, n.ino = i
 ·right
  cases r with
  | nil => obtain ⟨n, hn, _⟩ := h; cases hn
  | cons m r' =>
   obtain ⟨h1, h2⟩ := Srt.cons.1 hs
   have hm := hr m (by simp)
   have hmi : m.ino = i := by
    obtain ⟨n, hn, he⟩ := h
    rcases List.mem_cons.1 hn with rfl | hn
    ·exact he
    ·have := h1 n hn; omega
   exact ⟨m, r', rfl, hmi, z0p.2 ⟨m, by simp, hmi⟩, fun x hx => by have := h1 x hx; omega⟩
 ·left
  refine ⟨?_, fun n hn => ?_⟩
  ·cases hh : hasN (d ++ r) i with
   | false => rfl
   | true =>
    obtain ⟨n, hn, he⟩ := z0p.1 hh
    rcases List.mem_append.1 hn with hn | hn
    ·have := hd n hn; omega
    ·exact absurd ⟨n, hn, he⟩ h
  ·have := hr n hn
   have : n.ino ≠ i := fun he => h ⟨n, hn, he⟩
   omega
theorem zsl (S0 : zA) (a m : Nat) (A B : Int → V) (t : List Node) (hT0 : Tree S0 a m A B t) (hsr : Srt t) (hn0 : ∀ n ∈ t, 0 ≤ n.ino ∧ n.ino ≤ 128) (hl : t.length < 400000) (R : Post) (x1 x2 : V) : ∀ (k i : Nat) (d r : List Node) (us : List V) (S : zA) (v3 : V) (g4 g5 g6 g8 g9 gP gQ gM gF gD gG gH gC gA gB gK gE gL gI gJ gN : V), 129 - i = k → i ≤ 129 → t = d ++ r → (∀ n ∈ d, n.ino < (i : Int)) → (∀ n ∈ r, (i : Int) ≤ n.ino) → Keep S0 S → (∀ (j : Nat) (o : Ob), S0[j]? = some o → NotAt v3 j) → OwnS S v3 32 us → Us A B d us →
 (∀ S v3 us i' g4 g5 g6 g8 g9 gP gQ gM gF gD gG gH gC gA gB gK gE gL gI gJ gN, Keep S0 S → OwnS S v3 32 us → Us A B t us → R (.exit 0) ((.ref a 0 0) :: x1 :: x2 :: v3 :: g4 :: g5 :: g6 :: i' :: g8 :: g9 :: gP :: gQ :: gM :: gF :: gD :: gG :: gH :: gC :: gA :: gB :: gK :: gE :: gL :: gI :: gJ :: gN :: []) S []) →
 Wp cfgS (.loop (lpOf (Try.f41.body.getD .skip) 0)) ((.ref a 0 0) :: x1 :: x2 :: v3 :: g4 :: g5 :: g6 :: (.d (.int .i64 i)) :: g8 :: g9 :: gP :: gQ :: gM :: gF :: gD :: gG :: gH :: gC :: gA :: gB :: gK :: gE :: gL :: gI :: gJ :: gN :: []) S [] R := by
 intro k
 induction k with
 | zero =>
  intro i d r us S v3 g4 g5 g6 g8 g9 gP gQ gM gF gD gG gH gC gA gB gK gE gL gI gJ gN hk hi ht hd hr hK hN hO hU hR
  have hie : i = 129 := by omega
  subst hie
  have hre : r = [] := by
   cases r with
   | nil => rfl
   | cons n r' =>
    have h1 := hr n (by simp)
    have h2 := hn0 n (by rw [ht]; simp)
    omega
  rw [hre, List.append_nil] at ht
  rw [← ht] at hU
  have hlt : ¬ ((129 : Nat) : Int) < 129 := by omega
  rw [qQ]
  refine qC ?_
  conv => arg 2; whnf
  simp (maxSteps:=1000000) (disch:=first|assumption|omega|rfl) only [↓gp, gc, Nat.reduceAdd, hPS]
  exact hR _ _ us _ _ _ _ _ _ _ _ _ _ _ _ _ _ _ _ _ _ _ _ _ _ hK hO hU
 | succ k ih =>
  intro i d r us S v3 g4 g5 g6 g8 g9 gP gQ gM gF gD gG gH gC gA gB gK gE gL gI gJ gN hk hi ht hd hr hK hN hO hU hR
  have hlt : (i : Int) < 129 := by omega
  have hT := hT0.keep hK
  have hra := hT.row
  have hlk := fun x => (hT.st.look x).1
  have hT1 := hT.keep (Keep.app (l := [Ob.row [zD (getN t i) (A i) (B i)] 32]))
  have hO1 := z1u (S' := S ++ [Ob.row [zD (getN t i) (A i) (B i)] 32]) hO (fun j o hj => qA hj)
  have h5 := qK (S := S) (o := Ob.row [zD (getN t i) (A i) (B i)] 32)
  have hr5 := zC h5
  have hsr' : Srt r := by
   rw [ht] at hsr
   unfold Srt at hsr ⊢
   exact hsr.sublist ((List.sublist_append_right d r).map _)
  have hci : (i : Int) + 1 = ((i + 1 : Nat) : Int) := by omega
  rw [qQ]
  refine qC ?_
  conv => arg 2; whnf
  rcases zjm hd hsr' hr with ⟨h1, h2⟩ | ⟨n, r', h0, hni, h1, h2⟩
  ·rw [← ht] at h1
   simp (maxSteps:=1000000) (disch:=first|assumption|omega|rfl) only [↓gp, gc, Nat.reduceAdd, hPS, zagg, z32v, kV, qI, vB, wX, hra, hlk, h1, kM, svz, sv, lv, zL, zI, hci]
   exact ih (i + 1) d r us _ v3 _ _ _ _ _ _ _ _ _ _ _ _ _ _ _ _ _ _ _ _ _ (by omega) (by omega) ht (fun n hn => by have := hd n hn; omega) (fun n hn => by have := h2 n hn; omega) (hK.trans Keep.app) hN hO1 hU hR
  ·rw [← ht] at h1
   have hgn : getN t i = n := by
    rw [← hni]
    exact z4j hsr.uniq (by rw [ht, h0]; simp)
   have hul := hU.len
   have hdl : d.length ≤ t.length := by rw [ht, List.length_append]; omega
   obtain ⟨w, S2, c, u, hbs, hsrc, hu, hk2⟩ := zpk (n := getN t i) (hT1.st.da i trivial) (hT1.st.na i trivial)
   have hO2 := z1u hO1 (fun j o hj => hk2 j o hj)
   obtain ⟨v3', S3, c3, ha3, hO3, hf3⟩ := zl2 (P := Try.prog) Try.underlying25 q0s hsrc hO2 (zlp (by omega))
   simp (maxSteps:=1000000) (disch:=first|assumption|omega|rfl) only [↓gp, gc, Nat.reduceAdd, ↓vbs, hPS, zagg, z32v, kV, qI, vB, wX, hra, hlk, h1, kM, svz, sv, lv, zL, zI, hr5, hbs, ha3, hci]
   have hK2 : Keep S0 S2 := (hK.trans Keep.app).trans hk2
   refine ih (i + 1) (d ++ [n]) r' (us ++ [u]) S3 v3' _ _ _ _ _ _ _ _ _ _ _ _ _ _ _ _ _ _ _ _ _ (by omega) (by omega) (by rw [ht, h0]; simp) (fun x hx => ?_) (fun x hx => by have := h2 x hx; omega) (fun j o hj => (hf3 j o (hK2 j o hj) (hN j o hj)).1) (fun j o hj => (hf3 j o (hK2 j o hj) (hN j o hj)).2) hO3 (hU.snoc ?_) hR
   ·rcases List.mem_append.1 hx with hx | hx
    ·have := hd x hx; omega
    ·rw [List.mem_singleton.1 hx]; omega
   ·rw [hgn] at hu
    rw [hni]
    exact hu.symm
theorem zam {S : zA} {T : List V} {x : Nat} {v : V} (hx : T.getD x (.tup []) = v) : jF Try.prog #[.tmp x] T S = some v := by
 show wH Try.prog T S (.tmp x) = some v
 simp only [wH, hx]
theorem zvg (S0 : zA) (a m : Nat) (A B : Int → V) (t : List Node) (hT0 : Tree S0 a m A B t) (hsr : Srt t) (hn0 : ∀ n ∈ t, 0 ≤ n.ino ∧ n.ino ≤ 128) (hl : t.length < 400000) : EvS cfgS 41 [.ref a 0 0] S0 fun o S => ∃ v us, o = .ret v ∧ Keep S0 S ∧ OwnS S v 32 us ∧ Us A B t us := by
 refine wJ rfl zza ?_
 show Wp cfgS (Try.f41.body.getD .skip) ((.ref a 0 0) :: uZ (uZ ((.tup []) :: (.tup []) :: (.tup []) :: (.tup []) :: (.tup []) :: []))) S0 [] _
 unfold uZ
 conv => arg 2; whnf
 rw [qQ]
 simp (maxSteps:=1000000) (disch:=first|assumption|omega|rfl) only [↓gp, gc, Nat.reduceAdd, hPS]
 refine zsl S0 a m A B t hT0 hsr hn0 hl _ _ _ 129 0 [] t [] _ _ _ _ _ _ _ _ _ _ _ _ _ _ _ _ _ _ _ _ _ _ _ rfl (by omega) rfl (fun n hn => by cases hn) (fun n hn => (hn0 n hn).1) Keep.refl (fun j o hj => NotAt.ts) OwnS.nil trivial ?_
 intro S v3 us i' g4 g5 g6 g8 g9 gP gQ gM gF gD gG gH gC gA gB gK gE gL gI gJ gN hK hO hU
 simp (maxSteps:=1000000) (disch:=first|assumption|omega|rfl) only [↓gp, gc, Nat.reduceAdd, hPS]
 exact ⟨rfl, _, zam rfl, _, us, rfl, hK, hO, hU⟩
theorem zkp (o : Opn) : Ev cfg 39 [encOpn o] (.ret (.d (.int .i64 (if mayN o then 0 else 1)))) := by
 refine z1r rfl rfl zyo ?_
 show Wp cfg (Try.f39.body.getD .skip) ((.d (encOpn o)) :: uZ ((.tup []) :: (.tup []) :: (.tup []) :: (.tup []) :: (.tup []) :: (.tup []) :: [])) [] [] _
 unfold uZ
 conv => arg 2; whnf
 by_cases c1 : o.does < 1
 ·have e : mayN o = false := decide_eq_false (fun h => by omega)
  simp (maxSteps:=1000000) (disch:=first|assumption|omega|rfl) only [↓gp, gc, Nat.reduceAdd, lenB]
  rw [e]
  exact qN rfl rfl rfl
 ·by_cases c2 : o.does > 13
  ·have e : mayN o = false := decide_eq_false (fun h => by omega)
   simp (maxSteps:=1000000) (disch:=first|assumption|omega|rfl) only [↓gp, gc, Nat.reduceAdd, lenB]
   rw [e]
   exact qN rfl rfl rfl
  ·by_cases c3 : (o.data.length : Int) > 1024
   ·have e : mayN o = false := decide_eq_false (fun h => by omega)
    simp (maxSteps:=1000000) (disch:=first|assumption|omega|rfl) only [↓gp, gc, Nat.reduceAdd, lenB]
    rw [e]
    exact qN rfl rfl rfl
   ·have e : mayN o = true := decide_eq_true ⟨by omega, by omega, by omega⟩
    simp (maxSteps:=1000000) (disch:=first|assumption|omega|rfl) only [↓gp, gc, Nat.reduceAdd, lenB]
    rw [e]
    exact qN rfl rfl rfl
theorem zi9 {ops : Array Oper} {dst : Option Tmp} {k : List Oper} {T : List V} {S : zA} {F : Dfs} {Q : Post} {o : Opn} :
  WpR cfgS ops dst k T S F Q (some (.enter 39 [.d (encOpn o)])) = WpL cfgS ops k (putT T dst (.d (.int .i64 (if mayN o then 0 else 1)))) S F Q :=
 jI (ds := [encOpn o]) rfl (lift rfl (zkp o))
theorem zmo {ops : Array Oper} {dst : Option Tmp} {k : List Oper} {T : List V} {S : zA} {F : Dfs} {Q : Post} {o : Opn} (hm : mayN o = true) :
  WpR cfgS ops dst k T S F Q (some (.enter 39 [.d (encOpn o)])) = WpL cfgS ops k (putT T dst (.d (.int .i64 0))) S F Q := by rw [zi9, hm]; rfl
theorem zo7 {ops : Array Oper} {dst : Option Tmp} {k : List Oper} {T : List V} {S : zA} {F : Dfs} {Q : Post} {o : Opn} (hm : mayN o = false) :
  WpR cfgS ops dst k T S F Q (some (.enter 39 [.d (encOpn o)])) = WpL cfgS ops k (putT T dst (.d (.int .i64 1))) S F Q := by rw [zi9, hm]; rfl
theorem ztg : qD Try.prog 44 (ansV okN (.ts []) (.ts [])) = true := by kernel_rfl
theorem zmj {b : List UInt8} {off n : Int} : (zgm b off n).length ≤ b.length := by
 unfold zgm
 split
 ·exact Nat.zero_le _
 ·rw [List.length_drop, List.length_take]; omega
structure AnsP (t : List Node) (q : List Node × Ans) : Prop where
 data : q.2.data.length ≤ 34304
 fail : q.2.err ≠ 0 → q = (t, wF q.2.err)
theorem AnsP.no {t : List Node} {e : Int} : AnsP t (t, wF e) := ⟨Nat.zero_le _, fun _ => rfl⟩
theorem AnsP.ok {t u : List Node} : AnsP t (u, okN) := ⟨Nat.zero_le _, fun h => absurd rfl h⟩
theorem zlu {t : List Node} {o : Opn} : AnsP t (z3j t o) := by
 unfold z3j
 repeat' split
 all_goals first | exact AnsP.no | exact ⟨Nat.zero_le _, fun h => absurd rfl h⟩
theorem zlr {t : List Node} {o : Opn} : AnsP t (z3v t o) := by
 unfold z3v
 repeat' split
 all_goals first | exact AnsP.no | exact AnsP.ok
theorem zgz {t : List Node} {o : Opn} : AnsP t (vF t o) := by
 unfold vF
 repeat' split
 all_goals first | exact AnsP.no | exact AnsP.ok
theorem zgj {t : List Node} {o : Opn} : AnsP t (wY t o) := by
 unfold wY z3e
 repeat' split
 all_goals first | exact AnsP.no | exact AnsP.ok
theorem zk4 {k : Nat} {t : List Node} {o : Opn} (hS : Small k t) : AnsP t (vG t o) := by
 have hf := fun x => (z5m (x := x) hS).2
 unfold vG z4v
 repeat' split
 all_goals first | exact AnsP.no | exact AnsP.ok | exact ⟨Nat.le_trans zmj (hf _), fun h => absurd rfl h⟩
theorem zlz {t : List Node} {o : Opn} : AnsP t (t, z31 t o) := by
 unfold z31 zmp
 repeat' split
 all_goals first | exact AnsP.no | exact AnsP.ok | exact ⟨Nat.zero_le _, fun h => absurd rfl h⟩
theorem ansP {k : Nat} {t : List Node} {o : Opn} (hS : Small k t) : AnsP t (jL t o) := by
 unfold jL
 split
 ·exact AnsP.no
 split
 ·exact zlu
 split
 ·exact zlr
 split
 ·exact zgz
 split
 ·exact zgj
 split
 ·exact zk4 hS
 split
 ·exact zlz
 ·exact AnsP.ok
theorem z94 : zeroV Try.prog 94 = some (.d .nilp) := by kernel_rfl
theorem zf94 : qD Try.prog 94 (.d .nilp) = true := by kernel_rfl
theorem sr94 {a : Nat} : qL Try.prog 94 0 (.ref a 0 0) (.d .nilp) = some (.ref a 0 0) := by kernel_rfl
theorem bd44 {e : Int} : z1j Try.prog 44 [(0, .d (.int .i64 e))] = some (ansV (wF e) (.ts []) (.ts [])) := by kernel_rfl
theorem sa44 {x y : Ans} {v5 v6 w5 w6 : V} : qL Try.prog 44 0 (ansV x v5 v6) (ansV y w5 w6) = some (ansV x v5 v6) := by kernel_rfl
theorem la44 {x : Ans} {v5 v6 : V} : kE Try.prog 44 0 (some (ansV x v5 v6)) = some (ansV x v5 v6) := by kernel_rfl
theorem al5 {x : Ans} {v5 v6 : V} : kE Try.prog 29 5 (some (ansV x v5 v6)) = some v5 := by kernel_rfl
theorem zd8 {S : zA} {x : Ans} {v5 v6 : V} (h5 : frz S 11 v5 = some (encB x.data)) (h6 : frz S 11 v6 = some (.sl (x.names.map .str))) : frz S zR (ansV x v5 v6) = some (z7u x) := by
 show (match allO (frz S 11) [.d (.int .i64 x.err), .d (.int .i64 x.ino), .d (.int .i64 x.kind), .d (.int .i64 x.links), .d (.int .i64 x.size), v5, v6] with | some ds => if ds.any D.isAgg then none else some (D.agg ds) | none => none) = _
 have h2 : ∀ x : D, frz S 11 (.d x) = some x := fun _ => rfl
 simp only [allO, h5, h6, h2]
 rfl
theorem zlf {S : zA} {v : V} {l : List UInt8} (h : srcV Try.prog S 5 29 v = some (l.map fun b => .d (encU b))) (hl : l.length < 900000) : ∃ v' S' c, zW Try.prog S 29 29 (.ts []) v = some (v', S', c) ∧ OwnS S' v' 5 (l.map fun b => .d (encU b)) ∧ Keep S S' := by
 cases l with
 | nil =>
  refine ⟨.ts [], S, 1, ?_, .inl ⟨rfl, rfl⟩, Keep.refl⟩
  simp only [List.map_nil] at h
  simp only [zW, Try.underlying29, h]
 | cons b r =>
  simp only [List.map_cons] at h
  have hr := zlc (n := 0 + (r.length + 1)) (by simp at hl; omega)
  refine ⟨.rs S.length 0 (r.length + 1), S ++ [.row ((b :: r).map fun b => .d (encU b)) 5], 2, ?_, .inr ⟨S.length, by simp, by simp⟩, Keep.app⟩
  simp only [zW, Try.underlying29, h, zok5, if_true, List.all_nil, List.length_nil, List.length_map, hr, Bool.and_self, List.map_nil, List.nil_append, List.map_cons, Nat.zero_add]
  rw [if_pos]
  rw [Nat.zero_add] at hr
  simp [hr]
theorem zpe {S : zA} {x : Ans} {v5 v6 : V} {l5 : List V} {l6 : List (List UInt8)} (h5 : OwnS S v5 5 l5) (h6 : SlE encS S v6 9 l6) : z24 (ansV x v5 v6) (ansV x v5 v6) = true := by
 have e5 : kY v5 v5 = true := by rcases h5 with ⟨rfl, _⟩ | ⟨id, rfl, _⟩ <;> simp [kY, kX, z00]
 have e6 : kY v6 v6 = true := by rcases h6 with ⟨rfl, _⟩ | ⟨id, ys, rfl, _⟩ <;> simp [kY, kX, z00]
 have ei : ∀ k : Int, kY (.d (.int .i64 k)) (.d (.int .i64 k)) = true := fun k => by simp [kY, kX, z3d, jY]
 show z10 _ _ = true
 simp only [z10, ei, e5, e6, Bool.and_self]
theorem zit {S : zA} {v : V} {l : List UInt8} (h : OwnS S v 5 (l.map fun b => .d (encU b))) : frz S 11 v = some (encB l) := (SlE.of h).frz
theorem z2o {S : zA} {v : V} {e e' : TypeId} {xs ys : List V} {i : Nat} (h : OwnS S v e xs) (hi : S[i]? = some (.row ys e')) (hne : e ≠ e') : NotAt v i := by
 intro off l hv
 rcases h with ⟨rfl, _⟩ | ⟨id, rfl, h1⟩
 ·cases hv
 ·cases hv
  rw [hi] at h1
  simp only [Option.some.injEq, Ob.row.injEq] at h1
  exact hne h1.2.symm
theorem zmk {S : zA} {a m : Nat} {A B : Int → V} {t : List Node} {v : V} {us : List V} (hT : Tree S a m A B t) (hs : Srt t) (hO : OwnS S v 32 us) (hU : Us A B t us) : frz S zR v = some (.sl (t.map zB)) :=
 zqi hO (Us.frz (fun _ => trivial) (fun n hn => by have := hT.st.nodeF (x := n.ino) trivial (n := 8); rw [z4j hs.uniq hn] at this; exact this) hU)
theorem q2u (t : List Node) (k0 : Nat) (hk0 : k0 < 190000) (hG : Good k0 t) (o : Opn) (hl : o.a.length < 900000) (hlb : o.b.length < 900000) (hn0 : ∀ n ∈ t, 0 ≤ n.ino ∧ n.ino ≤ 128) (hn1 : ∀ n ∈ (jL t o).1, 0 ≤ n.ino ∧ n.ino ≤ 128) :
  Ev cfgS 19 [.sl (t.map zB), encOpn o] (.ret (.tup [.d (.sl ((jL t o).1.map zB)), .d (z7u (jL t o).2)])) := by
 have hk1 : k0 < 300000 := by omega
 have hlt : t.length < 400000 := Nat.lt_of_le_of_lt hG.sm.len (by omega)
 refine z1r rfl rfl zxy ?_
 show Wp cfgS (Try.f19.body.getD .skip) ((.d (.sl (t.map zB))) :: (.d (encOpn o)) :: uZ (uZ (uZ ((.tup []) :: (.tup []) :: (.tup []) :: (.tup []) :: (.tup []) :: (.tup []) :: [])))) [] [] _
 unfold uZ
 conv => arg 2; whnf
 rw [qQ]
 cases hm : mayN o with
 | false =>
  have hq : jL t o = (t, wF 1) := by unfold jL; rw [if_pos hm]
  rw [hq]
  simp (maxSteps:=1000000) (disch:=first|assumption|omega|rfl) only [↓gp, gc, Nat.reduceAdd, hPS, z44, zf44, zans, ztg, zL, zo7 hm, bo39]
  refine jB rfl (zuj _ t k0 hk1 hG.sm hG.lj.srt) ?_ ?_
  ·rintro v S1 ⟨a, m, A, B, hv, hK1, hT1, _⟩
   cases hv
   simp (maxSteps:=1000000) (disch:=first|assumption|omega|rfl) only [↓gp, gc, Nat.reduceAdd, hPS]
   refine jB rfl (zvg S1 a m A B t hT1 hG.lj.srt hn0 hlt) ?_ ?_
   ·rintro v S2 ⟨v', us, hv, hK2, hO, hU⟩
    cases hv
    have h1 : S2[1]? = some (.row [ansV okN (.ts []) (.ts [])] 44) := hK2 _ _ (hK1 1 _ rfl)
    have hr1 := zC h1
    have hpr1 := fun y => qG (y := y) h1
    have hT3 := (hT1.keep hK2).other (o := .row [ansV (wF 1) (.ts []) (.ts [])] 44) h1 (by decide) (by decide) (by decide)
    have hO3 : OwnS (S2.set 1 (.row [ansV (wF 1) (.ts []) (.ts [])] 44)) v 32 us := vM hO (z2o hO h1 (by decide))
    simp (maxSteps:=1000000) (disch:=first|assumption|omega|rfl) only [↓gp, gc, Nat.reduceAdd, hPS, bd44, sa44, hr1, hpr1]
    exact zhc rfl rfl ((jN (zC (kD h1))).trans la44) (zch hO) rfl (zmk hT3 hG.lj.srt hO3 hU) (zd8 rfl rfl)
   ·rintro v S2 ⟨v', us, hv, _⟩
    cases hv
  ·rintro v S1 ⟨a, m, A, B, hv, _⟩
   cases hv
 | true =>
  simp (maxSteps:=1000000) (disch:=first|assumption|omega|rfl) only [↓gp, gc, Nat.reduceAdd, hPS, z44, zf44, zans, ztg, zL, zmo hm, bo39]
  refine jB rfl (zuj _ t k0 hk1 hG.sm hG.lj.srt) ?_ ?_
  ·rintro v S1 ⟨a, m, A, B, hv, hK1, hT1, _⟩
   cases hv
   have h01 : S1[0]? = some (.row [.d (encOpn o)] 48) := hK1 0 _ rfl
   have h11 : S1[1]? = some (.row [ansV okN (.ts []) (.ts [])] 44) := hK1 1 _ rfl
   have hl1 := zZ h11
   simp (maxSteps:=1000000) (disch:=first|assumption|omega|rfl) only [↓gp, gc, Nat.reduceAdd, hPS, z44, zf44, zans, ztg, z94, zf94, sr94, zL, zI, ↓z9y, zzy, bo42]
   have h72 : (S1 ++ [Ob.row [.ref a 0 0] 94] ++ [Ob.row [ansV okN (.ts []) (.ts [])] 44])[S1.length]? = some (.row [.ref a 0 0] 94) := qA qK
   have hr2 : (S1 ++ [Ob.row [.ref a 0 0] 94] ++ [Ob.row [ansV okN (.ts []) (.ts [])] 44])[(S1 ++ [Ob.row [.ref a 0 0] 94]).length]? = some (.row [ansV okN (.ts []) (.ts [])] 44) := qK
   have hK2 : Keep S1 (S1 ++ [Ob.row [.ref a 0 0] 94] ++ [Ob.row [ansV okN (.ts []) (.ts [])] 44]) := Keep.app.trans Keep.app
   have hrl : (S1 ++ [Ob.row [.ref a 0 0] 94]).length = S1.length + 1 := by simp
   generalize (S1 ++ [Ob.row [.ref a 0 0] 94]).length = r at *
   generalize S1 ++ [Ob.row [.ref a 0 0] 94] ++ [Ob.row [ansV okN (.ts []) (.ts [])] 44] = S2 at *
   have hT2 := hT1.keep hK2
   have hst := zz9 S2 a m r S1.length 0 A B t hT2 k0 hk0 hG o hm hl hlb hr2 h72 (hK2 _ _ h01)
   have hne : r ≠ 1 := by omega
   have h12 := hK2 _ _ h11
   by_cases he : (jL t o).2.err = 0
   ·refine jB (R := fun o' S3 => o' = .ret (.d (.int .i64 0)) ∧ (∃ A' B' v5 v6, Tree S3 a m A' B' (jL t o).1 ∧ S3[r]? = some (.row [ansV (jL t o).2 v5 v6] 44) ∧ srcV Try.prog S3 5 29 v5 = some ((jL t o).2.data.map fun b => .d (encU b)) ∧ SlE encS S3 v6 9 (jL t o).2.names) ∧ KeepR r S2 S3) rfl (zev (f := 42) (g := 43) (first := []) (caps := [.ref S1.length 0 0, .ref 0 0 0, .ref r 0 0]) (pst := z25) rfl hst ?_) ?_ ?_
    ·intro o' S3 hR
     unfold Res at hR
     rw [if_pos he] at hR
     obtain ⟨⟨w, rfl⟩, h1, h2⟩ := hR
     exact ⟨_, rfl, rfl, h1, h2⟩
    ·rintro v S3 ⟨hv, ⟨A3, B3, v5, v6, hT3, hr3, h53, h63⟩, hk3⟩
     cases hv
     have h73 := hk3 _ _ _ (.inl rfl) (by omega) h72
     have h13 := hk3 _ _ _ (.inr rfl) (Ne.symm hne) h12
     have hrr3 := zC hr3
     have hsr1 : Srt (jL t o).1 := (hG.lj.step hG.ti).srt
     have hS1 : Small (k0 + 5) (jL t o).1 := hG.sm.step
     have hlt1 : (jL t o).1.length < 400000 := Nat.lt_of_le_of_lt hS1.len (by omega)
     obtain ⟨v5', S4, c4, ha4, hO4, hK4⟩ := zlf h53 (by have := (ansP (o := o) hG.sm).data; omega)
     have hr4 := hK4 _ _ hr3
     have hrr4 := zC hr4
     have hpr4 := fun y => qG (y := y) hr4
     have hsa4 := av5 (x := (jL t o).2) (v5 := v5) (v6 := v6) (z5y hO4 (by kernel_rfl) (by kernel_rfl)) (z3h hO4)
     have h55 : OwnS (S4.set r (.row [ansV (jL t o).2 v5' v6] 44)) v5' 5 ((jL t o).2.data.map fun b => .d (encU b)) := vM hO4 (z2o hO4 hr4 (by decide))
     have h65 : SlE encS (S4.set r (.row [ansV (jL t o).2 v5' v6] 44)) v6 9 (jL t o).2.names := by
      refine (h63.keep hK4).frame2 fun j q hj hh => ?_
      rw [List.getElem?_set_ne]
      ·exact hj
      ·rintro rfl
       obtain ⟨ys, h9⟩ := (h63.keep hK4).row hh
       rw [hr4] at h9
       simp only [Option.some.injEq, Ob.row.injEq] at h9
       exact absurd h9.2 (by decide)
     have hT5 := (hT3.keep hK4).other (o := .row [ansV (jL t o).2 v5' v6] 44) hr4 (by decide) (by decide) (by decide)
     have h75 : (S4.set r (.row [ansV (jL t o).2 v5' v6] 44))[S1.length]? = some (.row [.ref a 0 0] 94) := by rw [List.getElem?_set_ne (by omega)]; exact hK4 _ _ h73
     have h15 : (S4.set r (.row [ansV (jL t o).2 v5' v6] 44))[1]? = some (.row [ansV okN (.ts []) (.ts [])] 44) := by rw [List.getElem?_set_ne hne]; exact hK4 _ _ h13
     have hr5 : (S4.set r (.row [ansV (jL t o).2 v5' v6] 44))[r]? = some (.row [ansV (jL t o).2 v5' v6] 44) := kD hr4
     simp (maxSteps:=1000000) (disch:=first|assumption|omega|rfl) only [↓gp, gc, Nat.reduceAdd, ↓vbs, hPS, zfw, hrr3, al5, ha4, hrr4, hsa4, hpr4]
     generalize S4.set r (.row [ansV (jL t o).2 v5' v6] 44) = S5 at *
     have hr75 := zC h75
     have hrr5 := zC hr5
     refine kK (is := [0, 2, 1, 3, 4]) (h := 0) (by kernel_rfl) (by kernel_rfl) ?_
     simp (maxSteps:=1000000) (disch:=first|assumption|omega|rfl) only [List.replicate_zero, eq_self, gw, ga, Nat.reduceAdd, ↓gq, hPS, List.append_nil, hr75, hrr5, lr94, la44]
     refine z8o rfl (zvg S5 a m _ _ _ hT5 hsr1 hn1 hlt1) ?_ ?_
     ·rintro v S6 ⟨v', us, hv, hK6, hO6, hU6⟩
      cases hv
      have h16 := hK6 _ _ h15
      have hr16 := zC h16
      have hpr6 := fun y => qG (y := y) h16
      have hld : jP Try.prog S6 44 (.ref r 0 0) = some (ansV (jL t o).2 v5' v6) := (jN (zC (hK6 _ _ hr5))).trans la44
      refine ⟨jJ rfl (by kernel_rfl) rfl (ld1 hld) (zpe h55 h65) (zE (by kernel_rfl) qO), ?_⟩
      simp (maxSteps:=1000000) (disch:=first|assumption|omega|rfl) only [List.replicate_zero, eq_self, gw, ga, Nat.reduceAdd, ↓gq, hPS, List.append_nil, hr16, sa44, hpr6]
      refine ⟨zE (by kernel_rfl) (zE (by kernel_rfl) qO), by kernel_rfl, ?_⟩
      simp (maxSteps:=1000000) (disch:=first|assumption|omega|rfl) only [↓gp, gc, Nat.reduceAdd, hPS]
      have hT7 := (hT5.keep hK6).other (o := .row [ansV (jL t o).2 v5' v6] 44) h16 (by decide) (by decide) (by decide)
      have hO7 : OwnS (S6.set 1 (.row [ansV (jL t o).2 v5' v6] 44)) v 32 us := vM hO6 (z2o hO6 h16 (by decide))
      have h57 : OwnS (S6.set 1 (.row [ansV (jL t o).2 v5' v6] 44)) v5' 5 ((jL t o).2.data.map fun b => .d (encU b)) := vM (z1u h55 fun j o hj => hK6 j o hj) (z2o (z1u h55 fun j o hj => hK6 j o hj) h16 (by decide))
      have h67 : SlE encS (S6.set 1 (.row [ansV (jL t o).2 v5' v6] 44)) v6 9 (jL t o).2.names := by
       refine (h65.keep hK6).frame2 fun j q hj hh => ?_
       rw [List.getElem?_set_ne]
       ·exact hj
       ·rintro rfl
        obtain ⟨ys, h9⟩ := (h65.keep hK6).row hh
        rw [h16] at h9
        simp only [Option.some.injEq, Ob.row.injEq] at h9
        exact absurd h9.2 (by decide)
      exact zhc rfl rfl ((jN (zC (kD h16))).trans la44) (zch hO7) rfl (zmk hT7 hsr1 hO7 hU6) (zd8 (zit h57) h67.frz)
     ·rintro v S6 ⟨v', us, hv, _⟩
      cases hv
    ·rintro v S3 ⟨hv, _⟩
     cases hv
   ·have hq := (ansP (o := o) hG.sm).fail he
    have hx : ∀ x : Int, x = (jL t o).2.err → (jL t o) = (t, wF x) := fun x hx => by rw [hx]; exact hq
    refine jB (R := fun o' S3 => o' = .ret (.d (.int .i64 (jL t o).2.err)) ∧ Keep S2 S3) rfl (zev (f := 42) (g := 43) (first := []) (caps := [.ref S1.length 0 0, .ref 0 0 0, .ref r 0 0]) (pst := z25) rfl hst ?_) ?_ ?_
    ·intro o' S3 hR
     unfold Res at hR
     rw [if_neg he] at hR
     obtain ⟨rfl, h2⟩ := hR
     exact ⟨_, rfl, rfl, h2⟩
    ·rintro v S3 ⟨hv, hk3⟩
     cases hv
     generalize hee : (jL t o).2.err = e at *
     rw [hx e rfl]
     simp (maxSteps:=1000000) (disch:=first|assumption|omega|rfl) only [↓gp, gc, Nat.reduceAdd, hPS]
     refine jB rfl (zuj _ t k0 hk1 hG.sm hG.lj.srt) ?_ ?_
     ·rintro v S4 ⟨a4, m4, A4, B4, hv, hK4, hT4, _⟩
      cases hv
      simp (maxSteps:=1000000) (disch:=first|assumption|omega|rfl) only [↓gp, gc, Nat.reduceAdd, hPS]
      refine jB rfl (zvg S4 a4 m4 A4 B4 t hT4 hG.lj.srt hn0 hlt) ?_ ?_
      ·rintro v S5 ⟨v', us, hv, hK5, hO, hU⟩
       cases hv
       have h1 : S5[1]? = some (.row [ansV okN (.ts []) (.ts [])] 44) := hK5 _ _ (hK4 _ _ (hk3 _ _ h12))
       have hr1 := zC h1
       have hpr1 := fun y => qG (y := y) h1
       have hT6 := (hT4.keep hK5).other (o := .row [ansV (wF e) (.ts []) (.ts [])] 44) h1 (by decide) (by decide) (by decide)
       have hO6 : OwnS (S5.set 1 (.row [ansV (wF e) (.ts []) (.ts [])] 44)) v 32 us := vM hO (z2o hO h1 (by decide))
       simp (maxSteps:=1000000) (disch:=first|assumption|omega|rfl) only [↓gp, gc, Nat.reduceAdd, hPS, bd44, sa44, hr1, hpr1]
       exact zhc rfl rfl ((jN (zC (kD h1))).trans la44) (zch hO) rfl (zmk hT6 hG.lj.srt hO6 hU) (zd8 rfl rfl)
      ·rintro v S5 ⟨v', us, hv, _⟩
       cases hv
     ·rintro v S4 ⟨a4, m4, A4, B4, hv, _⟩
      cases hv
    ·rintro v S3 ⟨hv, _⟩
     cases hv
  ·rintro v S1 ⟨a, m, A, B, hv, _⟩
   cases hv
theorem zk7 {l : List Opn} {m : Int} (hm : m ≤ 1000) (h : zg1 l m = false) : Script l := by
 unfold zg1 at h
 rw [Bool.or_eq_false_iff] at h
 obtain ⟨h1, h2⟩ := h
 have h1 := of_decide_eq_false h1
 have h3 : ∀ o ∈ l, ¬ ((o.a.length : Int) > 300 ∨ (o.b.length : Int) > 300 ∨ (o.data.length : Int) > 1100) := fun o ho hbad => (List.any_eq_false.1 h2 o ho) (decide_eq_true hbad)
 exact ⟨by omega, fun o ho => by have := h3 o ho; omega, fun o ho => by have := h3 o ho; omega, fun o ho => by have := h3 o ho; omega⟩
theorem q1o : zF Try.prog 9 = some ⟨Try.f9.body.getD .skip, 89, #[.tmp 4]⟩ := by
 unfold zF
 rw [Try.func9]
 rfl
theorem zzk : zF Try.prog 17 = some ⟨Try.f17.body.getD .skip, 3, #[.tmp 0]⟩ := by
 unfold zF
 rw [Try.func17]
 rfl
theorem bo17 : (zF Try.prog 17).isSome = true := by kernel_rfl
theorem zvn : zF Try.prog 34 = some ⟨Try.f34.body.getD .skip, 40, #[.tmp 4]⟩ := by
 unfold zF
 rw [Try.func34]
 rfl
theorem bo34 : (zF Try.prog 34).isSome = true := by kernel_rfl
theorem bo35 : (zF Try.prog 35).isSome = true := by kernel_rfl
theorem zxm : zF Try.prog 36 = some ⟨Try.f36.body.getD .skip, 13, #[.tmp 6]⟩ := by
 unfold zF
 rw [Try.func36]
 rfl
theorem bo36 : (zF Try.prog 36).isSome = true := by kernel_rfl
theorem q0i : zF Try.prog 38 = some ⟨Try.f38.body.getD .skip, 9, #[.tmp 4]⟩ := by
 unfold zF
 rw [Try.func38]
 rfl
theorem bo38 : (zF Try.prog 38).isSome = true := by kernel_rfl
theorem zyj : zF Try.prog 68 = some ⟨Try.f68.body.getD .skip, 27, #[.tmp 4]⟩ := by
 unfold zF
 rw [Try.func68]
 rfl
theorem q0c : zF Try.prog 69 = some ⟨Try.f69.body.getD .skip, 61, #[.tmp 2]⟩ := by
 unfold zF
 rw [Try.func69]
 rfl
theorem bo69 : (zF Try.prog 69).isSome = true := by kernel_rfl
theorem bo70 : (zF Try.prog 70).isSome = true := by kernel_rfl
theorem zyv : zF Try.prog 71 = some ⟨Try.f71.body.getD .skip, 44, #[.tmp 4]⟩ := by
 unfold zF
 rw [Try.func71]
 rfl
theorem bo71 : (zF Try.prog 71).isSome = true := by kernel_rfl
theorem zy5 : zF Try.prog 72 = some ⟨Try.f72.body.getD .skip, 5, #[.cell 2 32]⟩ := by
 unfold zF
 rw [Try.func72]
 rfl
theorem bo72 : (zF Try.prog 72).isSome = true := by kernel_rfl
theorem zya : zF Try.prog 73 = some ⟨Try.f73.body.getD .skip, 44, #[.tmp 2]⟩ := by
 unfold zF
 rw [Try.func73]
 rfl
theorem zzr : zF Try.prog 74 = some ⟨Try.f74.body.getD .skip, 27, #[.tmp 6]⟩ := by
 unfold zF
 rw [Try.func74]
 rfl
theorem bo74 : (zF Try.prog 74).isSome = true := by kernel_rfl
theorem zt9 : zF Try.prog 103 = some ⟨Try.f103.body.getD .skip, 60, #[.tmp 4]⟩ := by
 unfold zF
 rw [Try.func103]
 rfl
theorem zu1 : zF Try.prog 104 = some ⟨Try.f104.body.getD .skip, 24, #[.tmp 4]⟩ := by
 unfold zF
 rw [Try.func104]
 rfl
theorem zt1 : zF Try.prog 114 = some ⟨Try.f114.body.getD .skip, 8, #[.tmp 4]⟩ := by
 unfold zF
 rw [Try.func114]
 rfl
end Go.Proofs.Ytghllhghboaagaa
end
