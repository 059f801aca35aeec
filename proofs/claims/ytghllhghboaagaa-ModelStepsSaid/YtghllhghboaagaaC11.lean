/- The state's calls of files: truncate; stat, fsync. -/
import Derived.Test.YtghllhghboaagaaC10
set_option linter.unusedVariables false
set_option linter.unusedSimpArgs false
set_option maxRecDepth 100000
set_option maxHeartbeats 4000000
set_option linter.defProp false
section
namespace Go.Proofs.Ytghllhghboaagaa
open Go.Vm
theorem z83 {C : Cfg} {ops : Array Oper} {base : Nat} {K : Ws → List (Nat × Nat) → List V → zA → Prop} {ws : Ws} {cs : List (Nat × Nat)} {i : Nat} {dst : Option Tmp} {T : List V} {S : zA} {f : FuncId} {args : List V} {R : Out → zA → Prop} (hs : C.shared f = true) (he : EvS C f args S R)
  (hk : ∀ v S', R (.ret v) S' → WAll C ops base ws i S' ∧ K ws (cs ++ [(i, 3)]) (putT T dst v) S') (hp : ∀ v S', ¬ R (.pan v) S') : WpEw C ops base K ws cs i dst T S (some (.enter f args)) := by
 obtain ⟨n, out, S', hn, hR⟩ := he
 have hc : kE C (run C n) f args S = some (out, S', 3) := by
  unfold kE
  simp only [hs, if_true, hn, Option.map_some]
 cases out with
 | ret v =>
  obtain ⟨h1, h2⟩ := hk v S' hR
  exact ⟨n, v, S', 3, hc, fun _ => h1, by simpa [num2] using h2⟩
 | pan v => exact absurd hR (hp v S')
theorem zng {m : Nat} : z3h (.mr m) (.mr m) = true := by simp [z3h, wL, wN]
theorem zkj (S0 : zA) (a m r : Nat) (A B : Int → V) (t : List Node) (hT0 : Tree S0 a m A B t) (k0 : Nat) (hk0 : k0 < 200000) (hG : Good k0 t) (o : Opn) (hdo : o.does = 9) (hl : o.a.length < 900000) (hr : S0[r]? = some (.row [ansV okN (.ts []) (.ts [])] 44)) :
  EvS cfgS 82 [.ref a 0 0, .d (encOpn o), .ref r 0 0] S0 (Res S0 a m r (wC t o)) := by
 have hk1 : k0 < 300000 := by omega
 refine vE rfl zua ?_
 show Wp cfgS (Try.f82.body.getD .skip) ((.ref a 0 0) :: (.d (encOpn o)) :: (.ref r 0 0) :: uZ (uZ ((.tup []) :: (.tup []) :: (.tup []) :: (.tup []) :: (.tup []) :: (.tup []) :: []))) S0 [] _
 unfold uZ
 conv => arg 2; whnf
 rw [qK]
 have hT1 := hT0.keep (Keep.app (l := [Ob.row [.d (encOpn o)] 48]))
 simp (maxSteps:=1000000) (disch:=first|assumption|omega|rfl) only [↓gp, gc, Nat.reduceAdd, hPS, zR]
 generalize hq : wC t o = q
 unfold wC z47 at hq
 refine zc0 hT1 hG.told hk1 hG.sm hl ?_ ?_
 ·intro h0 h2 S1 hK1
  have hkx := hG.lj.hasK (vN hG.told h0)
  rw [if_neg (by simp [h0]), if_neg h2, if_neg (by omega), if_neg (by omega)] at hq
  obtain ⟨hsz1, hsz⟩ := z5p (x := (zH t o.a).1) hG.sm
  generalize (zH t o.a).1 = x at *
  have hxi := z0u hkx
  have hK01 := Keep.app.trans hK1
  have h4 := hK1 _ _ (qY (S := S0) (o := Ob.row [.d (encOpn o)] 48))
  have hr4 : ∀ l, rowE (S1 ++ l) S0.length 0 = some (.d (encOpn o)) := fun l => zE (qO h4)
  have hK02 := hK01.trans (Keep.app (l := [Ob.row [zD (getN t x) (A x) (B x)] 32]))
  have hT2 := hT0.keep hK02
  have h6 := qY (S := S1) (o := Ob.row [zD (getN t x) (A x) (B x)] 32)
  have hrr := hK02 _ _ hr
  by_cases c1 : o.n < 0
  ·rw [if_pos c1] at hq
   subst hq
   have h1 : (1 : Int) ≠ 0 := by omega
   simp (maxSteps:=1000000) (disch:=first|assumption|omega|rfl) only [↓gp, gc, Nat.reduceAdd, hPS, zagg, z32v, kX, kM, svz, sv, lv, zR, zN, hr4, jX h1]
   exact ⟨rfl, Res.fail h1 hK02⟩
  rw [if_neg c1] at hq
  by_cases c2 : o.n > 34304
  ·rw [if_pos c2] at hq
   subst hq
   have h11 : (11 : Int) ≠ 0 := by omega
   simp (maxSteps:=1000000) (disch:=first|assumption|omega|rfl) only [↓gp, gc, Nat.reduceAdd, hPS, zagg, z32v, kX, kM, svz, sv, lv, zR, zN, hr4, jJ, jX h11]
   exact ⟨rfl, Res.fail h11 hK02⟩
  rw [if_neg c2] at hq
  obtain ⟨k, hp⟩ : ∃ k : Nat, o.n = k := ⟨o.n.toNat, by omega⟩
  have hk2 : k ≤ 34304 := by omega
  have c1' : ¬ (k : Int) < 0 := by omega
  have c2' : ¬ (k : Int) > 34304 := by omega
  simp (maxSteps:=1000000) (disch:=first|assumption|omega|rfl) only [↓gp, gc, Nat.reduceAdd, hPS, zagg, z32v, kX, kM, svz, sv, lv, zR, zN, hr4, jJ, hp]
  have h42 := qO (l := [Ob.row [zD (getN t x) (A x) (B x)] 32]) h4
  have hlt : S0.length ≤ S1.length := hK01.len
  generalize hS2 : S1 ++ [Ob.row [zD (getN t x) (A x) (B x)] 32] = S2 at *
  have hlt2 : S1.length < S2.length := qN h6
  have hra2 := hT2.row
  have hr62 := zE h6
  have hr42 := zE h42
  refine vG (is := [0, 1, 2, 3, 4, 5, 6, 7, 8, 9, 10]) (h := 0) (by kernel_rfl) (by kernel_rfl) ?_
  simp (maxSteps:=1000000) (disch:=first|assumption|omega|rfl) only [List.replicate_zero, eq_self, gw, ga, Nat.reduceAdd, ↓gq, hPS, List.append_nil, qL, qG, vD, wU, hra2, hr62, hr42, lv, lv0, hxi, hp]
  refine z83 rfl (zq3 S2 (getN t x) (A x) (B x) (hT2.st.da x trivial) (hT2.st.na x trivial) hsz k hk2) ?_ ?_
  ·rintro v S3 ⟨v', hv, hv', hf3, hi3, hS3⟩
   cases hv
   have notA : ∀ (j : Nat) (ys : List V) (e : TypeId), e ≠ 5 → S2[j]? = some (.row ys e) → idOf (A x) ≠ some j := fun j ys e he hj hh => by
    obtain ⟨zs, q⟩ := (hT2.st.da x trivial).row hh
    rw [hj] at q; cases q; exact he rfl
   have h63 := hf3 _ _ h6 (notA _ _ _ (by decide) h6)
   have hrr3 := hf3 _ _ hrr (notA _ _ _ (by decide) hrr)
   have hnW : zD { getN t x with size := (k : Int) } v' (B x) = zD (cutN (getN t x) o.n) v' (B x) := by
    unfold zD cutN
    rw [hp]
   have hv5 : SlE encU S3 v' 5 (cutN (getN t x) o.n).data := by
    show SlE encU S3 v' 5 (layN (List.replicate o.n.toNat 0) 0 (getN t x).data)
    rw [hp, Int.toNat_natCast, zcu]
    exact hv'
   obtain ⟨o7, hup, hT6, hK6, hc5⟩ := hT0.renewK (x := x) (n := cutN (getN t x) o.n) (p := v') (q := B x) (S' := S3) hG.lj.srt hxi (fun j q hj hn _ => hf3 j q (hK02 j q hj) hn) hv5
    ((hT0.st.na x trivial).frame2 fun j q hj hi => hf3 j q (hK02 j q hj) (fun hh => hT0.st.apart x x j hh hi))
    (fun i hi => (hi3 i hi).elim .inl (fun h => .inr (by omega))) (fun i hi => .inl hi)
   have hld3 : jV Try.prog S3 125 (.ref a 0 0) = some (.mr m) := (jS (zE hc5)).trans wU
   have hld5 : jV Try.prog S3 3 (.ref S1.length 0 0) = some (.d (.int .i64 x)) := (jS (zE h63)).trans (by rw [lv0, hxi])
   refine ⟨zG (by kernel_rfl) (zG (by kernel_rfl) (jT rfl (by kernel_rfl) rfl ?_ vK (jT rfl (by kernel_rfl) rfl ?_ zng qV))), ?_⟩
   ·exact (show _ = (jV Try.prog _ 3 (.ref S1.length 0 0)).map (fun v => Rs.val v _ 1) from rfl).trans (by rw [hld5]; rfl)
   ·exact (show _ = (jV Try.prog _ 125 (.ref a 0 0)).map (fun v => Rs.val v _ 1) from rfl).trans (by rw [hld3]; rfl)
   rw [hnW]
   simp (maxSteps:=1000000) (disch:=first|assumption|omega|rfl) only [List.replicate_zero, eq_self, gw, ga, Nat.reduceAdd, ↓gq, hPS, List.append_nil, jC, hup, Option.map_some]
   refine ⟨zG (by kernel_rfl) (zG (by kernel_rfl) (zG (by kernel_rfl) (zG (by kernel_rfl) qV))), by kernel_rfl, ?_⟩
   subst hq
   simp (maxSteps:=1000000) (disch:=first|assumption|omega|rfl) only [↓gp, gc, Nat.reduceAdd, hPS]
   exact ⟨rfl, _, rfl, Res.done (v5 := .ts []) (v6 := .ts []) rfl hT6 (hK6 _ _ _ hrr3) vQ (.inl ⟨rfl, rfl⟩) (fun j ys e he _ hj => hK6 _ _ _ (hf3 j _ (hK02 j _ hj) (notA _ _ _ (by rcases he with rfl | rfl <;> decide) (hK02 j _ hj))))⟩
  ·rintro v S3 ⟨v', hv, _⟩
   cases hv
 ·rintro e (⟨h0, rfl⟩ | ⟨h0, h2, rfl⟩) S1 hK1
  ·rw [if_pos h0] at hq
   subst hq
   exact ⟨rfl, Res.fail h0 (Keep.app.trans hK1)⟩
  ·rw [if_neg (by simp [h0]), if_pos h2] at hq
   subst hq
   exact ⟨rfl, Res.fail (by omega) (Keep.app.trans hK1)⟩
section
variable {x : Ans} {v5 v6 v : V} {y : Int}
theorem av2 : qW Try.prog 3 2 (.d (.int .i64 y)) (ansV x v5 v6) = some (ansV { x with kind := y } v5 v6) := by kernel_rfl
theorem av3 : qW Try.prog 3 3 (.d (.int .i64 y)) (ansV x v5 v6) = some (ansV { x with links := y } v5 v6) := by kernel_rfl
theorem av4 : qW Try.prog 3 4 (.d (.int .i64 y)) (ansV x v5 v6) = some (ansV { x with size := y } v5 v6) := by kernel_rfl
theorem av6 (h1 : qI Try.prog 42 v = true) (h2 : v.cells = [v]) : qW Try.prog 42 6 v (ansV x v5 v6) = some (ansV x v5 v) := ztm h1 h2
theorem al6 : kA Try.prog 42 6 (some (ansV x v5 v6)) = some v6 := by kernel_rfl
end
theorem zyf (S0 : zA) (a m r : Nat) (A B : Int → V) (t : List Node) (hT0 : Tree S0 a m A B t) (k0 : Nat) (hk0 : k0 < 200000) (hG : Good k0 t) (o : Opn) (hdo : o.does = 12) (hl : o.a.length < 900000) (hr : S0[r]? = some (.row [ansV okN (.ts []) (.ts [])] 44)) :
  EvS cfgS 85 [.ref a 0 0, .d (encOpn o), .ref r 0 0] S0 (Res S0 a m r (t, z14 t o)) := by
 have hk1 : k0 < 300000 := by omega
 refine vE rfl zws ?_
 show Wp cfgS (Try.f85.body.getD .skip) ((.ref a 0 0) :: (.d (encOpn o)) :: (.ref r 0 0) :: (.tup []) :: (.tup []) :: (.tup []) :: (.tup []) :: (.tup []) :: (.tup []) :: (.tup []) :: []) S0 [] _
 conv => arg 2; whnf
 rw [qK]
 have hT1 := hT0.keep (Keep.app (l := [Ob.row [.d (encOpn o)] 48]))
 simp (maxSteps:=1000000) (disch:=first|assumption|omega|rfl) only [↓gp, gc, Nat.reduceAdd, hPS, zR]
 refine z9r rfl (zol _ a m hT1 hG.told k0 hk1 hG.sm o.a hl) ?_ ?_
 ·intro h0 S1 hK1
  have e : z14 t o = okN := by unfold z14 zgb; rw [if_neg (by simp [h0]), if_neg (by omega), if_pos hdo]
  rw [e]
  simp (maxSteps:=1000000) (disch:=first|assumption|omega|rfl) only [↓gp, gc, Nat.reduceAdd, hPS]
  exact ⟨rfl, _, rfl, Res.done (v5 := .ts []) (v6 := .ts []) rfl (hT1.keep hK1) ((Keep.app.trans hK1) _ _ hr) vQ (.inl ⟨rfl, rfl⟩) (Keep.app.trans hK1).toR⟩
 ·intro h0 S1 hK1
  have e : z14 t o = qU (zH t o.a).2 := by unfold z14; rw [if_pos h0]
  rw [e]
  exact ⟨rfl, Res.fail h0 (Keep.app.trans hK1)⟩
theorem q1c (S0 : zA) (a m r : Nat) (A B : Int → V) (t : List Node) (hT0 : Tree S0 a m A B t) (k0 : Nat) (hk0 : k0 < 200000) (hG : Good k0 t) (o : Opn) (hdo : o.does = 11) (hl : o.a.length < 900000) (hr : S0[r]? = some (.row [ansV okN (.ts []) (.ts [])] 44)) :
  EvS cfgS 84 [.ref a 0 0, .d (encOpn o), .ref r 0 0] S0 (Res S0 a m r (t, z14 t o)) := by
 have hk1 : k0 < 300000 := by omega
 refine vE rfl zzc ?_
 show Wp cfgS (Try.f84.body.getD .skip) ((.ref a 0 0) :: (.d (encOpn o)) :: (.ref r 0 0) :: uZ (uZ ((.tup []) :: (.tup []) :: (.tup []) :: (.tup []) :: (.tup []) :: (.tup []) :: (.tup []) :: (.tup []) :: []))) S0 [] _
 unfold uZ
 conv => arg 2; whnf
 rw [qK]
 have hT1 := hT0.keep (Keep.app (l := [Ob.row [.d (encOpn o)] 48]))
 simp (maxSteps:=1000000) (disch:=first|assumption|omega|rfl) only [↓gp, gc, Nat.reduceAdd, hPS, zR]
 refine z9r rfl (zol _ a m hT1 hG.told k0 hk1 hG.sm o.a hl) ?_ ?_
 ·intro h0 S1 hK1
  have e : z14 t o = ⟨0, (zH t o.a).1, (getN t (zH t o.a).1).kind, (getN t (zH t o.a).1).links, (getN t (zH t o.a).1).size, [], []⟩ := by unfold z14 zgb; rw [if_neg (by simp [h0]), if_pos hdo]
  have hkx := hG.lj.hasK (vN hG.told h0)
  rw [e]
  generalize (zH t o.a).1 = x at *
  have hxi := z0u hkx
  have hK02 := (Keep.app.trans hK1).trans (Keep.app (l := [Ob.row [zD (getN t x) (A x) (B x)] 32]))
  have hT2 := hT0.keep hK02
  have hrr := hK02 _ _ hr
  have h6 := qY (S := S1) (o := Ob.row [zD (getN t x) (A x) (B x)] 32)
  simp (maxSteps:=1000000) (disch:=first|assumption|omega|rfl) only [↓gp, gc, Nat.reduceAdd, hPS, zagg, z32v, kX, kM, svz, sv, lv, zR, zN]
  generalize S1 ++ [Ob.row [zD (getN t x) (A x) (B x)] 32] = S2 at *
  have hne : r ≠ S1.length := by
   rintro rfl
   have q := h6.symm.trans hrr
   simp only [Option.some.injEq, Ob.row.injEq] at q
   exact absurd q.2 (by decide)
  have hr6 := zE h6
  have hrv := zE hrr
  have hpr := fun y => qD (y := y) hrr
  have hrv2 : ∀ y, rowE (S2.set r (.row [y] 44)) r 0 = some y := fun y => zE (jR hrr)
  have hpr2 : ∀ y z, z1o (S2.set r (.row [y] 44)) r 0 z = some (S2.set r (.row [z] 44)) := fun y z => by
   rw [qD (y := z) (jR hrr), List.set_set]
  have hr62 : ∀ y, rowE (S2.set r (.row [y] 44)) S1.length 0 = some (zD (getN t x) (A x) (B x)) := fun y => zE (by rw [List.getElem?_set_ne hne]; exact h6)
  have hl1 : ∀ y, jV Try.prog (S2.set r (.row [y] 44)) 3 (.ref S1.length 0 1) = some (.d (.int .i64 (getN t x).kind)) := fun y => (jS (hr62 y)).trans lv1
  have hl2 : ∀ y, jV Try.prog (S2.set r (.row [y] 44)) 3 (.ref S1.length 0 2) = some (.d (.int .i64 (getN t x).links)) := fun y => (jS (hr62 y)).trans lv2
  have hl4 : ∀ y, jV Try.prog (S2.set r (.row [y] 44)) 3 (.ref S1.length 0 4) = some (.d (.int .i64 (getN t x).size)) := fun y => (jS (hr62 y)).trans lv4
  refine vG (is := [0, 1, 2, 3, 4, 5, 6, 7, 8, 9, 10, 11, 12, 13, 14, 15, 16, 17, 18, 19, 20, 21, 22, 23]) (h := 0) (by kernel_rfl) (by kernel_rfl) ?_
  simp (maxSteps:=1000000) (disch:=first|assumption|omega|rfl) only [List.replicate_zero, eq_self, gw, ga, Nat.reduceAdd, ↓gq, hPS, List.append_nil, qL, qG, hr6, hrv, hpr, hrv2, hpr2, hr62, lv0, lv1, lv2, lv4, hxi, av1, av2, av3, av4]
  have rd1 : ∀ y (f : Nat) (k : Int), jV Try.prog (S2.set r (.row [y] 44)) 3 (.ref S1.length 0 f) = some (.d (.int .i64 k)) → (jV Try.prog (S2.set r (.row [y] 44)) 3 (.ref S1.length 0 f)).map (fun v => Rs.val v (S2.set r (.row [y] 44)) 1) = some (.val (.d (.int .i64 k)) (S2.set r (.row [y] 44)) 1) := fun y f k h => by rw [h]; rfl
  refine ⟨jT rfl (by kernel_rfl) rfl (rd1 _ 4 _ (hl4 _)) vK (jT rfl (by kernel_rfl) rfl (rd1 _ 2 _ (hl2 _)) vK (jT rfl (by kernel_rfl) rfl (rd1 _ 1 _ (hl1 _)) vK (zG (by kernel_rfl) qV))), ?_⟩
  refine ⟨jT rfl (by kernel_rfl) rfl (rd1 _ 4 _ (hl4 _)) vK (jT rfl (by kernel_rfl) rfl (rd1 _ 2 _ (hl2 _)) vK (zG (by kernel_rfl) (zG (by kernel_rfl) qV))), ?_⟩
  refine ⟨jT rfl (by kernel_rfl) rfl (rd1 _ 4 _ (hl4 _)) vK (zG (by kernel_rfl) (zG (by kernel_rfl) (zG (by kernel_rfl) qV))), ?_⟩
  refine ⟨zG (by kernel_rfl) (zG (by kernel_rfl) (zG (by kernel_rfl) (zG (by kernel_rfl) qV))), by kernel_rfl, ?_⟩
  simp (maxSteps:=1000000) (disch:=first|assumption|omega|rfl) only [↓gp, gc, Nat.reduceAdd, hPS]
  exact ⟨rfl, _, rfl, Res.done (v5 := .ts []) (v6 := .ts []) rfl (hT2.other hrr (by decide) (by decide) (by decide)) (jR hrr) vQ (.inl ⟨rfl, rfl⟩) (hK02.toR.setR)⟩
 ·intro h0 S1 hK1
  have e : z14 t o = qU (zH t o.a).2 := by unfold z14; rw [if_pos h0]
  rw [e]
  exact ⟨rfl, Res.fail h0 (Keep.app.trans hK1)⟩
theorem Tree.frameT {S S' : zA} {a m : Nat} {A B : Int → V} {t : List Node} (h : Tree S a m A B t) (hf : ∀ (j : Nat) (o : Ob), S[j]? = some o → ((∃ ys, o = .row ys 5) ∨ (∃ ys, o = .row ys 88) ∨ (∃ ys, o = .row ys 127) ∨ ∃ L c, o = .mp L c) → S'[j]? = some o) : Tree S' a m A B t := by
 obtain ⟨L, c, hm, hrest⟩ := h.st.mp
 refine ⟨hf _ _ h.cell (.inr (.inr (.inl ⟨_, rfl⟩))), ⟨L, c, hf _ _ hm (.inr (.inr (.inr ⟨_, _, rfl⟩))), hrest⟩, fun x hx => (h.st.da x hx).frame2 fun j q hq hi => ?_, fun x hx => (h.st.na x hx).frame2 fun j q hq hi => ?_, h.st.z, h.st.sa, h.st.sb⟩
 ·obtain ⟨ys, e⟩ := (h.st.da x hx).row hi
  rw [e] at hq; cases hq
  exact hf _ _ e (.inl ⟨_, rfl⟩)
 ·obtain ⟨ys, e⟩ := (h.st.na x hx).row hi
  rw [e] at hq; cases hq
  exact hf _ _ e (.inr (.inl ⟨_, rfl⟩))
theorem zr7 {α : Type} {enc : α → D} {t e : TypeId} {S : zA} {v : V} {l : List α} {a : α} (hu : Try.prog.underlying t = some (.slice e)) (hz : zOk Try.prog e = true) (hs : (sz Try.prog e).isSome = true) (hf : qI Try.prog e (.d (enc a)) = true) (hr : room Try.prog e (l.length + 1) = true) (h : SlE enc S v e l) :
  ∃ v' S' c, qF Try.prog S t t v (.ts [enc a]) = some (v', S', c) ∧ (c = 2 ∨ c = 3) ∧ SlE enc S' v' e (l ++ [a]) ∧ (∀ (j : Nat) (o : Ob), S[j]? = some o → idOf v ≠ some j → S'[j]? = some o) ∧ idOf v' = some S.length ∧ S.length ≤ S'.length := by
 have src1 : srcV Try.prog S e t (.ts [enc a]) = some [.d (enc a)] := by
  simp only [srcV, hu, vH, List.map_cons, List.map_nil, List.all_cons, List.all_nil, hf, hs, Bool.and_self, if_true]
 rcases h with ⟨rfl, rfl⟩ | ⟨id, ys, rfl, h1⟩
 ·refine ⟨.rs S.length 0 1, S ++ [.row [.d (enc a)] e], 2, ?_, .inl rfl, .inr ⟨S.length, [], rfl, by simp⟩, fun j o hj _ => Keep.app _ _ hj, rfl, by simp⟩
  have hr' : room Try.prog e (0 + (0 + 1)) = true := by simpa using hr
  simp only [qF, hu, src1, hz, if_true, List.all_nil, List.length_nil, hr', Bool.and_self, List.map_nil, List.nil_append]
 ·have hid := qN h1
  have htk : ((l ++ ys).map fun a => V.d (enc a)).take l.length = l.map fun a => V.d (enc a) := by rw [← List.map_take, List.take_append_of_le_length (Nat.le_refl _), List.take_length]
  refine ⟨.rs S.length 0 (l.length + 1), S.set id .dead ++ [.row (l.map (fun a => V.d (enc a)) ++ [.d (enc a)]) e], 3, ?_, .inr rfl, .inr ⟨S.length, [], by simp, ?_⟩, ?_, rfl, by simp⟩
  ·have hlen : ((l ++ ys).map fun a => V.d (enc a)).length = l.length + ys.length := by simp
   have h2 : l.length ≤ l.length + ys.length := by omega
   have hr' : room Try.prog e (l.length + (0 + 1)) = true := by simpa using hr
   simp only [qF, hu, src1, hz, if_true, h1, hlen, hr', h2, htk, List.length_nil, decide_true, Bool.and_self, Nat.zero_add]
  ·rw [List.getElem?_append_right (by simp)]
   simp
  ·intro j o hj hn
   have hjl := qN hj
   rw [List.getElem?_append_left (by simpa using hjl), List.getElem?_set_ne]
   ·exact hj
   ·rintro rfl; exact hn rfl
theorem se88 {e : Ent} {x0 x1 : V} : qW Try.prog 88 0 (.d (zI e)) (.agg [x0, x1]) = some (.d (zI e)) := by kernel_rfl
theorem le88 {e : Ent} : kA Try.prog 88 0 (some (.d (zI e))) = some (.d (zI e)) := by kernel_rfl
theorem q0o {S : zA} {v : V} {l : List (List UInt8)} (h : SlE encS S v 9 l) : qI Try.prog 42 v = true := by
 rcases h with ⟨rfl, _⟩ | ⟨id, ys, rfl, _⟩ <;> kernel_rfl
theorem zyo (S0 : zA) (a m r : Nat) (A B : Int → V) (t : List Node) (n : Node) (vb : V) (hnl : n.names.length < 900000) (R : Post) (x0 x1 x3 x4 x5 x6 : V) : ∀ (k i : Nat) (S : zA) (v6 : V) (g7 g8 g9 gI gJ gF gA gB gG gH gC gL gO gM gN gP gQ gV gR gS gT gU gW gX gY gZ : V), n.names.length - i = k → i ≤ n.names.length → Tree S a m A B t → SlE zI S vb 88 n.names → S[r]? = some (.row [ansV okN (.ts []) v6] 44) → SlE encS S v6 9 ((n.names.take i).map (·.name)) → KeepR r S0 S →
 (∀ S v6 i' g7 g8 g9 gI gJ gF gA gB gG gH gC gL gO gM gN gP gQ gV gR gS gT gU gW gX gY gZ, Tree S a m A B t → S[r]? = some (.row [ansV okN (.ts []) v6] 44) → SlE encS S v6 9 (n.names.map (·.name)) → KeepR r S0 S → R (.exit 0) (x0 :: x1 :: (.ref r 0 0) :: x3 :: x4 :: x5 :: x6 :: g7 :: g8 :: g9 :: gI :: gJ :: gF :: gA :: gB :: gG :: gH :: gC :: vb :: (.d (.int .i64 n.names.length)) :: i' :: gL :: gO :: gM :: gN :: gP :: gQ :: gV :: gR :: gS :: gT :: gU :: gW :: gX :: gY :: gZ :: []) S []) →
 Wp cfgS (.loop (lpOf (Try.f83.body.getD .skip) 0)) (x0 :: x1 :: (.ref r 0 0) :: x3 :: x4 :: x5 :: x6 :: g7 :: g8 :: g9 :: gI :: gJ :: gF :: gA :: gB :: gG :: gH :: gC :: vb :: (.d (.int .i64 n.names.length)) :: (.d (.int .i64 i)) :: gL :: gO :: gM :: gN :: gP :: gQ :: gV :: gR :: gS :: gT :: gU :: gW :: gX :: gY :: gZ :: []) S [] R := by
 intro k
 induction k with
 | zero =>
  intro i S v6 g7 g8 g9 gI gJ gF gA gB gG gH gC gL gO gM gN gP gQ gV gR gS gT gU gW gX gY gZ hk hi hT hvb hrr hv6 hKR hR
  have hie : i = n.names.length := by omega
  rw [qK]
  refine zS ?_
  conv => arg 2; whnf
  simp (maxSteps:=1000000) (disch:=first|assumption|omega|rfl) only [↓gp, gc, Nat.reduceAdd, hPS]
  exact hR _ _ _ _ _ _ _ _ _ _ _ _ _ _ _ _ _ _ _ _ _ _ _ _ _ _ _ _ _ hT hrr (by rw [hie, List.take_length] at hv6; exact hv6) hKR
 | succ k ih =>
  intro i S v6 g7 g8 g9 gI gJ gF gA gB gG gH gC gL gO gM gN gP gQ gV gR gS gT gU gW gX gY gZ hk hi hT hvb hrr hv6 hKR hR
  have hlt : i < n.names.length := by omega
  have htk : n.names.take (i + 1) = n.names.take i ++ [n.names[i]] := by rw [List.take_succ_eq_append_getElem hlt]
  obtain ⟨id, hix, hre, hidl⟩ := hvb.ix (t := 30) Try.underlying30 (by kernel_rfl) hlt
  rw [qK]
  refine zS ?_
  conv => arg 2; whnf
  generalize n.names[i] = e at *
  have h8 := qY (S := S) (o := Ob.row [.d (zI e)] 88)
  have hr8 := zE h8
  have hrr1 := qO (l := [Ob.row [.d (zI e)] 88]) hrr
  have hrv := zE hrr1
  have hv61 := hv6.keep (Keep.app (l := [Ob.row [.d (zI e)] 88]))
  obtain ⟨v6', S2, c, happ, hc, hv62, hf2, hid2, hl2⟩ := zr7 (t := 42) (a := e.name) Try.underlying42 zy6 zjv ff9 (zp8 (by rw [List.length_map, List.length_take]; omega)) hv61
  have notv : ∀ (j : Nat) (ys : List V) (u : TypeId), u ≠ 9 → (S ++ [Ob.row [.d (zI e)] 88])[j]? = some (.row ys u) → idOf v6 ≠ some j := fun j ys u hu hj hh => by
   obtain ⟨zs, q⟩ := hv61.row hh
   rw [hj] at q; cases q; exact hu rfl
  have hrr2 := hf2 _ _ hrr1 (notv _ _ _ (by decide) hrr1)
  have hrv2 := zE hrr2
  have hpr2 := fun y => qD (y := y) hrr2
  have hst := av6 (x := okN) (v5 := .ts []) (v6 := v6) (q0o hv62) hv62.cells
  simp (maxSteps:=1000000) (disch:=first|assumption|omega|rfl) only [↓gp, gc, Nat.reduceAdd, hPS, hix, hre, le88, z88, zf88, se88, zR, zN]
  have hne : r ≠ S.length := by have := qN hrr; omega
  have fin : ∀ g7 g8 g9 gI gJ gF gA gB gG gH gC gL gO gM gN gP gQ gV gR gS gT gU gW gX gY gZ, Wp cfgS (.loop (lpOf (Try.f83.body.getD .skip) 0)) (x0 :: x1 :: (.ref r 0 0) :: x3 :: x4 :: x5 :: x6 :: g7 :: g8 :: g9 :: gI :: gJ :: gF :: gA :: gB :: gG :: gH :: gC :: vb :: (.d (.int .i64 n.names.length)) :: (.d (.int .i64 ((i : Int) + 1))) :: gL :: gO :: gM :: gN :: gP :: gQ :: gV :: gR :: gS :: gT :: gU :: gW :: gX :: gY :: gZ :: []) (S2.set r (.row [ansV okN (.ts []) v6'] 44)) [] R := fun g7 g8 g9 gI gJ gF gA gB gG gH gC gL gO gM gN gP gQ gV gR gS gT gU gW gX gY gZ => by
   have hci : (i : Int) + 1 = ((i + 1 : Nat) : Int) := by omega
   rw [hci]
   have hT2 : Tree S2 a m A B t := (hT.keep (Keep.app (l := [Ob.row [.d (zI e)] 88]))).frameT fun j q hj hq => hf2 j q hj (by
    intro hh
    obtain ⟨zs, h9⟩ := hv61.row hh
    rw [h9] at hj
    cases hj
    rcases hq with ⟨ys, hq⟩ | ⟨ys, hq⟩ | ⟨ys, hq⟩ | ⟨L, c, hq⟩ <;> cases hq)
   refine ih (i + 1) _ v6' _ _ _ _ _ _ _ _ _ _ _ _ _ _ _ _ _ _ _ _ _ _ _ _ _ _ (by omega) (by omega) (hT2.other hrr2 (by decide) (by decide) (by decide)) ?_ (jR hrr2) ?_ ((hKR.trans ((Keep.app (l := [Ob.row [.d (zI e)] 88])).toR.trans (fun j ys e he _ hj => hf2 j _ hj (notv _ _ _ (by rcases he with rfl | rfl <;> decide) hj)))).setR) hR
   ·refine (hvb.keep (Keep.app (l := [Ob.row [.d (zI e)] 88]))).frame2 fun j q hj hh => ?_
    obtain ⟨ys, h9⟩ := (hvb.keep (Keep.app (l := [Ob.row [.d (zI e)] 88]))).row hh
    have h10 := hf2 j _ h9 (notv _ _ _ (by decide) h9)
    rw [List.getElem?_set_ne]
    ·rw [h9] at hj; cases hj; exact h10
    ·rintro rfl
     rw [hrr2] at h10
     simp only [Option.some.injEq, Ob.row.injEq] at h10
     exact absurd h10.2 (by decide)
   ·rw [htk, List.map_append]
    refine hv62.frame2 fun j q hj hh => ?_
    rw [hid2] at hh
    cases hh
    rw [List.getElem?_set_ne]
    ·exact hj
    ·have := qN hrr1; omega
  rcases hc with rfl | rfl
  ·skip
   refine vG (is := [0, 1, 2, 3, 4, 5, 6, 7, 8, 9, 10, 11]) (h := 0) (by kernel_rfl) (by kernel_rfl) ?_
   simp (maxSteps:=1000000) (disch:=first|assumption|omega|rfl) only [List.replicate_zero, eq_self, gw, ga, Nat.reduceAdd, ↓gq, hPS, List.append_nil, qL, qG, hr8, hrv, al6, le0, bs42, happ, hrv2, hst, hpr2, Option.map_some, Option.map_none]
   refine ⟨zG (by kernel_rfl) (zG (by kernel_rfl) qV), zG (by kernel_rfl) (zG (by kernel_rfl) qV), by kernel_rfl, ?_⟩
   simp (maxSteps:=1000000) (disch:=first|assumption|omega|rfl) only [↓gp, gc, Nat.reduceAdd, hPS]
   exact fin _ _ _ _ _ _ _ _ _ _ _ _ _ _ _ _ _ _ _ _ _ _ _ _ _ _
  ·skip
   refine vG (is := [0, 1, 2, 3, 4, 5, 6, 7, 8, 9, 10, 11]) (h := 0) (by kernel_rfl) (by kernel_rfl) ?_
   simp (maxSteps:=1000000) (disch:=first|assumption|omega|rfl) only [List.replicate_zero, eq_self, gw, ga, Nat.reduceAdd, ↓gq, hPS, List.append_nil, qL, qG, hr8, hrv, al6, le0, bs42, happ, hrv2, hst, hpr2, Option.map_some, Option.map_none]
   refine ⟨zG (by kernel_rfl) (zG (by kernel_rfl) qV), zG (by kernel_rfl) (zG (by kernel_rfl) qV), by kernel_rfl, ?_⟩
   simp (maxSteps:=1000000) (disch:=first|assumption|omega|rfl) only [↓gp, gc, Nat.reduceAdd, hPS]
   exact fin _ _ _ _ _ _ _ _ _ _ _ _ _ _ _ _ _ _ _ _ _ _ _ _ _ _
theorem q1p (S0 : zA) (a m r : Nat) (A B : Int → V) (t : List Node) (hT0 : Tree S0 a m A B t) (k0 : Nat) (hk0 : k0 < 200000) (hG : Good k0 t) (o : Opn) (hdo : o.does = 10) (hl : o.a.length < 900000) (hr : S0[r]? = some (.row [ansV okN (.ts []) (.ts [])] 44)) :
  EvS cfgS 83 [.ref a 0 0, .d (encOpn o), .ref r 0 0] S0 (Res S0 a m r (t, z14 t o)) := by
 have hk1 : k0 < 300000 := by omega
 refine vE rfl zyb ?_
 show Wp cfgS (Try.f83.body.getD .skip) ((.ref a 0 0) :: (.d (encOpn o)) :: (.ref r 0 0) :: uZ (uZ (uZ ((.tup []) :: (.tup []) :: (.tup []) :: [])))) S0 [] _
 unfold uZ
 conv => arg 2; whnf
 rw [qK]
 have hT1 := hT0.keep (Keep.app (l := [Ob.row [.d (encOpn o)] 48]))
 simp (maxSteps:=1000000) (disch:=first|assumption|omega|rfl) only [↓gp, gc, Nat.reduceAdd, hPS, zR]
 refine z9r rfl (zol _ a m hT1 hG.told k0 hk1 hG.sm o.a hl) ?_ ?_
 ·intro h0 S1 hK1
  have e : z14 t o = if (getN t (zH t o.a).1).kind ≠ 2 then qU 6 else zm6 ((getN t (zH t o.a).1).names.map (·.name)) := by unfold z14 zgb; rw [if_neg (by simp [h0]), if_neg (by omega), if_neg (by omega)]
  have hgn : (getN t (zH t o.a).1).names.length < 900000 := Nat.lt_of_le_of_lt (hG.sm.gnms _) (by omega)
  rw [e]
  generalize (zH t o.a).1 = x at *
  have hK02 := (Keep.app.trans hK1).trans (Keep.app (l := [Ob.row [zD (getN t x) (A x) (B x)] 32]))
  have hT2 := hT0.keep hK02
  have hrr := hK02 _ _ hr
  have hlen := (hT2.st.na x trivial).len (t := 30) Try.underlying30
  by_cases c1 : (getN t x).kind = 2
  ·rw [if_neg (fun hh => hh c1)]
   simp (maxSteps:=1000000) (disch:=first|assumption|omega|rfl) only [↓gp, gc, Nat.reduceAdd, hPS, zagg, z32v, kX, kM, svz, sv, lv, lv1, lv6, hlen, zR, zN, jJ]
   refine zyo S0 a m r A B t (getN t x) (B x) hgn _ _ _ _ _ _ _ (getN t x).names.length 0 _ (.ts []) _ _ _ _ _ _ _ _ _ _ _ _ _ _ _ _ _ _ _ _ _ _ _ _ _ _ rfl (by omega) hT2 (hT2.st.na x trivial) hrr (.inl ⟨rfl, rfl⟩) hK02.toR ?_
   intro S v6 i' g7 g8 g9 gI gJ gF gA gB gG gH gC gL gO gM gN gP gQ gV gR gS gT gU gW gX gY gZ hT hrv hv6 hKR
   simp (maxSteps:=1000000) (disch:=first|assumption|omega|rfl) only [↓gp, gc, Nat.reduceAdd, hPS]
   exact ⟨rfl, _, rfl, Res.done (v5 := .ts []) (v6 := v6) rfl hT hrv vQ hv6 hKR⟩
  ·rw [if_pos c1]
   have h6 : (6 : Int) ≠ 0 := by omega
   simp (maxSteps:=1000000) (disch:=first|assumption|omega|rfl) only [↓gp, gc, Nat.reduceAdd, hPS, zagg, z32v, kX, kM, svz, sv, lv, lv1, zR, zN, jX h6]
   exact ⟨rfl, Res.fail h6 hK02⟩
 ·intro h0 S1 hK1
  have e : z14 t o = qU (zH t o.a).2 := by unfold z14; rw [if_pos h0]
  rw [e]
  exact ⟨rfl, Res.fail h0 (Keep.app.trans hK1)⟩
end Go.Proofs.Ytghllhghboaagaa
end
section
namespace Go.Vm
open Go
section
variable {C : Cfg} {ops : Array Oper} {base : Nat} {F : Dfs} {Q : Post}
def WpNw (C : Cfg) (ops : Array Oper) (base : Nat) (K : List (Nat × Nat) → Nat → List Nat → V → zA → Prop) : Ws → List (Nat × Nat) → List Nat → List V → zA → Prop
 | _, _, [], _, _ => False
 | ws, cs, i :: is, T, S => ∃ o, ops[i]? = some o ∧ ((∃ n v S', panO C (run C n) ops o T S = some (v, S') ∧ K cs i is v S') ∨ (∃ n v S' c, effC C (run C n) ops (base + i) o T S = some (v, S', c) ∧ (2 < c → WAll C ops base ws i S') ∧ WpNw C ops base K (if c = 1 then (i, T, v) :: ws else ws) (cs ++ [(i, c)]) is (putT T o.dst v) S'))
theorem zli {K : List (Nat × Nat) → Nat → List Nat → V → zA → Prop} : ∀ {is : List Nat} {ws : Ws} {cs : List (Nat × Nat)} {T : List V} {S : zA}, WpNw C ops base K ws cs is T S → ∃ n v S' cs' p rest, seqP C (run C n) ops (befs ops) base ws is T S = some (v, S', cs', p, rest) ∧ K (cs ++ cs') p rest v S'
 | [], ws, cs, T, S, h => h.elim
 | i :: is, ws, cs, T, S, h => by
  obtain ⟨o, ho, h⟩ := h
  rcases h with ⟨n, v, S', h1, h2⟩ | ⟨n, v, S', c, h1, h2, h3⟩
  ·exact ⟨n, v, S', [], i, is, by simp only [seqP, ho, h1], by simpa using h2⟩
  ·obtain ⟨m, v2, S2, cs', p, rest, h4, h5⟩ := zli h3
   have hw : ∃ k, 2 < c → ∀ m, k ≤ m → ws.all (kI C (run C m) ops (befs ops) base i S') = true := by
    by_cases hc : 2 < c
    ·obtain ⟨k, hk⟩ := zgm (h2 hc)
     exact ⟨k, fun _ => hk⟩
    ·exact ⟨0, fun h => absurd h hc⟩
   obtain ⟨k, hk⟩ := hw
   have he := z05 (z4t C (show n ≤ max (max n m) k by omega)) h1
   have hs := z9p (z4t C (show m ≤ max (max n m) k by omega)) h4
   refine ⟨max (max n m) k, v2, S2, (i, c) :: cs', p, rest, ?_, by simpa using h5⟩
   simp only [seqP, ho, z8d he, he, hs]
   rw [if_neg]
   rintro ⟨hc, hall⟩
   rw [hk hc _ (by omega)] at hall
   cases hall
theorem zdk {id : Nat} {T : List V} {S : zA} {is : List Nat} {h : Nat} (ho : z2a C.shared ops = is) (hh : z01 ops = h) (hd : WpNw C ops S.length (fun cs p rest v S' => zog C.P ops cs p rest = true ∧ Q (.pan v) T (killAll S.length rest S') F) [] [] is T (S ++ List.replicate h .hole)) : Wp C (.region id ops true) T S F Q := by
 subst ho; subst hh
 obtain ⟨n, v, S', cs', p, rest, h1, h2, h3⟩ := zli hd
 refine ⟨n + 1, .pan v, T, _, F, ?_, h3⟩
 have hn : seqC C (run C n) ops (befs ops) S.length [] (z2a C.shared ops) T (S ++ List.replicate (z01 ops) .hole) = none := z5n (fun _ _ _ _ h => h) h1
 simp only [exec, hn, h1]
 rw [if_pos (by simpa using h2)]
section
variable {K : List (Nat × Nat) → Nat → List Nat → V → zA → Prop} {ws : Ws} {cs : List (Nat × Nat)} {i : Nat} {is : List Nat} {T : List V} {S S' : zA} {o : Oper} {v : V} {c : Nat}
theorem z6c (ho : ops[i]? = some o) (he : effC C (run C 0) ops (base + i) o T S = some (v, S', c)) (hc : 2 < c → WAll C ops base ws i S') (hk : WpNw C ops base K (if c = 1 then (i, T, v) :: ws else ws) (cs ++ [(i, c)]) is (putT T o.dst v) S') : WpNw C ops base K ws cs (i :: is) T S :=
 ⟨o, ho, .inr ⟨0, v, S', c, he, hc, hk⟩⟩
theorem zlb {id : Nat} {f : FuncId} {args : List V} {n : Nat} (hw : qE ops T o = some true) (ha : kR o = false) (hop : opV C.P S T o = some (.enter f args)) (hs : C.shared f = true) (hn : run C n f args S = some (.ret v, S')) : effC C (run C n) ops id o T S = some (v, S', 3) := by
 have hc : kE C (run C n) f args S = some (.ret v, S', 3) := by
  unfold kE
  simp only [hs, if_true, hn, Option.map_some]
 simp only [effC, hw, ha, Bool.false_eq_true, if_false, hop, hc]
 rfl
theorem zm2 {f : FuncId} {args : List V} {n : Nat} (hw : qE ops T o = some true) (ha : kR o = false) (hop : opV C.P S T o = some (.enter f args)) (hs : C.shared f = true) (hn : run C n f args S = some (.pan v, S')) : panO C (run C n) ops o T S = some (v, S') := by
 have hc : kE C (run C n) f args S = some (.pan v, S', 3) := by
  unfold kE
  simp only [hs, if_true, hn, Option.map_some]
 simp only [panO, hw, ha, Bool.false_eq_true, if_false, hop, hc]
end
end
def cvV (P : Program) (args : List V) : V → Option Rs
 | .fn (.func g) first caps => if args.all V.one && (zC P g).isSome then some (.enter g (first ++ args ++ caps)) else none
 | .d (.fn (.func g) first caps) => if args.all V.one && (zC P g).isSome then some (.enter g (first.map .d ++ args ++ caps.map .d)) else none
 | _ => none
theorem op_callv {P : Program} {S : zA} {T : List V} {dst : Option Tmp} {ty : TypeId} {pos : String} {after : Array Edge} {g : Option (Nat × Bool)} {t : Nat} {args : Array Operand} {ts : Array TypeId} : opV P S T ⟨dst, .call { callee := .value (.tmp t), args := args, argTypes := ts }, ty, pos, after, g⟩ = cvV P (args.toList.map (zF T)) (zF T (.tmp t)) := by
 simp only [opV, cvV]
 rfl
theorem zw6 {P : Program} {args first caps : List V} {g : FuncId} (h1 : args.all V.one = true) (h2 : (zC P g).isSome = true) : cvV P args (.fn (.func g) first caps) = some (.enter g (first ++ args ++ caps)) := by
 simp only [cvV, h1, h2, Bool.and_self, if_true]
section
variable {C : Cfg} {ops : Array Oper} {dst : Option Tmp} {op : Op} {ty : TypeId} {pos : String} {after : Array Edge} {l : List Oper} {T : List V} {S : zA} {F : Dfs} {Q : Post}
end
end Go.Vm
end
section
namespace Go.Proofs.Ytghllhghboaagaa
open Go.Vm
def z7s (d : Int) : FuncId := if d = 1 ∨ d = 2 then 76 else if d = 3 then 77 else if d = 4 ∨ d = 5 then 78 else if d = 6 then 79 else if d = 7 then 80 else if d = 8 then 81 else if d = 9 then 82 else if d = 10 then 83 else if d = 11 then 84 else if d = 12 then 85 else 86
def zdo (a : Nat) (d : Int) : List V := if 1 ≤ d ∧ d ≤ 12 then [.ref a 0 0] else []
theorem mf_r {fn : Fn} {S : zA} {a : Nat} : mfS fn S [.ref a 0 0] [] = some (.val (.fn fn [.ref a 0 0] []) S 0) := rfl
theorem zrn {T : List V} : zF T (.const .nilFunc) = .d .nilf := rfl
theorem zkx {T : List V} {f : FuncId} : zF T (.func f) = .fn (.func f) [] [] := rfl
theorem zul (S0 : zA) (a : Nat) (d : Int) (h1 : 1 ≤ d) (h13 : d ≤ 13) : EvS cfgS 44 [.ref a 0 0, .d (.int .i64 d)] S0 fun o S => S = S0 ∧ o = .ret (.fn (.func (z7s d)) (zdo a d) []) := by
 refine vE rfl zxu ?_
 show Wp cfgS (Try.f44.body.getD .skip) ((.ref a 0 0) :: (.d (.int .i64 d)) :: uZ (uZ (uZ (uZ ((.tup []) :: (.tup []) :: (.tup []) :: (.tup []) :: (.tup []) :: (.tup []) :: []))))) S0 [] _
 unfold uZ
 conv => arg 2; whnf
 rw [qK]
 have hd : d = 1 ∨ d = 2 ∨ d = 3 ∨ d = 4 ∨ d = 5 ∨ d = 6 ∨ d = 7 ∨ d = 8 ∨ d = 9 ∨ d = 10 ∨ d = 11 ∨ d = 12 ∨ d = 13 := by omega
 have hG : ∀ (g : FuncId) (l : List V), z7s d = g → zdo a d = l → (∃ v, (some (V.fn (.func g) l []) : Option V) = some v ∧ (S0 = S0 ∧ Out.ret v = .ret (.fn (.func (z7s d)) (zdo a d) []))) := fun g l h1 h2 => ⟨_, rfl, rfl, by rw [h1, h2]⟩
 rcases hd with h | h | h | h | h | h | h | h | h | h | h | h | h
 all_goals simp (maxSteps:=1000000) (disch:=first|assumption|omega|rfl) only [↓gp, gc, Nat.reduceAdd, hPS, ↓z9d, mf_r, zrn, zkx]
 all_goals exact ⟨rfl, hG _ _ (by simp [z7s, h]) (by simp [zdo, h])⟩
theorem zk2 (d : Int) : (zC Try.prog (z7s d)).isSome = true := by
 unfold z7s
 repeat' split
 all_goals kernel_rfl
theorem zkq (d : Int) : cfgS.shared (z7s d) = true := by
 unfold z7s
 repeat' split
 all_goals kernel_rfl
theorem zzt (S0 : zA) (a m r : Nat) (A B : Int → V) (t : List Node) (hT0 : Tree S0 a m A B t) (o : Opn) (hr : S0[r]? = some (.row [ansV okN (.ts []) (.ts [])] 44)) :
  EvS cfgS 86 [.d (encOpn o), .ref r 0 0] S0 (Res S0 a m r (t, okN)) := by
 refine vE rfl zwo ?_
 show Wp cfgS (Try.f86.body.getD .skip) ((.d (encOpn o)) :: (.ref r 0 0) :: (.tup []) :: (.tup []) :: []) S0 [] _
 conv => arg 2; whnf
 rw [qK]
 simp (maxSteps:=1000000) (disch:=first|assumption|omega|rfl) only [↓gp, gc, Nat.reduceAdd, hPS, zR]
 exact ⟨rfl, _, rfl, Res.done (v5 := .ts []) (v6 := .ts []) rfl (hT0.keep Keep.app) (qO hr) vQ (.inl ⟨rfl, rfl⟩) Keep.app.toR⟩
theorem zk9 (S0 : zA) (a m r : Nat) (A B : Int → V) (t : List Node) (hT0 : Tree S0 a m A B t) (k0 : Nat) (hk0 : k0 < 190000) (hG : Good k0 t) (o : Opn) (hm : mayN o = true) (hl : o.a.length < 900000) (hlb : o.b.length < 900000) (hr : S0[r]? = some (.row [ansV okN (.ts []) (.ts [])] 44)) :
  EvS cfgS (z7s o.does) (zdo a o.does ++ [.d (encOpn o), .ref r 0 0] ++ []) S0 (Res S0 a m r (qR t o)) := by
 have hk1 : k0 < 200000 := by omega
 have hm2 := of_decide_eq_true hm
 have hd : o.does = 1 ∨ o.does = 2 ∨ o.does = 3 ∨ o.does = 4 ∨ o.does = 5 ∨ o.does = 6 ∨ o.does = 7 ∨ o.does = 8 ∨ o.does = 9 ∨ o.does = 10 ∨ o.does = 11 ∨ o.does = 12 ∨ o.does = 13 := by omega
 have hs : qR t o = if o.does < 3 then z0h t o
  else if o.does = 3 then vR t o
  else if o.does < 6 then kU t o
  else if o.does = 6 then kT t o
  else if o.does < 10 then wC t o
  else if o.does < 13 then (t, z14 t o)
  else (t, okN) := by
  unfold qR
  rw [if_neg (by rw [hm]; exact Bool.noConfusion)]
 rw [hs]
 unfold z7s zdo
 rcases hd with h | h | h | h | h | h | h | h | h | h | h | h | h
 ·simp only [h]; exact zki S0 a m r A B t hT0 k0 hk1 hG o hl hr
 ·simp only [h]; exact zki S0 a m r A B t hT0 k0 hk1 hG o hl hr
 ·simp only [h]; exact q03 S0 a m r A B t hT0 k0 hk1 hG o hl hlb hr
 ·simp only [h]; exact zk0 S0 a m r A B t hT0 k0 hk1 hG o (.inl h) hl hr
 ·simp only [h]; exact zk0 S0 a m r A B t hT0 k0 hk1 hG o (.inr h) hl hr
 ·simp only [h]; exact zsg S0 a m r A B t hT0 k0 hk0 hG o hl hlb hr
 ·simp only [h]; exact zu8 S0 a m r A B t hT0 k0 hk1 hG o h hl hm2.2.2 hr
 ·simp only [h]; exact q1n S0 a m r A B t hT0 k0 hk1 hG o h hl hr
 ·simp only [h]; exact zkj S0 a m r A B t hT0 k0 hk1 hG o h hl hr
 ·simp only [h]; exact q1p S0 a m r A B t hT0 k0 hk1 hG o h hl hr
 ·simp only [h]; exact q1c S0 a m r A B t hT0 k0 hk1 hG o h hl hr
 ·simp only [h]; exact zyf S0 a m r A B t hT0 k0 hk1 hG o h hl hr
 ·simp only [h]; exact zzt S0 a m r A B t hT0 o hr
theorem lr94 {a : Nat} : kA Try.prog 94 0 (some (.ref a 0 0)) = some (.ref a 0 0) := by kernel_rfl
theorem zq9 {n : Nat} {l : List UInt8} : z4n (n + 2) (encB l) (encB l) = true := by
 unfold encB
 show all2 (z4n (n + 1)) _ _ = true
 induction l with
 | nil => rfl
 | cons b r ih =>
  show (z4n (n + 1) (.int .u8 b.toNat) (.int .u8 b.toNat) && all2 (z4n (n + 1)) _ _) = true
  rw [ih]
  simp [z4n, kO]
theorem zcj {o : Opn} : z3h (.d (encOpn o)) (.d (encOpn o)) = true := by
 show (kO (.int .i64 o.does) (.int .i64 o.does) && (kO (.str o.a) (.str o.a) && (kO (.str o.b) (.str o.b) && (kO (.int .i64 o.off) (.int .i64 o.off) && (kO (.int .i64 o.n) (.int .i64 o.n) && (z4n 5 (encB o.data) (encB o.data) && true)))))) = true
 rw [zq9]
 simp [kO]
theorem zcd {C : Cfg} {call : wB} {ops : Array Oper} {id : Nat} {o : Oper} {T : List V} {S S' : zA} {v : V} {c : Nat} (hw : qE ops T o = some true) (ha : kR o = false) (hop : opV C.P S T o = some (.val v S' c)) : effC C call ops id o T S = some (v, S', num2 c) := by
 simp only [effC, hw, ha, Bool.false_eq_true, if_false, hop]
theorem ld1 {S : zA} {t : TypeId} {y : V} {i f : Nat} (h : jV Try.prog S t (.ref i 0 f) = some y) : (jV Try.prog S t (.ref i 0 f)).map (fun v => Rs.val v S 1) = some (.val y S 1) := by rw [h]; rfl
theorem zuq (S0 : zA) (a m r i7 i3 : Nat) (A B : Int → V) (t : List Node) (hT0 : Tree S0 a m A B t) (k0 : Nat) (hk0 : k0 < 190000) (hG : Good k0 t) (o : Opn) (hm : mayN o = true) (hl : o.a.length < 900000) (hlb : o.b.length < 900000) (hr : S0[r]? = some (.row [ansV okN (.ts []) (.ts [])] 44)) (h7 : S0[i7]? = some (.row [.ref a 0 0] 94)) (h3 : S0[i3]? = some (.row [.d (encOpn o)] 48)) :
  EvS cfgS 43 [.ref i7 0 0, .ref i3 0 0, .ref r 0 0] S0 (Res S0 a m r (qR t o)) := by
 have hm2 := of_decide_eq_true hm
 obtain ⟨n1, o1, S1, hn1, hS1, ho1⟩ := zul S0 a o.does hm2.1 hm2.2.1
 rw [hS1, ho1] at hn1
 obtain ⟨n2, o2, S2, hn2, hR⟩ := zk9 S0 a m r A B t hT0 k0 hk0 hG o hm hl hlb hr
 have hr7 := zE h7
 have hr3 := zE h3
 refine vE rfl zze ?_
 show Wp cfgS (Try.f43.body.getD .skip) ((.ref i7 0 0) :: (.ref i3 0 0) :: (.ref r 0 0) :: (.tup []) :: (.tup []) :: (.tup []) :: (.tup []) :: (.tup []) :: (.tup []) :: []) S0 [] _
 conv => arg 2; whnf
 rw [qK]
 have hl7 : jV Try.prog S0 94 (.ref i7 0 0) = some (.ref a 0 0) := (jS hr7).trans lr94
 have hl3 : jV Try.prog S0 48 (.ref i3 0 0) = some (.d (encOpn o)) := (jS hr3).trans lr48
 have hld : jV Try.prog S0 3 (.ref i3 0 0) = some (.d (.int .i64 o.does)) := (jS hr3).trans (by kernel_rfl)
 have hE1 : EvS cfgS 44 [.ref a 0 0, .d (.int .i64 o.does)] S0 fun o' S => S = S0 ∧ o' = .ret (.fn (.func (z7s o.does)) (zdo a o.does) []) := zul S0 a o.does hm2.1 hm2.2.1
 by_cases he : (qR t o).2.err = 0
 ·refine vG (is := [0, 1, 2, 4, 3, 5]) (h := 0) (by kernel_rfl) (by kernel_rfl) ?_
  simp (maxSteps:=1000000) (disch:=first|assumption|omega|rfl) only [List.replicate_zero, eq_self, gw, ga, Nat.reduceAdd, ↓gq, hPS, List.append_nil, hr7, hr3, lr94, lr48]
  refine z83 rfl hE1 ?_ ?_
  ·rintro v S1' ⟨hS, hv⟩
   have hS := hS.symm
   subst hS
   cases hv
   refine ⟨jT rfl (by kernel_rfl) rfl (ld1 hl3) zcj (zG (by kernel_rfl) (zG (by kernel_rfl) qV)), ?_⟩
   simp (maxSteps:=1000000) (disch:=first|assumption|omega|rfl) only [List.replicate_zero, eq_self, gw, ga, Nat.reduceAdd, ↓gq, hPS, List.append_nil, op_callv]
   rw [zw6 (by rfl) (zk2 _), List.append_nil]
   have hE2 := zk9 S0 a m r A B t hT0 k0 hk0 hG o hm hl hlb hr
   rw [List.append_nil] at hE2
   refine z83 (zkq _) hE2 ?_ ?_
   ·intro v S2' hR'
    refine ⟨zG (by kernel_rfl) (zG (by kernel_rfl) (zG (by kernel_rfl) qV)), by kernel_rfl, ?_⟩
    simp (maxSteps:=1000000) (disch:=first|assumption|omega|rfl) only [↓gp, gc, Nat.reduceAdd, hPS]
    refine ⟨rfl, _, rfl, ?_⟩
    unfold Res at hR' ⊢
    rw [if_pos he] at hR' ⊢
    exact ⟨⟨_, rfl⟩, hR'.2⟩
   ·intro v S2' hR'
    unfold Res at hR'
    rw [if_pos he] at hR'
    obtain ⟨⟨w, hv⟩, _⟩ := hR'
    cases hv
  ·rintro v S' ⟨_, hv⟩
   cases hv
 ·have ho2 : o2 = panD (qR t o).2.err := by
   unfold Res at hR
   rw [if_neg he] at hR
   exact hR.1
  have hk2 : Keep S0 S2 := by
   unfold Res at hR
   rw [if_neg he] at hR
   exact hR.2
  rw [ho2] at hn2
  refine zdk (is := [0, 1, 2, 4, 3, 5]) (h := 0) (by kernel_rfl) (by kernel_rfl) ?_
  rw [List.replicate_zero, List.append_nil]
  refine z6c rfl (zcd (by kernel_rfl) rfl (ld1 hl7)) (fun h => absurd h (by decide)) ?_
  refine z6c (v := .ref i3 0 0) (S' := S0) (c := 0) rfl (zcd (c := 0) (by kernel_rfl) rfl (by kernel_rfl)) (fun h => absurd h (by decide)) ?_
  refine z6c rfl (zcd (by kernel_rfl) rfl (ld1 hld)) (fun h => absurd h (by decide)) ?_
  refine z6c rfl (zcd (by kernel_rfl) rfl (ld1 hl3)) (fun h => absurd h (by decide)) ?_
  refine ⟨_, rfl, .inr ⟨n1, _, S0, 3, zlb (by kernel_rfl) rfl (by kernel_rfl) (f := 44) (args := [.ref a 0 0, .d (.int .i64 o.does)]) rfl hn1, fun _ => ?_, ?_⟩⟩
  ·exact jT rfl (by kernel_rfl) rfl (ld1 hl3) zcj (zG (by kernel_rfl) (zG (by kernel_rfl) qV))
  refine ⟨_, rfl, .inl ⟨n2, _, S2, zm2 (by kernel_rfl) rfl (f := z7s o.does) (args := zdo a o.does ++ [.d (encOpn o), .ref r 0 0] ++ []) ?_ (zkq _) hn2, ?_⟩⟩
  ·exact op_callv.trans (zw6 (by kernel_rfl) (zk2 _))
  refine ⟨by kernel_rfl, rfl, ?_⟩
  show Res S0 a m r (qR t o) (panD (qR t o).2.err) S2
  unfold Res
  rw [if_neg he]
  exact ⟨rfl, hk2⟩
theorem zmm {S : zA} {n : Node} {v1 v2 : V} (h1 : SlE encU S v1 5 n.data) (h2 : SlE zI S v2 88 n.names) :
  ∃ w S' c u, bs1 Try.prog S 25 (zD n v1 v2) = some (.val w S' c) ∧ srcV Try.prog S' 32 25 w = some [u] ∧ (u = zD n v1 v2 ∨ u = .d (zB n)) ∧ Keep S S' := by
 have src : ∀ {x : V}, qI Try.prog 32 x = true → srcV Try.prog (S ++ [.row [x] 32]) 32 25 (.rs S.length 0 1) = some [x] := fun {x} hx => by
  have e1 : vH (S ++ [.row [x] 32]) (.rs S.length 0 1) = some [x] := by simp [vH]
  simp only [srcV, Try.underlying25, e1, List.all_cons, List.all_nil, hx, zqi, Bool.and_self, if_true]
 rcases h1 with ⟨rfl, hd⟩ | ⟨i, ys, rfl, hi⟩
 ·rcases h2 with ⟨rfl, hn⟩ | ⟨j, zs, rfl, hj⟩
  ·refine ⟨.ts [zB n], S, 0, .d (zB n), ?_, ?_, .inr rfl, Keep.refl⟩
   ·have : zB n = .agg [.int .i64 n.ino, .int .i64 n.kind, .int .i64 n.links, .int .i64 n.parent, .int .i64 n.size, .sl [], .sl []] := by unfold zB encB; rw [hd, hn]; rfl
    rw [this]
    exact zts
   ·have e1 : vH S (.ts [zB n]) = some [.d (zB n)] := rfl
    simp only [srcV, Try.underlying25, e1, List.all_cons, List.all_nil, zt7, zqi, Bool.and_self, if_true]
  ·exact ⟨.rs S.length 0 1, S ++ [.row [zD n (.ts []) (.rs j 0 n.names.length)] 32], 2, _, by unfold zD; kernel_rfl, src (by unfold zD; exact zoi), .inl rfl, Keep.app⟩
 ·rcases h2 with ⟨rfl, hn⟩ | ⟨j, zs, rfl, hj⟩
  ·exact ⟨.rs S.length 0 1, S ++ [.row [zD n (.rs i 0 n.data.length) (.ts [])] 32], 2, _, by unfold zD; kernel_rfl, src (by unfold zD; exact zoi), .inl rfl, Keep.app⟩
  ·exact ⟨.rs S.length 0 1, S ++ [.row [zD n (.rs i 0 n.data.length) (.rs j 0 n.names.length)] 32], 2, _, by unfold zD; kernel_rfl, src (by unfold zD; exact zoi), .inl rfl, Keep.app⟩
def Us (A B : Int → V) : List Node → List V → Prop
 | [], [] => True
 | n :: ns, u :: us => (u = .d (zB n) ∨ u = zD n (A n.ino) (B n.ino)) ∧ Us A B ns us
 | _, _ => False
theorem Us.snoc {A B : Int → V} {n : Node} {u : V} (hn : u = .d (zB n) ∨ u = zD n (A n.ino) (B n.ino)) : ∀ {ns : List Node} {us : List V}, Us A B ns us → Us A B (ns ++ [n]) (us ++ [u])
 | [], [], _ => ⟨hn, trivial⟩
 | m :: ns, v :: us, h => ⟨h.1, Us.snoc hn h.2⟩
theorem Us.len {A B : Int → V} : ∀ {ns : List Node} {us : List V}, Us A B ns us → us.length = ns.length
 | [], [], _ => rfl
 | m :: ns, v :: us, h => by simp [Us.len h.2]
theorem Us.frz {S : zA} {A B : Int → V} (hf : ∀ n : Node, True) : ∀ {ns : List Node} {us : List V}, (∀ n ∈ ns, Go.Vm.frz S 11 (zD n (A n.ino) (B n.ino)) = some (zB n)) → Us A B ns us → allO (Go.Vm.frz S 11) us = some (ns.map zB)
 | [], [], _, _ => rfl
 | m :: ns, v :: us, h, hu => by
  have h1 : Go.Vm.frz S 11 v = some (zB m) := by
   rcases hu.1 with rfl | rfl
   ·rfl
   ·exact h m (by simp)
  simp only [allO, h1, Us.frz hf (fun n hn => h n (by simp [hn])) hu.2, List.map_cons]
theorem zb9 {d r : List Node} {i : Int} (hd : ∀ n ∈ d, n.ino < i) (hs : Srt r) (hr : ∀ n ∈ r, i ≤ n.ino) : (hasN (d ++ r) i = false ∧ ∀ n ∈ r, i + 1 ≤ n.ino) ∨ ∃ n r', r = n :: r' ∧ n.ino = i ∧ hasN (d ++ r) i = true ∧ ∀ m ∈ r', i + 1 ≤ m.ino := by
 by_cases h : ∃ n ∈ r, n.ino = i
 ·right
  cases r with
  | nil => obtain ⟨n, hn, _⟩ := h; cases hn
  | cons m r' =>
   obtain ⟨h1, h2⟩ := Srt.cons.1 hs
   have hm := hr m (by simp)
   have hmi : m.ino = i := by
    obtain ⟨n, hn, he⟩ := h
    rcases List.mem_cons.1 hn with rfl | hn
    ·exact he
    ·have := h1 n hn; omega
   exact ⟨m, r', rfl, hmi, z27.2 ⟨m, by simp, hmi⟩, fun x hx => by have := h1 x hx; omega⟩
 ·left
  refine ⟨?_, fun n hn => ?_⟩
  ·cases hh : hasN (d ++ r) i with
   | false => rfl
   | true =>
    obtain ⟨n, hn, he⟩ := z27.1 hh
    rcases List.mem_append.1 hn with hn | hn
    ·have := hd n hn; omega
    ·exact absurd ⟨n, hn, he⟩ h
  ·have := hr n hn
   have : n.ino ≠ i := fun he => h ⟨n, hn, he⟩
   omega
theorem zr6 (S0 : zA) (a m : Nat) (A B : Int → V) (t : List Node) (hT0 : Tree S0 a m A B t) (hsr : Srt t) (hn0 : ∀ n ∈ t, 0 ≤ n.ino ∧ n.ino ≤ 128) (hl : t.length < 400000) (R : Post) (x1 x2 : V) : ∀ (k i : Nat) (d r : List Node) (us : List V) (S : zA) (v3 : V) (g4 g5 g6 g8 g9 gI gJ gF gA gB gG gH gC gD gE gK gL gO gM gN gP : V), 129 - i = k → i ≤ 129 → t = d ++ r → (∀ n ∈ d, n.ino < (i : Int)) → (∀ n ∈ r, (i : Int) ≤ n.ino) → Keep S0 S → (∀ (j : Nat) (o : Ob), S0[j]? = some o → NotAt v3 j) → OwnS S v3 32 us → Us A B d us →
 (∀ S v3 us i' g4 g5 g6 g8 g9 gI gJ gF gA gB gG gH gC gD gE gK gL gO gM gN gP, Keep S0 S → OwnS S v3 32 us → Us A B t us → R (.exit 0) ((.ref a 0 0) :: x1 :: x2 :: v3 :: g4 :: g5 :: g6 :: i' :: g8 :: g9 :: gI :: gJ :: gF :: gA :: gB :: gG :: gH :: gC :: gD :: gE :: gK :: gL :: gO :: gM :: gN :: gP :: []) S []) →
 Wp cfgS (.loop (lpOf (Try.f41.body.getD .skip) 0)) ((.ref a 0 0) :: x1 :: x2 :: v3 :: g4 :: g5 :: g6 :: (.d (.int .i64 i)) :: g8 :: g9 :: gI :: gJ :: gF :: gA :: gB :: gG :: gH :: gC :: gD :: gE :: gK :: gL :: gO :: gM :: gN :: gP :: []) S [] R := by
 intro k
 induction k with
 | zero =>
  intro i d r us S v3 g4 g5 g6 g8 g9 gI gJ gF gA gB gG gH gC gD gE gK gL gO gM gN gP hk hi ht hd hr hK hN hO hU hR
  have hie : i = 129 := by omega
  subst hie
  have hre : r = [] := by
   cases r with
   | nil => rfl
   | cons n r' =>
    have h1 := hr n (by simp)
    have h2 := hn0 n (by rw [ht]; simp)
    omega
  rw [hre, List.append_nil] at ht
  rw [← ht] at hU
  have hlt : ¬ ((129 : Nat) : Int) < 129 := by omega
  rw [qK]
  refine zS ?_
  conv => arg 2; whnf
  simp (maxSteps:=1000000) (disch:=first|assumption|omega|rfl) only [↓gp, gc, Nat.reduceAdd, hPS]
  exact hR _ _ us _ _ _ _ _ _ _ _ _ _ _ _ _ _ _ _ _ _ _ _ _ _ hK hO hU
 | succ k ih =>
  intro i d r us S v3 g4 g5 g6 g8 g9 gI gJ gF gA gB gG gH gC gD gE gK gL gO gM gN gP hk hi ht hd hr hK hN hO hU hR
  have hlt : (i : Int) < 129 := by omega
  have hT := hT0.keep hK
  have hra := hT.row
  have hlk := fun x => (hT.st.look x).1
  have hT1 := hT.keep (Keep.app (l := [Ob.row [zD (getN t i) (A i) (B i)] 32]))
  have hO1 := z0f (S' := S ++ [Ob.row [zD (getN t i) (A i) (B i)] 32]) hO (fun j o hj => qO hj)
  have h5 := qY (S := S) (o := Ob.row [zD (getN t i) (A i) (B i)] 32)
  have hr5 := zE h5
  have hsr' : Srt r := by
   rw [ht] at hsr
   unfold Srt at hsr ⊢
   exact hsr.sublist ((List.sublist_append_right d r).map _)
  have hci : (i : Int) + 1 = ((i + 1 : Nat) : Int) := by omega
  rw [qK]
  refine zS ?_
  conv => arg 2; whnf
  rcases zb9 hd hsr' hr with ⟨h1, h2⟩ | ⟨n, r', h0, hni, h1, h2⟩
  ·rw [← ht] at h1
   simp (maxSteps:=1000000) (disch:=first|assumption|omega|rfl) only [↓gp, gc, Nat.reduceAdd, hPS, zagg, z32v, kX, qG, vD, wU, hra, hlk, h1, kM, svz, sv, lv, zR, zN, hci]
   exact ih (i + 1) d r us _ v3 _ _ _ _ _ _ _ _ _ _ _ _ _ _ _ _ _ _ _ _ _ (by omega) (by omega) ht (fun n hn => by have := hd n hn; omega) (fun n hn => by have := h2 n hn; omega) (hK.trans Keep.app) hN hO1 hU hR
  ·rw [← ht] at h1
   have hgn : getN t i = n := by
    rw [← hni]
    exact z4c hsr.uniq (by rw [ht, h0]; simp)
   have hul := hU.len
   have hdl : d.length ≤ t.length := by rw [ht, List.length_append]; omega
   obtain ⟨w, S2, c, u, hbs, hsrc, hu, hk2⟩ := zmm (n := getN t i) (hT1.st.da i trivial) (hT1.st.na i trivial)
   have hO2 := z0f hO1 (fun j o hj => hk2 j o hj)
   obtain ⟨v3', S3, c3, ha3, hO3, hf3⟩ := zix (P := Try.prog) Try.underlying25 ztt hsrc hO2 (zpz (by omega))
   simp (maxSteps:=1000000) (disch:=first|assumption|omega|rfl) only [↓gp, gc, Nat.reduceAdd, ↓vbs, hPS, zagg, z32v, kX, qG, vD, wU, hra, hlk, h1, kM, svz, sv, lv, zR, zN, hr5, hbs, ha3, hci]
   have hK2 : Keep S0 S2 := (hK.trans Keep.app).trans hk2
   refine ih (i + 1) (d ++ [n]) r' (us ++ [u]) S3 v3' _ _ _ _ _ _ _ _ _ _ _ _ _ _ _ _ _ _ _ _ _ (by omega) (by omega) (by rw [ht, h0]; simp) (fun x hx => ?_) (fun x hx => by have := h2 x hx; omega) (fun j o hj => (hf3 j o (hK2 j o hj) (hN j o hj)).1) (fun j o hj => (hf3 j o (hK2 j o hj) (hN j o hj)).2) hO3 (hU.snoc ?_) hR
   ·rcases List.mem_append.1 hx with hx | hx
    ·have := hd x hx; omega
    ·rw [List.mem_singleton.1 hx]; omega
   ·rw [hgn] at hu
    rw [hni]
    exact hu.symm
theorem q1i {S : zA} {T : List V} {x : Nat} {v : V} (hx : T.getD x (.tup []) = v) : jQ Try.prog #[.tmp x] T S = some v := by
 show wT Try.prog T S (.tmp x) = some v
 simp only [wT, hx]
theorem zrt (S0 : zA) (a m : Nat) (A B : Int → V) (t : List Node) (hT0 : Tree S0 a m A B t) (hsr : Srt t) (hn0 : ∀ n ∈ t, 0 ≤ n.ino ∧ n.ino ≤ 128) (hl : t.length < 400000) : EvS cfgS 41 [.ref a 0 0] S0 fun o S => ∃ v us, o = .ret v ∧ Keep S0 S ∧ OwnS S v 32 us ∧ Us A B t us := by
 refine vE rfl zpp ?_
 show Wp cfgS (Try.f41.body.getD .skip) ((.ref a 0 0) :: uZ (uZ ((.tup []) :: (.tup []) :: (.tup []) :: (.tup []) :: (.tup []) :: []))) S0 [] _
 unfold uZ
 conv => arg 2; whnf
 rw [qK]
 simp (maxSteps:=1000000) (disch:=first|assumption|omega|rfl) only [↓gp, gc, Nat.reduceAdd, hPS]
 refine zr6 S0 a m A B t hT0 hsr hn0 hl _ _ _ 129 0 [] t [] _ _ _ _ _ _ _ _ _ _ _ _ _ _ _ _ _ _ _ _ _ _ _ rfl (by omega) rfl (fun n hn => by cases hn) (fun n hn => (hn0 n hn).1) Keep.refl (fun j o hj => NotAt.ts) OwnS.nil trivial ?_
 intro S v3 us i' g4 g5 g6 g8 g9 gI gJ gF gA gB gG gH gC gD gE gK gL gO gM gN gP hK hO hU
 simp (maxSteps:=1000000) (disch:=first|assumption|omega|rfl) only [↓gp, gc, Nat.reduceAdd, hPS]
 exact ⟨rfl, _, q1i rfl, _, us, rfl, hK, hO, hU⟩
theorem zig (o : Opn) : Ev cfg 39 [encOpn o] (.ret (.d (.int .i64 (if mayN o then 0 else 1)))) := by
 refine kQ rfl rfl zv6 ?_
 show Wp cfg (Try.f39.body.getD .skip) ((.d (encOpn o)) :: uZ ((.tup []) :: (.tup []) :: (.tup []) :: (.tup []) :: (.tup []) :: (.tup []) :: [])) [] [] _
 unfold uZ
 conv => arg 2; whnf
 by_cases c1 : o.does < 1
 ·have e : mayN o = false := decide_eq_false (fun h => by omega)
  simp (maxSteps:=1000000) (disch:=first|assumption|omega|rfl) only [↓gp, gc, Nat.reduceAdd, lenB]
  rw [e]
  exact zV rfl rfl rfl
 ·by_cases c2 : o.does > 13
  ·have e : mayN o = false := decide_eq_false (fun h => by omega)
   simp (maxSteps:=1000000) (disch:=first|assumption|omega|rfl) only [↓gp, gc, Nat.reduceAdd, lenB]
   rw [e]
   exact zV rfl rfl rfl
  ·by_cases c3 : (o.data.length : Int) > 1024
   ·have e : mayN o = false := decide_eq_false (fun h => by omega)
    simp (maxSteps:=1000000) (disch:=first|assumption|omega|rfl) only [↓gp, gc, Nat.reduceAdd, lenB]
    rw [e]
    exact zV rfl rfl rfl
   ·have e : mayN o = true := decide_eq_true ⟨by omega, by omega, by omega⟩
    simp (maxSteps:=1000000) (disch:=first|assumption|omega|rfl) only [↓gp, gc, Nat.reduceAdd, lenB]
    rw [e]
    exact zV rfl rfl rfl
theorem zhl {ops : Array Oper} {dst : Option Tmp} {k : List Oper} {T : List V} {S : zA} {F : Dfs} {Q : Post} {o : Opn} :
  WpR cfgS ops dst k T S F Q (some (.enter 39 [.d (encOpn o)])) = WpL cfgS ops k (putT T dst (.d (.int .i64 (if mayN o then 0 else 1)))) S F Q :=
 zX (ds := [encOpn o]) rfl (lift rfl (zig o))
theorem zjh {ops : Array Oper} {dst : Option Tmp} {k : List Oper} {T : List V} {S : zA} {F : Dfs} {Q : Post} {o : Opn} (hm : mayN o = true) :
  WpR cfgS ops dst k T S F Q (some (.enter 39 [.d (encOpn o)])) = WpL cfgS ops k (putT T dst (.d (.int .i64 0))) S F Q := by rw [zhl, hm]; rfl
theorem zjt {ops : Array Oper} {dst : Option Tmp} {k : List Oper} {T : List V} {S : zA} {F : Dfs} {Q : Post} {o : Opn} (hm : mayN o = false) :
  WpR cfgS ops dst k T S F Q (some (.enter 39 [.d (encOpn o)])) = WpL cfgS ops k (putT T dst (.d (.int .i64 1))) S F Q := by rw [zhl, hm]; rfl
theorem zrp : qI Try.prog 44 (ansV okN (.ts []) (.ts [])) = true := by kernel_rfl
theorem zmc {b : List UInt8} {off n : Int} : (z7u b off n).length ≤ b.length := by
 unfold z7u
 split
 ·exact Nat.zero_le _
 ·rw [List.length_drop, List.length_take]; omega
structure AnsP (t : List Node) (q : List Node × Ans) : Prop where
 data : q.2.data.length ≤ 34304
 fail : q.2.err ≠ 0 → q = (t, qU q.2.err)
theorem AnsP.no {t : List Node} {e : Int} : AnsP t (t, qU e) := ⟨Nat.zero_le _, fun _ => rfl⟩
theorem AnsP.ok {t u : List Node} : AnsP t (u, okN) := ⟨Nat.zero_le _, fun h => absurd rfl h⟩
theorem zkp {t : List Node} {o : Opn} : AnsP t (z0h t o) := by
 unfold z0h
 repeat' split
 all_goals first | exact AnsP.no | exact ⟨Nat.zero_le _, fun h => absurd rfl h⟩
theorem zjl {t : List Node} {o : Opn} : AnsP t (vR t o) := by
 unfold vR
 repeat' split
 all_goals first | exact AnsP.no | exact AnsP.ok
theorem zf3 {t : List Node} {o : Opn} : AnsP t (kU t o) := by
 unfold kU
 repeat' split
 all_goals first | exact AnsP.no | exact AnsP.ok
theorem zgf {t : List Node} {o : Opn} : AnsP t (kT t o) := by
 unfold kT z39
 repeat' split
 all_goals first | exact AnsP.no | exact AnsP.ok
theorem zi1 {k : Nat} {t : List Node} {o : Opn} (hS : Small k t) : AnsP t (wC t o) := by
 have hf := fun x => (z5p (x := x) hS).2
 unfold wC z47
 repeat' split
 all_goals first | exact AnsP.no | exact AnsP.ok | exact ⟨Nat.le_trans zmc (hf _), fun h => absurd rfl h⟩
theorem zlq {t : List Node} {o : Opn} : AnsP t (t, z14 t o) := by
 unfold z14 zgb
 repeat' split
 all_goals first | exact AnsP.no | exact AnsP.ok | exact ⟨Nat.zero_le _, fun h => absurd rfl h⟩
theorem ansP {k : Nat} {t : List Node} {o : Opn} (hS : Small k t) : AnsP t (qR t o) := by
 unfold qR
 split
 ·exact AnsP.no
 split
 ·exact zkp
 split
 ·exact zjl
 split
 ·exact zf3
 split
 ·exact zgf
 split
 ·exact zi1 hS
 split
 ·exact zlq
 ·exact AnsP.ok
theorem z94 : zeroV Try.prog 94 = some (.d .nilp) := by kernel_rfl
theorem zf94 : qI Try.prog 94 (.d .nilp) = true := by kernel_rfl
theorem sr94 {a : Nat} : qW Try.prog 94 0 (.ref a 0 0) (.d .nilp) = some (.ref a 0 0) := by kernel_rfl
theorem bd44 {e : Int} : vP Try.prog 44 [(0, .d (.int .i64 e))] = some (ansV (qU e) (.ts []) (.ts [])) := by kernel_rfl
theorem sa44 {x y : Ans} {v5 v6 w5 w6 : V} : qW Try.prog 44 0 (ansV x v5 v6) (ansV y w5 w6) = some (ansV x v5 v6) := by kernel_rfl
theorem la44 {x : Ans} {v5 v6 : V} : kA Try.prog 44 0 (some (ansV x v5 v6)) = some (ansV x v5 v6) := by kernel_rfl
theorem al5 {x : Ans} {v5 v6 : V} : kA Try.prog 29 5 (some (ansV x v5 v6)) = some v5 := by kernel_rfl
theorem zbt {S : zA} {x : Ans} {v5 v6 : V} (h5 : frz S 11 v5 = some (encB x.data)) (h6 : frz S 11 v6 = some (.sl (x.names.map .str))) : frz S zO (ansV x v5 v6) = some (zT x) := by
 show (match allO (frz S 11) [.d (.int .i64 x.err), .d (.int .i64 x.ino), .d (.int .i64 x.kind), .d (.int .i64 x.links), .d (.int .i64 x.size), v5, v6] with | some ds => if ds.any D.isAgg then none else some (D.agg ds) | none => none) = _
 have h2 : ∀ x : D, frz S 11 (.d x) = some x := fun _ => rfl
 simp only [allO, h5, h6, h2]
 rfl
theorem zl4 {S : zA} {v : V} {l : List UInt8} (h : srcV Try.prog S 5 29 v = some (l.map fun b => .d (encU b))) (hl : l.length < 900000) : ∃ v' S' c, qF Try.prog S 29 29 (.ts []) v = some (v', S', c) ∧ OwnS S' v' 5 (l.map fun b => .d (encU b)) ∧ Keep S S' := by
 cases l with
 | nil =>
  refine ⟨.ts [], S, 1, ?_, .inl ⟨rfl, rfl⟩, Keep.refl⟩
  simp only [List.map_nil] at h
  simp only [qF, Try.underlying29, h]
 | cons b r =>
  simp only [List.map_cons] at h
  have hr := zlc (n := 0 + (r.length + 1)) (by simp at hl; omega)
  refine ⟨.rs S.length 0 (r.length + 1), S ++ [.row ((b :: r).map fun b => .d (encU b)) 5], 2, ?_, .inr ⟨S.length, by simp, by simp⟩, Keep.app⟩
  simp only [qF, Try.underlying29, h, zok5, if_true, List.all_nil, List.length_nil, List.length_map, hr, Bool.and_self, List.map_nil, List.nil_append, List.map_cons, Nat.zero_add]
  rw [if_pos]
  rw [Nat.zero_add] at hr
  simp [hr]
theorem zmv {S : zA} {x : Ans} {v5 v6 : V} {l5 : List V} {l6 : List (List UInt8)} (h5 : OwnS S v5 5 l5) (h6 : SlE encS S v6 9 l6) : z3h (ansV x v5 v6) (ansV x v5 v6) = true := by
 have e5 : wL v5 v5 = true := by rcases h5 with ⟨rfl, _⟩ | ⟨id, rfl, _⟩ <;> simp [wL, wN, z0d]
 have e6 : wL v6 v6 = true := by rcases h6 with ⟨rfl, _⟩ | ⟨id, ys, rfl, _⟩ <;> simp [wL, wN, z0d]
 have ei : ∀ k : Int, wL (.d (.int .i64 k)) (.d (.int .i64 k)) = true := fun k => by simp [wL, wN, z4n, kO]
 show z0v _ _ = true
 simp only [z0v, ei, e5, e6, Bool.and_self]
theorem zh1 {S : zA} {v : V} {l : List UInt8} (h : OwnS S v 5 (l.map fun b => .d (encU b))) : frz S 11 v = some (encB l) := (SlE.of h).frz
theorem z13 {S : zA} {v : V} {e e' : TypeId} {xs ys : List V} {i : Nat} (h : OwnS S v e xs) (hi : S[i]? = some (.row ys e')) (hne : e ≠ e') : NotAt v i := by
 intro off l hv
 rcases h with ⟨rfl, _⟩ | ⟨id, rfl, h1⟩
 ·cases hv
 ·cases hv
  rw [hi] at h1
  simp only [Option.some.injEq, Ob.row.injEq] at h1
  exact hne h1.2.symm
theorem zjx {S : zA} {a m : Nat} {A B : Int → V} {t : List Node} {v : V} {us : List V} (hT : Tree S a m A B t) (hs : Srt t) (hO : OwnS S v 32 us) (hU : Us A B t us) : frz S zO v = some (.sl (t.map zB)) :=
 zn5 hO (Us.frz (fun _ => trivial) (fun n hn => by have := hT.st.nodeF (x := n.ino) trivial (n := 8); rw [z4c hs.uniq hn] at this; exact this) hU)
theorem q1y (t : List Node) (k0 : Nat) (hk0 : k0 < 190000) (hG : Good k0 t) (o : Opn) (hl : o.a.length < 900000) (hlb : o.b.length < 900000) (hn0 : ∀ n ∈ t, 0 ≤ n.ino ∧ n.ino ≤ 128) (hn1 : ∀ n ∈ (qR t o).1, 0 ≤ n.ino ∧ n.ino ≤ 128) :
  Ev cfgS 19 [.sl (t.map zB), encOpn o] (.ret (.tup [.d (.sl ((qR t o).1.map zB)), .d (zT (qR t o).2)])) := by
 have hk1 : k0 < 300000 := by omega
 have hlt : t.length < 400000 := Nat.lt_of_le_of_lt hG.sm.len (by omega)
 refine kQ rfl rfl zwt ?_
 show Wp cfgS (Try.f19.body.getD .skip) ((.d (.sl (t.map zB))) :: (.d (encOpn o)) :: uZ (uZ (uZ ((.tup []) :: (.tup []) :: (.tup []) :: (.tup []) :: (.tup []) :: (.tup []) :: [])))) [] [] _
 unfold uZ
 conv => arg 2; whnf
 rw [qK]
 cases hm : mayN o with
 | false =>
  have hq : qR t o = (t, qU 1) := by unfold qR; rw [if_pos hm]
  rw [hq]
  simp (maxSteps:=1000000) (disch:=first|assumption|omega|rfl) only [↓gp, gc, Nat.reduceAdd, hPS, z44, zf44, zans, zrp, zR, zjt hm, bo39]
  refine jK rfl (ztj _ t k0 hk1 hG.sm hG.lj.srt) ?_ ?_
  ·rintro v S1 ⟨a, m, A, B, hv, hK1, hT1, _⟩
   cases hv
   simp (maxSteps:=1000000) (disch:=first|assumption|omega|rfl) only [↓gp, gc, Nat.reduceAdd, hPS]
   refine jK rfl (zrt S1 a m A B t hT1 hG.lj.srt hn0 hlt) ?_ ?_
   ·rintro v S2 ⟨v', us, hv, hK2, hO, hU⟩
    cases hv
    have h1 : S2[1]? = some (.row [ansV okN (.ts []) (.ts [])] 44) := hK2 _ _ (hK1 1 _ rfl)
    have hr1 := zE h1
    have hpr1 := fun y => qD (y := y) h1
    have hT3 := (hT1.keep hK2).other (o := .row [ansV (qU 1) (.ts []) (.ts [])] 44) h1 (by decide) (by decide) (by decide)
    have hO3 : OwnS (S2.set 1 (.row [ansV (qU 1) (.ts []) (.ts [])] 44)) v 32 us := vC hO (z13 hO h1 (by decide))
    simp (maxSteps:=1000000) (disch:=first|assumption|omega|rfl) only [↓gp, gc, Nat.reduceAdd, hPS, bd44, sa44, hr1, hpr1]
    exact qJ rfl rfl ((jS (zE (jR h1))).trans la44) (z19 hO) rfl (zjx hT3 hG.lj.srt hO3 hU) (zbt rfl rfl)
   ·rintro v S2 ⟨v', us, hv, _⟩
    cases hv
  ·rintro v S1 ⟨a, m, A, B, hv, _⟩
   cases hv
 | true =>
  simp (maxSteps:=1000000) (disch:=first|assumption|omega|rfl) only [↓gp, gc, Nat.reduceAdd, hPS, z44, zf44, zans, zrp, zR, zjh hm, bo39]
  refine jK rfl (ztj _ t k0 hk1 hG.sm hG.lj.srt) ?_ ?_
  ·rintro v S1 ⟨a, m, A, B, hv, hK1, hT1, _⟩
   cases hv
   have h01 : S1[0]? = some (.row [.d (encOpn o)] 48) := hK1 0 _ rfl
   have h11 : S1[1]? = some (.row [ansV okN (.ts []) (.ts [])] 44) := hK1 1 _ rfl
   have hl1 := qN h11
   simp (maxSteps:=1000000) (disch:=first|assumption|omega|rfl) only [↓gp, gc, Nat.reduceAdd, hPS, z44, zf44, zans, zrp, z94, zf94, sr94, zR, zN, ↓z9d, zu4, bo42]
   have h72 : (S1 ++ [Ob.row [.ref a 0 0] 94] ++ [Ob.row [ansV okN (.ts []) (.ts [])] 44])[S1.length]? = some (.row [.ref a 0 0] 94) := qO qY
   have hr2 : (S1 ++ [Ob.row [.ref a 0 0] 94] ++ [Ob.row [ansV okN (.ts []) (.ts [])] 44])[(S1 ++ [Ob.row [.ref a 0 0] 94]).length]? = some (.row [ansV okN (.ts []) (.ts [])] 44) := qY
   have hK2 : Keep S1 (S1 ++ [Ob.row [.ref a 0 0] 94] ++ [Ob.row [ansV okN (.ts []) (.ts [])] 44]) := Keep.app.trans Keep.app
   have hrl : (S1 ++ [Ob.row [.ref a 0 0] 94]).length = S1.length + 1 := by simp
   generalize (S1 ++ [Ob.row [.ref a 0 0] 94]).length = r at *
   generalize S1 ++ [Ob.row [.ref a 0 0] 94] ++ [Ob.row [ansV okN (.ts []) (.ts [])] 44] = S2 at *
   have hT2 := hT1.keep hK2
   have hst := zuq S2 a m r S1.length 0 A B t hT2 k0 hk0 hG o hm hl hlb hr2 h72 (hK2 _ _ h01)
   have hne : r ≠ 1 := by omega
   have h12 := hK2 _ _ h11
   by_cases he : (qR t o).2.err = 0
   ·refine jK (R := fun o' S3 => o' = .ret (.d (.int .i64 0)) ∧ (∃ A' B' v5 v6, Tree S3 a m A' B' (qR t o).1 ∧ S3[r]? = some (.row [ansV (qR t o).2 v5 v6] 44) ∧ srcV Try.prog S3 5 29 v5 = some ((qR t o).2.data.map fun b => .d (encU b)) ∧ SlE encS S3 v6 9 (qR t o).2.names) ∧ KeepR r S2 S3) rfl (zd4 (f := 42) (g := 43) (first := []) (caps := [.ref S1.length 0 0, .ref 0 0 0, .ref r 0 0]) (pst := z2f) rfl hst ?_) ?_ ?_
    ·intro o' S3 hR
     unfold Res at hR
     rw [if_pos he] at hR
     obtain ⟨⟨w, rfl⟩, h1, h2⟩ := hR
     exact ⟨_, rfl, rfl, h1, h2⟩
    ·rintro v S3 ⟨hv, ⟨A3, B3, v5, v6, hT3, hr3, h53, h63⟩, hk3⟩
     cases hv
     have h73 := hk3 _ _ _ (.inl rfl) (by omega) h72
     have h13 := hk3 _ _ _ (.inr rfl) (Ne.symm hne) h12
     have hrr3 := zE hr3
     have hsr1 : Srt (qR t o).1 := (hG.lj.step hG.ti).srt
     have hS1 : Small (k0 + 5) (qR t o).1 := hG.sm.step
     have hlt1 : (qR t o).1.length < 400000 := Nat.lt_of_le_of_lt hS1.len (by omega)
     obtain ⟨v5', S4, c4, ha4, hO4, hK4⟩ := zl4 h53 (by have := (ansP (o := o) hG.sm).data; omega)
     have hr4 := hK4 _ _ hr3
     have hrr4 := zE hr4
     have hpr4 := fun y => qD (y := y) hr4
     have hsa4 := av5 (x := (qR t o).2) (v5 := v5) (v6 := v6) (z1z hO4 (by kernel_rfl) (by kernel_rfl)) (z0z hO4)
     have h55 : OwnS (S4.set r (.row [ansV (qR t o).2 v5' v6] 44)) v5' 5 ((qR t o).2.data.map fun b => .d (encU b)) := vC hO4 (z13 hO4 hr4 (by decide))
     have h65 : SlE encS (S4.set r (.row [ansV (qR t o).2 v5' v6] 44)) v6 9 (qR t o).2.names := by
      refine (h63.keep hK4).frame2 fun j q hj hh => ?_
      rw [List.getElem?_set_ne]
      ·exact hj
      ·rintro rfl
       obtain ⟨ys, h9⟩ := (h63.keep hK4).row hh
       rw [hr4] at h9
       simp only [Option.some.injEq, Ob.row.injEq] at h9
       exact absurd h9.2 (by decide)
     have hT5 := (hT3.keep hK4).other (o := .row [ansV (qR t o).2 v5' v6] 44) hr4 (by decide) (by decide) (by decide)
     have h75 : (S4.set r (.row [ansV (qR t o).2 v5' v6] 44))[S1.length]? = some (.row [.ref a 0 0] 94) := by rw [List.getElem?_set_ne (by omega)]; exact hK4 _ _ h73
     have h15 : (S4.set r (.row [ansV (qR t o).2 v5' v6] 44))[1]? = some (.row [ansV okN (.ts []) (.ts [])] 44) := by rw [List.getElem?_set_ne hne]; exact hK4 _ _ h13
     have hr5 : (S4.set r (.row [ansV (qR t o).2 v5' v6] 44))[r]? = some (.row [ansV (qR t o).2 v5' v6] 44) := jR hr4
     simp (maxSteps:=1000000) (disch:=first|assumption|omega|rfl) only [↓gp, gc, Nat.reduceAdd, ↓vbs, hPS, zcp, hrr3, al5, ha4, hrr4, hsa4, hpr4]
     generalize S4.set r (.row [ansV (qR t o).2 v5' v6] 44) = S5 at *
     have hr75 := zE h75
     have hrr5 := zE hr5
     refine vG (is := [0, 2, 1, 3, 4]) (h := 0) (by kernel_rfl) (by kernel_rfl) ?_
     simp (maxSteps:=1000000) (disch:=first|assumption|omega|rfl) only [List.replicate_zero, eq_self, gw, ga, Nat.reduceAdd, ↓gq, hPS, List.append_nil, hr75, hrr5, lr94, la44]
     refine z83 rfl (zrt S5 a m _ _ _ hT5 hsr1 hn1 hlt1) ?_ ?_
     ·rintro v S6 ⟨v', us, hv, hK6, hO6, hU6⟩
      cases hv
      have h16 := hK6 _ _ h15
      have hr16 := zE h16
      have hpr6 := fun y => qD (y := y) h16
      have hld : jV Try.prog S6 44 (.ref r 0 0) = some (ansV (qR t o).2 v5' v6) := (jS (zE (hK6 _ _ hr5))).trans la44
      refine ⟨jT rfl (by kernel_rfl) rfl (ld1 hld) (zmv h55 h65) (zG (by kernel_rfl) qV), ?_⟩
      simp (maxSteps:=1000000) (disch:=first|assumption|omega|rfl) only [List.replicate_zero, eq_self, gw, ga, Nat.reduceAdd, ↓gq, hPS, List.append_nil, hr16, sa44, hpr6]
      refine ⟨zG (by kernel_rfl) (zG (by kernel_rfl) qV), by kernel_rfl, ?_⟩
      simp (maxSteps:=1000000) (disch:=first|assumption|omega|rfl) only [↓gp, gc, Nat.reduceAdd, hPS]
      have hT7 := (hT5.keep hK6).other (o := .row [ansV (qR t o).2 v5' v6] 44) h16 (by decide) (by decide) (by decide)
      have hO7 : OwnS (S6.set 1 (.row [ansV (qR t o).2 v5' v6] 44)) v 32 us := vC hO6 (z13 hO6 h16 (by decide))
      have h57 : OwnS (S6.set 1 (.row [ansV (qR t o).2 v5' v6] 44)) v5' 5 ((qR t o).2.data.map fun b => .d (encU b)) := vC (z0f h55 fun j o hj => hK6 j o hj) (z13 (z0f h55 fun j o hj => hK6 j o hj) h16 (by decide))
      have h67 : SlE encS (S6.set 1 (.row [ansV (qR t o).2 v5' v6] 44)) v6 9 (qR t o).2.names := by
       refine (h65.keep hK6).frame2 fun j q hj hh => ?_
       rw [List.getElem?_set_ne]
       ·exact hj
       ·rintro rfl
        obtain ⟨ys, h9⟩ := (h65.keep hK6).row hh
        rw [h16] at h9
        simp only [Option.some.injEq, Ob.row.injEq] at h9
        exact absurd h9.2 (by decide)
      exact qJ rfl rfl ((jS (zE (jR h16))).trans la44) (z19 hO7) rfl (zjx hT7 hsr1 hO7 hU6) (zbt (zh1 h57) h67.frz)
     ·rintro v S6 ⟨v', us, hv, _⟩
      cases hv
    ·rintro v S3 ⟨hv, _⟩
     cases hv
   ·have hq := (ansP (o := o) hG.sm).fail he
    have hx : ∀ x : Int, x = (qR t o).2.err → (qR t o) = (t, qU x) := fun x hx => by rw [hx]; exact hq
    refine jK (R := fun o' S3 => o' = .ret (.d (.int .i64 (qR t o).2.err)) ∧ Keep S2 S3) rfl (zd4 (f := 42) (g := 43) (first := []) (caps := [.ref S1.length 0 0, .ref 0 0 0, .ref r 0 0]) (pst := z2f) rfl hst ?_) ?_ ?_
    ·intro o' S3 hR
     unfold Res at hR
     rw [if_neg he] at hR
     obtain ⟨rfl, h2⟩ := hR
     exact ⟨_, rfl, rfl, h2⟩
    ·rintro v S3 ⟨hv, hk3⟩
     cases hv
     generalize hee : (qR t o).2.err = e at *
     rw [hx e rfl]
     simp (maxSteps:=1000000) (disch:=first|assumption|omega|rfl) only [↓gp, gc, Nat.reduceAdd, hPS]
     refine jK rfl (ztj _ t k0 hk1 hG.sm hG.lj.srt) ?_ ?_
     ·rintro v S4 ⟨a4, m4, A4, B4, hv, hK4, hT4, _⟩
      cases hv
      simp (maxSteps:=1000000) (disch:=first|assumption|omega|rfl) only [↓gp, gc, Nat.reduceAdd, hPS]
      refine jK rfl (zrt S4 a4 m4 A4 B4 t hT4 hG.lj.srt hn0 hlt) ?_ ?_
      ·rintro v S5 ⟨v', us, hv, hK5, hO, hU⟩
       cases hv
       have h1 : S5[1]? = some (.row [ansV okN (.ts []) (.ts [])] 44) := hK5 _ _ (hK4 _ _ (hk3 _ _ h12))
       have hr1 := zE h1
       have hpr1 := fun y => qD (y := y) h1
       have hT6 := (hT4.keep hK5).other (o := .row [ansV (qU e) (.ts []) (.ts [])] 44) h1 (by decide) (by decide) (by decide)
       have hO6 : OwnS (S5.set 1 (.row [ansV (qU e) (.ts []) (.ts [])] 44)) v 32 us := vC hO (z13 hO h1 (by decide))
       simp (maxSteps:=1000000) (disch:=first|assumption|omega|rfl) only [↓gp, gc, Nat.reduceAdd, hPS, bd44, sa44, hr1, hpr1]
       exact qJ rfl rfl ((jS (zE (jR h1))).trans la44) (z19 hO) rfl (zjx hT6 hG.lj.srt hO6 hU) (zbt rfl rfl)
      ·rintro v S5 ⟨v', us, hv, _⟩
       cases hv
     ·rintro v S4 ⟨a4, m4, A4, B4, hv, _⟩
      cases hv
    ·rintro v S3 ⟨hv, _⟩
     cases hv
  ·rintro v S1 ⟨a, m, A, B, hv, _⟩
   cases hv
theorem ziz {l : List Opn} {m : Int} (hm : m ≤ 1000) (h : zfr l m = false) : Script l := by
 unfold zfr at h
 rw [Bool.or_eq_false_iff] at h
 obtain ⟨h1, h2⟩ := h
 have h1 := of_decide_eq_false h1
 have h3 : ∀ o ∈ l, ¬ ((o.a.length : Int) > 300 ∨ (o.b.length : Int) > 300 ∨ (o.data.length : Int) > 1100) := fun o ho hbad => (List.any_eq_false.1 h2 o ho) (decide_eq_true hbad)
 exact ⟨by omega, fun o ho => by have := h3 o ho; omega, fun o ho => by have := h3 o ho; omega, fun o ho => by have := h3 o ho; omega⟩
theorem bo16 : (zC Try.prog 16).isSome = true := by kernel_rfl
theorem q0v : zC Try.prog 4 = some ⟨Try.f4.body.getD .skip, 83, #[.tmp 2]⟩ := by
 unfold zC
 rw [Try.func4]
 rfl
theorem zvq : zC Try.prog 17 = some ⟨Try.f17.body.getD .skip, 3, #[.tmp 0]⟩ := by
 unfold zC
 rw [Try.func17]
 rfl
theorem zzh : zC Try.prog 25 = some ⟨Try.f25.body.getD .skip, 34, #[.tmp 4, .tmp 5]⟩ := by
 unfold zC
 rw [Try.func25]
 rfl
theorem q1v {S : zA} : bs1 Try.prog S 25 (.agg [.d (.int .i64 1), .d (.int .i64 2), .d (.int .i64 1), .d (.int .i64 1), .d (.int .i64 0), .ts [], .ts []]) = some (.val (.ts (newN.map zB)) S 0) := by kernel_rfl
theorem q1o : vP Try.prog 32 [(0, .d (.int .i64 1)), (1, .d (.int .i64 2)), (2, .d (.int .i64 1)), (3, .d (.int .i64 1))] = some (.agg [.d (.int .i64 1), .d (.int .i64 2), .d (.int .i64 1), .d (.int .i64 1), .d (.int .i64 0), .ts [], .ts []]) := by kernel_rfl
theorem ztg : Ev cfg 17 [] (.ret (.d (.sl (newN.map zB)))) := by
 refine kQ rfl rfl zvq ?_
 show Wp cfg (Try.f17.body.getD .skip) ((.tup []) :: (.tup []) :: (.tup []) :: []) [] [] _
 conv => arg 2; whnf
 simp (maxSteps:=1000000) (disch:=first|assumption|omega|rfl) only [↓gp, gc, Nat.reduceAdd, ↓vbs, q1o, q1v]
 exact zV rfl rfl rfl
theorem bd48 {S : zA} {a d e : Int} {b c : List UInt8} {v : V} {xs : List V} (h : OwnS S v 5 xs) : vP Try.prog 48 [(0, .d (.int .i64 a)), (1, .d (.str b)), (2, .d (.str c)), (3, .d (.int .i64 d)), (4, .d (.int .i64 e)), (5, v)] = some (.agg [.d (.int .i64 a), .d (.str b), .d (.str c), .d (.int .i64 d), .d (.int .i64 e), v]) := by
 rcases h with ⟨rfl, _⟩ | ⟨id, rfl, _⟩ <;> kernel_rfl
theorem sv48 {x0 x1 x2 x3 x4 x5 y0 y1 y2 y3 y4 y5 : V} : qW Try.prog 48 0 (.agg [x0, x1, x2, x3, x4, x5]) (.agg [y0, y1, y2, y3, y4, y5]) = some (.agg [x0, x1, x2, x3, x4, x5]) := by kernel_rfl
theorem lv48 {x0 x1 x2 x3 x4 x5 : V} : kA Try.prog 48 0 (some (.agg [x0, x1, x2, x3, x4, x5])) = some (.agg [x0, x1, x2, x3, x4, x5]) := by kernel_rfl
theorem zd2 {x : List UInt8} : z3h (.d (.str x)) (.d (.str x)) = true := by simp [z3h, wL, wN, z4n, kO]
theorem zsl (o : Opn) (hl : o.data.length < 900000) : Ev cfg 20 [encOpn o] (.ret (.d (encOpn o))) := by
 refine kQ rfl rfl zz7 ?_
 show Wp cfg (Try.f20.body.getD .skip) ((.d (encOpn o)) :: uZ ((.tup []) :: (.tup []) :: (.tup []) :: (.tup []) :: (.tup []) :: (.tup []) :: (.tup []) :: [])) [] [] _
 unfold uZ
 conv => arg 2; whnf
 simp (maxSteps:=1000000) (disch:=first|assumption|omega|rfl) only [↓gp, gc, Nat.reduceAdd, z48, zf48]
 obtain ⟨v5, S1, c, ha, hO, hK⟩ := zl4 (S := [.row [.d (encOpn o)] 50, .row [.agg [.d (.int .i64 0), .d (.str []), .d (.str []), .d (.int .i64 0), .d (.int .i64 0), .ts []]] 48]) (v := .d (encB o.data)) (l := o.data) zrw hl
 have h0 := hK 0 _ rfl
 have h1 := hK 1 _ rfl
 have hr0 := zE h0
 have hr1 := zE h1
 have hp1 := fun y => qD (y := y) h1
 have hl0 : ∀ (t : TypeId) (f : Nat) (y : V), kA Try.prog t f (some (.d (encOpn o))) = some y → (jV Try.prog S1 t (.ref 0 0 f)).map (fun v => Rs.val v S1 1) = some (.val y S1 1) := fun t f y h => ld1 ((jS hr0).trans h)
 have hc : c = 1 ∧ S1 = [.row [.d (encOpn o)] 50, .row [.agg [.d (.int .i64 0), .d (.str []), .d (.str []), .d (.int .i64 0), .d (.int .i64 0), .ts []]] 48] ∨ c = 2 := by
  cases hd : o.data with
  | nil =>
   rw [hd] at ha
   left
   have e : qF Try.prog [.row [.d (encOpn o)] 50, .row [.agg [.d (.int .i64 0), .d (.str []), .d (.str []), .d (.int .i64 0), .d (.int .i64 0), .ts []]] 48] 29 29 (.ts []) (.d (encB [])) = some (.ts [], [.row [.d (encOpn o)] 50, .row [.agg [.d (.int .i64 0), .d (.str []), .d (.str []), .d (.int .i64 0), .d (.int .i64 0), .ts []]] 48], 1) := by kernel_rfl
   rw [e] at ha
   cases ha
   exact ⟨rfl, rfl⟩
  | cons b r =>
   right
   rw [hd] at ha
   have hs := zrw (S := [.row [.d (encOpn o)] 50, .row [.agg [.d (.int .i64 0), .d (.str []), .d (.str []), .d (.int .i64 0), .d (.int .i64 0), .ts []]] 48]) (l := b :: r)
   rw [List.map_cons] at hs
   simp only [qF, Try.underlying29, hs, zok5, if_true] at ha
   split at ha
   ·simp only [Option.some.injEq, Prod.mk.injEq] at ha
    exact ha.2.2.symm
   ·cases ha
 have fin : ∀ T : List V, T.getD 2 (.tup []) = .ref 1 0 0 → RetQ cfg.P #[.cell 2 48] (.ret (.d (encOpn o))) .ret T (S1.set 1 (.row [.agg [.d (.int .i64 o.does), .d (.str o.a), .d (.str o.b), .d (.int .i64 o.off), .d (.int .i64 o.n), v5]] 48)) [] := fun T hT => by
  have h5 : frz (S1.set 1 (.row [.agg [.d (.int .i64 o.does), .d (.str o.a), .d (.str o.b), .d (.int .i64 o.off), .d (.int .i64 o.n), v5]] 48)) 11 v5 = some (encB o.data) := zh1 (vC hO (z13 hO h1 (by decide)))
  refine vU hT ((jS (zE (jR h1))).trans lv48) rfl ?_
  show (match allO (frz _ 11) [.d (.int .i64 o.does), .d (.str o.a), .d (.str o.b), .d (.int .i64 o.off), .d (.int .i64 o.n), v5] with | some ds => if ds.any D.isAgg then none else some (D.agg ds) | none => none) = _
  have h2 : ∀ (S : zA) (x : D), frz S 11 (.d x) = some x := fun _ _ => rfl
  simp only [allO, h5, h2]
  rfl
 refine vG (is := [0, 1, 2, 3, 4, 5, 6, 7, 8, 9, 10, 11, 12, 13, 14, 15]) (h := 0) (by kernel_rfl) (by kernel_rfl) ?_
 rcases hc with ⟨rfl, rfl⟩ | rfl
 ·simp (maxSteps:=1000000) (disch:=first|assumption|omega|rfl) only [List.replicate_zero, eq_self, gw, ga, Nat.reduceAdd, ↓gq, List.append_nil, zcp, ha, hr0, hr1, bd48 hO, sv48, hp1]
  refine ⟨zG (by kernel_rfl) (zG (by kernel_rfl) (zG (by kernel_rfl) (zG (by kernel_rfl) (zG (by kernel_rfl) (zG (by kernel_rfl) (zG (by kernel_rfl) qV)))))), by kernel_rfl, ?_⟩
  simp (maxSteps:=1000000) (disch:=first|assumption|omega|rfl) only [↓gp, gc, Nat.reduceAdd]
  exact fin _ rfl
 ·simp (maxSteps:=1000000) (disch:=first|assumption|omega|rfl) only [List.replicate_zero, eq_self, gw, ga, Nat.reduceAdd, ↓gq, List.append_nil, zcp, ha, hr0, hr1, bd48 hO, sv48, hp1]
  refine ⟨zG (by kernel_rfl) (jT rfl (by kernel_rfl) rfl (hl0 3 4 _ zp1) vK (jT rfl (by kernel_rfl) rfl (hl0 3 3 _ zpw) vK (jT rfl (by kernel_rfl) rfl (hl0 9 2 _ zpm) zd2 (jT rfl (by kernel_rfl) rfl (hl0 9 1 _ zpv) zd2 (jT rfl (by kernel_rfl) rfl (hl0 3 0 _ zpy) vK qV))))), ?_⟩
  refine ⟨zG (by kernel_rfl) (zG (by kernel_rfl) (zG (by kernel_rfl) (zG (by kernel_rfl) (zG (by kernel_rfl) (zG (by kernel_rfl) qV))))), by kernel_rfl, ?_⟩
  simp (maxSteps:=1000000) (disch:=first|assumption|omega|rfl) only [↓gp, gc, Nat.reduceAdd]
  exact fin _ rfl
def zns : Nat := 4398012431360
noncomputable def cfgT : Cfg := { P := Try.prog, mixed := by kernel_rfl, shared := fun _ => false, ext := fun f => match Nat.beq f 19 with | true => some (evx cfgS f) | false => match Nat.testBit zns f with | true => some (evx cfg f) | false => Option.none, catch_ := fun _ => Option.none }
theorem hPT : cfgT.P = Try.prog := rfl
theorem z7v {f : FuncId} {ds : List D} {o : Out} (h9 : Nat.beq f 19 = false) (hm : Nat.testBit zns f = true) (h : Ev cfg f ds o) : Ev cfgT f ds o := by
 refine ⟨0, ?_⟩
 have hx : cfgT.ext f = some (evx cfg f) := by
  show (match Nat.beq f 19 with | true => some (evx cfgS f) | false => match Nat.testBit zns f with | true => some (evx cfg f) | false => Option.none) = _
  rw [h9, hm]
 unfold runD answer
 simp only [hx]
 exact zly h
theorem stepT {ds : List D} {o : Out} (h : Ev cfgS 19 ds o) : Ev cfgT 19 ds o := by
 refine ⟨0, ?_⟩
 have hx : cfgT.ext 19 = some (evx cfgS 19) := rfl
 unfold runD answer
 simp only [hx]
 exact zly h
theorem extT : z3z cfgT := by
 intro f g h
 have h : (match Nat.beq f 19 with | true => some (evx cfgS f) | false => match Nat.testBit zns f with | true => some (evx cfg f) | false => Option.none) = some g := h
 split at h
 ·cases h
  intro ds o ho
  obtain ⟨n, hn⟩ := zjj ho
  exact z4y extS zy4 n f ds o hn
 ·split at h
  ·cases h
   intro ds o ho
   obtain ⟨n, hn⟩ := zjj ho
   exact z4y extC zpb n f ds o hn
  ·cases h
theorem catchT : z3x cfgT := fun f post h => by cases h
def Num (t : List Node) : Prop := ∀ n ∈ t, 0 ≤ n.ino ∧ n.ino ≤ 128
theorem Num.get {t : List Node} (h : Num t) (x : Int) : 0 ≤ (getN t x).ino ∧ (getN t x).ino ≤ 128 := by
 rcases jM t x with ⟨h1, _⟩ | ⟨h1, _⟩
 ·rw [h1]; exact ⟨by decide, by decide⟩
 ·exact h _ h1
theorem Num.with {t : List Node} {n : Node} (h : Num t) (hn : 0 ≤ n.ino ∧ n.ino ≤ 128) : Num (qT t n) := fun m hm => by
 rcases wV.1 hm with rfl | ⟨h1, _⟩
 ·exact hn
 ·exact h m h1
theorem Num.drop {t : List Node} {d : Int} {s : List UInt8} (h : Num t) : Num (zU t d s) := h.with (h.get d)
theorem Num.put {t : List Node} {d i : Int} {s : List UInt8} (h : Num t) : Num (putN t d s i) := h.with (h.get d)
theorem Num.loses {t : List Node} {i : Int} (h : Num t) : Num (jN t i) := by
 unfold jN
 split
 ·exact fun n hn => h n (List.mem_filter.1 hn).1
 ·exact h.with (h.get i)
theorem Num.step {t : List Node} {o : Opn} (h : Num t) (hl : t.length ≤ 120) : Num (qR t o).1 := by
 have hnx := (z1h t).2
 have mk : Num (z0h t o).1 := by
  unfold z0h
  split
  ·exact h
  split
  ·exact h
  refine Num.put (h.with ?_)
  unfold qA
  split <;> exact ⟨by show 0 ≤ jA t; omega, by show jA t ≤ 128; omega⟩
 have lk : Num (vR t o).1 := by
  unfold vR
  split
  ·exact h
  split
  ·exact h
  split
  ·exact h
  split
  ·exact h
  exact Num.put (h.with (h.get _))
 have rm : Num (kU t o).1 := by
  unfold kU
  repeat' split
  all_goals first | exact h | exact h.drop.loses
 have rn : Num (kT t o).1 := by
  unfold kT
  split
  ·exact h
  split
  ·exact h
  split
  ·exact h
  unfold z39
  split
  ·exact h
  split
  ·exact h
  split
  ·exact h
  split
  ·exact h
  unfold renamed
  have h1 : Num (if 0 ≤ qQ (getN t (zK t o.b).1).names (zK t o.b).2.1 then jN (zU t (zK t o.b).1 (zK t o.b).2.1) (qQ (getN t (zK t o.b).1).names (zK t o.b).2.1) else t) := by
   split
   ·exact h.drop.loses
   ·exact h
  have h2 := (h1.drop (d := (zK t o.a).1) (s := (zK t o.a).2.1)).put (d := (zK t o.b).1) (s := (zK t o.b).2.1) (i := qQ (getN t (zK t o.a).1).names (zK t o.a).2.1)
  simp only
  split
  ·exact h2.with (h2.get _)
  ·exact h2
 have bt : Num (wC t o).1 := by
  unfold wC
  split
  ·exact h
  unfold z47
  have hg := h.get (zH t o.a).1
  repeat' split
  all_goals first | exact h | exact h.with hg
 unfold qR
 split
 ·exact h
 split
 ·exact mk
 split
 ·exact lk
 split
 ·exact rm
 split
 ·exact rn
 split
 ·exact bt
 split
 ·exact h
 ·exact h
theorem Num.new : Num newN := fun n hn => by
 simp only [newN, List.mem_singleton] at hn
 subst hn
 exact ⟨by decide, by decide⟩
structure At (k : Nat) (t : List Node) : Prop where
 g : Good (1 + 5 * k) t
 num : Num t
theorem At.new : At 0 newN := ⟨⟨Small.new, LJ.new, TInv.new⟩, Num.new⟩
theorem At.step {k : Nat} {t : List Node} {o : Opn} (h : At k t) (hk : k ≤ 23) : At (k + 1) (qR t o).1 := by
 refine ⟨⟨?_, h.g.lj.step h.g.ti, h.g.ti.step⟩, h.num.step (Nat.le_trans h.g.sm.len (by omega))⟩
 have := h.g.sm.step (o := o)
 rw [show 1 + 5 * (k + 1) = 1 + 5 * k + 5 by omega]
 exact this
theorem At.play {l : List Opn} (hl : l.length ≤ 24) : At l.length (zjp l) := by
 have : ∀ (l : List Opn) (k : Nat) (t : List Node), k + l.length ≤ 24 → At k t → At (k + l.length) (l.foldl (fun t o => (qR t o).1) t) := fun l => by
  induction l with
  | nil => exact fun k t _ h => h
  | cons o r ih =>
   intro k t hk h
   rw [List.length_cons] at hk ⊢
   have := ih (k + 1) _ (by omega) (h.step (o := o) (by omega))
   rw [show k + (r.length + 1) = k + 1 + r.length by omega]
   exact this
 have h := this l 0 newN (by omega) At.new
 rw [Nat.zero_add] at h
 exact h
section
variable {ops : Array Oper} {dst : Option Tmp} {k : List Oper} {T : List V} {S : zA} {F : Dfs} {Q : Post}
theorem zm5 {n : Nat} {t : List Node} {o : Opn} (h : At n t) (hn : n ≤ 23) (hl : o.a.length < 900000) (hlb : o.b.length < 900000) :
  WpR cfgT ops dst k T S F Q (some (.enter 19 [.d (.sl (t.map zB)), .d (encOpn o)])) = WpL cfgT ops k (putT T dst (.tup [.d (.sl ((qR t o).1.map zB)), .d (zT (qR t o).2)])) S F Q :=
 zX (ds := [.sl (t.map zB), encOpn o]) rfl (stepT (q1y t _ (by omega) h.g o hl hlb h.num (h.step hn).num))
theorem zk7 {l : List Opn} {m : Int} (hm : m ≤ 1000) : WpR cfgT ops dst k T S F Q (some (.enter 10 [.d (.sl (l.map encOpn)), .d (.int .i64 m)])) = WpL cfgT ops k (putT T dst (.d (.bool (zfr l m)))) S F Q :=
 zX (ds := [.sl (l.map encOpn), .int .i64 m]) rfl (z7v rfl rfl (zsd l m hm))
theorem zc5 : WpR cfgT ops dst k T S F Q (some (.enter 16 [])) = WpL cfgT ops k (putT T dst (.d (.bool true))) S F Q :=
 zX (ds := []) rfl (z7v rfl rfl ziv)
theorem zqw {o : Opn} (hl : o.data.length < 900000) : WpR cfgT ops dst k T S F Q (some (.enter 20 [.d (encOpn o)])) = WpL cfgT ops k (putT T dst (.d (encOpn o))) S F Q :=
 zX (ds := [encOpn o]) rfl (z7v rfl rfl (zsl o hl))
theorem zls : WpR cfgT ops dst k T S F Q (some (.enter 17 [])) = WpL cfgT ops k (putT T dst (.d (.sl (newN.map zB)))) S F Q :=
 zX (ds := []) rfl (z7v rfl rfl ztg)
end
end Go.Proofs.Ytghllhghboaagaa
end
section
namespace Go.Proofs.Ytghllhghboaagaa

end Go.Proofs.Ytghllhghboaagaa
end
section
namespace Go.Proofs.Ytghllhghboaagaa
open Go.Vm
section
variable {ops : Array Oper} {dst : Option Tmp} {k : List Oper} {T : List V} {S : zA} {F : Dfs} {Q : Post}
end
theorem dne {α : Type} {a : α} {i : Decidable (a ≠ a)} : @decide (a ≠ a) i = false := decide_eq_false (fun h => h rfl)
theorem q06 : (zC Try.prog 20).isSome = true := by kernel_rfl
theorem zs4 {e f : Ent} : eqV Try.prog 88 (.d (zI e)) (.d (zI f)) = (match some (e.name == f.name) with | some true => (match some (e.ino == f.ino) with | some true => some true | some false => some false | none => none) | some false => some false | none => none) := by kernel_rfl
theorem zy3 {e f : Ent} : binV Try.prog .neq 88 (.d (zI e)) (.d (zI f)) = some (.d (.bool (decide (e ≠ f)))) := by
 have h0 : binV Try.prog .neq 88 (.d (zI e)) (.d (zI f)) = (eqV Try.prog 88 (.d (zI e)) (.d (zI f))).map fun b => .d (.bool (!b)) := rfl
 rw [h0, zs4]
 obtain ⟨n, i⟩ := e
 obtain ⟨m, j⟩ := f
 by_cases h1 : n = m
 ·subst h1
  by_cases h2 : i = j
  ·subst h2
   simp
  ·have : (i == j) = false := by rw [beq_eq_false_iff_ne]; exact h2
   simp [this, h2]
 ·have : (n == m) = false := by rw [beq_eq_false_iff_ne]; exact h1
  simp [this, h1]
end Go.Proofs.Ytghllhghboaagaa
end
section
namespace Go.Proofs.Ytghllhghboaagaa

end Go.Proofs.Ytghllhghboaagaa
end
section
namespace Go.Proofs.Ytghllhghboaagaa
open Go.Vm
section
variable {ops : Array Oper} {dst : Option Tmp} {k : List Oper} {T : List V} {S : zA} {F : Dfs} {Q : Post}
end
section
variable {ops : Array Oper} {dst : Option Tmp} {k : List Oper} {T : List V} {S : zA} {F : Dfs} {Q : Post}
theorem ztr (a : List UInt8) (ha : a.length < 1000000) (R : Post) (x2 x3 x4 : V) : ∀ (k i : Nat) (S : zA) (g6 g7 g8 g9 gI gJ gF gA gB gG gH gC gD gE gK gL gO gM gN gP : V), a.length - i = k → i ≤ a.length →
 (∀ S i' g6 g7 g8 g9 gI gJ gF gA gB gG gH gC gD gE gK gL gO gM gN gP, R (.exit 0) ((.d (encB a)) :: (.d (encB a)) :: x2 :: x3 :: x4 :: i' :: g6 :: g7 :: g8 :: g9 :: gI :: gJ :: gF :: gA :: gB :: gG :: gH :: gC :: gD :: gE :: gK :: gL :: gO :: gM :: gN :: gP :: []) S []) →
 Wp cfg (.loop (lpOf (Try.f53.body.getD .skip) 0)) ((.d (encB a)) :: (.d (encB a)) :: x2 :: x3 :: x4 :: (.d (.int .i64 i)) :: g6 :: g7 :: g8 :: g9 :: gI :: gJ :: gF :: gA :: gB :: gG :: gH :: gC :: gD :: gE :: gK :: gL :: gO :: gM :: gN :: gP :: []) S [] R := by
 intro k
 induction k with
 | zero =>
  intro i S g6 g7 g8 g9 gI gJ gF gA gB gG gH gC gD gE gK gL gO gM gN gP hk hi hE
  have hie : i = a.length := by omega
  rw [qK]
  refine zS ?_
  conv => arg 2; whnf
  simp (maxSteps:=1000000) (disch:=first|assumption|omega|rfl) only [↓gp, gc, Nat.reduceAdd, lenB]
  exact hE _ _ _ _ _ _ _ _ _ _ _ _ _ _ _ _ _ _ _ _ _ _
 | succ k ih =>
  intro i S g6 g7 g8 g9 gI gJ gF gA gB gG gH gC gD gE gK gL gO gM gN gP hk hi hE
  have hlt : i < a.length := by omega
  rw [qK]
  refine zS ?_
  conv => arg 2; whnf
  simp (maxSteps:=1000000) (disch:=first|assumption|omega|rfl) only [↓gp, gc, Nat.reduceAdd, lenB]
  generalize hea : a[i] = e at *
  refine qS (is := [0, 1, 2, 3, 4, 5, 6, 7, 8]) (h := 0) (by kernel_rfl) (by kernel_rfl) ?_
  simp (maxSteps:=1000000) (disch:=first|assumption|omega|rfl) only [List.replicate_zero, eq_self, gd, ga, Nat.reduceAdd, ↓gq, List.append_nil, hea, ixB, dne]
  refine ⟨by kernel_rfl, ?_⟩
  simp (maxSteps:=1000000) (disch:=first|assumption|omega|rfl) only [↓gp, gc, Nat.reduceAdd, dne]
  exact ih (i + 1) _ _ _ _ _ _ _ _ _ _ _ _ _ _ _ _ _ _ _ _ _ (by omega) (by omega) hE
theorem zs0 (a : List UInt8) (ha : a.length < 1000000) : Ev cfg 53 [encB a, encB a] (.ret (.d (.bool true))) := by
 refine kQ rfl rfl zvt ?_
 show Wp cfg (Try.f53.body.getD .skip) ((.d (encB a)) :: (.d (encB a)) :: uZ (uZ ((.tup []) :: (.tup []) :: (.tup []) :: (.tup []) :: []))) [] [] _
 unfold uZ
 conv => arg 2; whnf
 simp (maxSteps:=1000000) (disch:=first|assumption|omega|rfl) only [↓gp, gc, Nat.reduceAdd, lenB, dne]
 refine ztr a ha _ _ _ _ a.length 0 _ _ _ _ _ _ _ _ _ _ _ _ _ _ _ _ _ _ _ _ _ rfl (by omega) ?_
 intro S i' g6 g7 g8 g9 gI gJ gF gA gB gG gH gC gD gE gK gL gO gM gN gP
 simp (maxSteps:=1000000) (disch:=first|assumption|omega|rfl) only [↓gp, gc, Nat.reduceAdd]
 exact zV rfl rfl rfl
theorem zch {a : List UInt8} (ha : a.length < 1000000) : WpR cfg ops dst k T S F Q (some (.enter 53 [.d (encB a), .d (encB a)])) = WpL cfg ops k (putT T dst (.d (.bool true))) S F Q :=
 zX (ds := [encB a, encB a]) rfl (zs0 a ha)
theorem zw9 (a : List (List UInt8)) (ha : a.length < 1000000) (R : Post) (x2 x3 x4 : V) : ∀ (k i : Nat) (S : zA) (g6 g7 g8 g9 gI gJ gF gA gB gG gH gC gD gE gK gL gO gM gN gP : V), a.length - i = k → i ≤ a.length →
 (∀ S i' g6 g7 g8 g9 gI gJ gF gA gB gG gH gC gD gE gK gL gO gM gN gP, R (.exit 0) ((.d (.sl (a.map .str))) :: (.d (.sl (a.map .str))) :: x2 :: x3 :: x4 :: i' :: g6 :: g7 :: g8 :: g9 :: gI :: gJ :: gF :: gA :: gB :: gG :: gH :: gC :: gD :: gE :: gK :: gL :: gO :: gM :: gN :: gP :: []) S []) →
 Wp cfg (.loop (lpOf (Try.f54.body.getD .skip) 0)) ((.d (.sl (a.map .str))) :: (.d (.sl (a.map .str))) :: x2 :: x3 :: x4 :: (.d (.int .i64 i)) :: g6 :: g7 :: g8 :: g9 :: gI :: gJ :: gF :: gA :: gB :: gG :: gH :: gC :: gD :: gE :: gK :: gL :: gO :: gM :: gN :: gP :: []) S [] R := by
 intro k
 induction k with
 | zero =>
  intro i S g6 g7 g8 g9 gI gJ gF gA gB gG gH gC gD gE gK gL gO gM gN gP hk hi hE
  have hie : i = a.length := by omega
  rw [qK]
  refine zS ?_
  conv => arg 2; whnf
  simp (maxSteps:=1000000) (disch:=first|assumption|omega|rfl) only [↓gp, gc, Nat.reduceAdd, lenB]
  exact hE _ _ _ _ _ _ _ _ _ _ _ _ _ _ _ _ _ _ _ _ _ _
 | succ k ih =>
  intro i S g6 g7 g8 g9 gI gJ gF gA gB gG gH gC gD gE gK gL gO gM gN gP hk hi hE
  have hlt : i < a.length := by omega
  rw [qK]
  refine zS ?_
  conv => arg 2; whnf
  simp (maxSteps:=1000000) (disch:=first|assumption|omega|rfl) only [↓gp, gc, Nat.reduceAdd, lenB]
  generalize hea : a[i] = e at *
  refine qS (is := [0, 1, 2, 3, 4, 5, 6, 7, 8]) (h := 0) (by kernel_rfl) (by kernel_rfl) ?_
  simp (maxSteps:=1000000) (disch:=first|assumption|omega|rfl) only [List.replicate_zero, eq_self, gd, ga, Nat.reduceAdd, ↓gq, List.append_nil, hea, dne]
  refine ⟨fun h => absurd h (by decide), by kernel_rfl, ?_⟩
  simp (maxSteps:=1000000) (disch:=first|assumption|omega|rfl) only [↓gp, gc, Nat.reduceAdd, dne, beq_self_eq_true, Bool.not_true]
  exact ih (i + 1) _ _ _ _ _ _ _ _ _ _ _ _ _ _ _ _ _ _ _ _ _ (by omega) (by omega) hE
theorem ztd (a : List (List UInt8)) (ha : a.length < 1000000) : Ev cfg 54 [.sl (a.map .str), .sl (a.map .str)] (.ret (.d (.bool true))) := by
 refine kQ rfl rfl zvl ?_
 show Wp cfg (Try.f54.body.getD .skip) ((.d (.sl (a.map .str))) :: (.d (.sl (a.map .str))) :: uZ (uZ ((.tup []) :: (.tup []) :: (.tup []) :: (.tup []) :: []))) [] [] _
 unfold uZ
 conv => arg 2; whnf
 simp (maxSteps:=1000000) (disch:=first|assumption|omega|rfl) only [↓gp, gc, Nat.reduceAdd, lenB, dne]
 refine zw9 a ha _ _ _ _ a.length 0 _ _ _ _ _ _ _ _ _ _ _ _ _ _ _ _ _ _ _ _ _ rfl (by omega) ?_
 intro S i' g6 g7 g8 g9 gI gJ gF gA gB gG gH gC gD gE gK gL gO gM gN gP
 simp (maxSteps:=1000000) (disch:=first|assumption|omega|rfl) only [↓gp, gc, Nat.reduceAdd]
 exact zV rfl rfl rfl
theorem zkh {a : List (List UInt8)} (ha : a.length < 1000000) : WpR cfg ops dst k T S F Q (some (.enter 54 [.d (.sl (a.map .str)), .d (.sl (a.map .str))])) = WpL cfg ops k (putT T dst (.d (.bool true))) S F Q :=
 zX (ds := [.sl (a.map .str), .sl (a.map .str)]) rfl (ztd a ha)
theorem zxm (a : List Ent) (ha : a.length < 1000000) (R : Post) (x2 x3 x4 : V) : ∀ (k i : Nat) (S : zA) (g6 g7 g8 g9 gI gJ gF gA gB gG gH gC gD gE gK gL gO gM gN gP : V), a.length - i = k → i ≤ a.length →
 (∀ S i' g6 g7 g8 g9 gI gJ gF gA gB gG gH gC gD gE gK gL gO gM gN gP, R (.exit 0) ((.d (.sl (a.map zI))) :: (.d (.sl (a.map zI))) :: x2 :: x3 :: x4 :: i' :: g6 :: g7 :: g8 :: g9 :: gI :: gJ :: gF :: gA :: gB :: gG :: gH :: gC :: gD :: gE :: gK :: gL :: gO :: gM :: gN :: gP :: []) S []) →
 Wp cfg (.loop (lpOf (Try.f95.body.getD .skip) 0)) ((.d (.sl (a.map zI))) :: (.d (.sl (a.map zI))) :: x2 :: x3 :: x4 :: (.d (.int .i64 i)) :: g6 :: g7 :: g8 :: g9 :: gI :: gJ :: gF :: gA :: gB :: gG :: gH :: gC :: gD :: gE :: gK :: gL :: gO :: gM :: gN :: gP :: []) S [] R := by
 intro k
 induction k with
 | zero =>
  intro i S g6 g7 g8 g9 gI gJ gF gA gB gG gH gC gD gE gK gL gO gM gN gP hk hi hE
  have hie : i = a.length := by omega
  rw [qK]
  refine zS ?_
  conv => arg 2; whnf
  simp (maxSteps:=1000000) (disch:=first|assumption|omega|rfl) only [↓gp, gc, Nat.reduceAdd, lenB]
  exact hE _ _ _ _ _ _ _ _ _ _ _ _ _ _ _ _ _ _ _ _ _ _
 | succ k ih =>
  intro i S g6 g7 g8 g9 gI gJ gF gA gB gG gH gC gD gE gK gL gO gM gN gP hk hi hE
  have hlt : i < a.length := by omega
  rw [qK]
  refine zS ?_
  conv => arg 2; whnf
  simp (maxSteps:=1000000) (disch:=first|assumption|omega|rfl) only [↓gp, gc, Nat.reduceAdd, lenB]
  generalize hea : a[i] = e at *
  refine qS (is := [0, 1, 2, 3, 4, 5, 6, 7, 8]) (h := 0) (by kernel_rfl) (by kernel_rfl) ?_
  simp (maxSteps:=1000000) (disch:=first|assumption|omega|rfl) only [List.replicate_zero, eq_self, gd, ga, Nat.reduceAdd, ↓gq, List.append_nil, hea, zy3, dne]
  refine ⟨by kernel_rfl, ?_⟩
  simp (maxSteps:=1000000) (disch:=first|assumption|omega|rfl) only [↓gp, gc, Nat.reduceAdd, dne]
  exact ih (i + 1) _ _ _ _ _ _ _ _ _ _ _ _ _ _ _ _ _ _ _ _ _ (by omega) (by omega) hE
theorem zs3 (a : List Ent) (ha : a.length < 1000000) : Ev cfg 95 [.sl (a.map zI), .sl (a.map zI)] (.ret (.d (.bool true))) := by
 refine kQ rfl rfl zyk ?_
 show Wp cfg (Try.f95.body.getD .skip) ((.d (.sl (a.map zI))) :: (.d (.sl (a.map zI))) :: uZ (uZ ((.tup []) :: (.tup []) :: (.tup []) :: (.tup []) :: []))) [] [] _
 unfold uZ
 conv => arg 2; whnf
 simp (maxSteps:=1000000) (disch:=first|assumption|omega|rfl) only [↓gp, gc, Nat.reduceAdd, lenB, dne]
 refine zxm a ha _ _ _ _ a.length 0 _ _ _ _ _ _ _ _ _ _ _ _ _ _ _ _ _ _ _ _ _ rfl (by omega) ?_
 intro S i' g6 g7 g8 g9 gI gJ gF gA gB gG gH gC gD gE gK gL gO gM gN gP
 simp (maxSteps:=1000000) (disch:=first|assumption|omega|rfl) only [↓gp, gc, Nat.reduceAdd]
 exact zV rfl rfl rfl
theorem zlz {a : List Ent} (ha : a.length < 1000000) : WpR cfg ops dst k T S F Q (some (.enter 95 [.d (.sl (a.map zI)), .d (.sl (a.map zI))])) = WpL cfg ops k (putT T dst (.d (.bool true))) S F Q :=
 zX (ds := [.sl (a.map zI), .sl (a.map zI)]) rfl (zs3 a ha)
theorem zl1 (n : Node) (hd : n.data.length < 1000000) (hn : n.names.length < 1000000) : Ev cfg 55 [zB n, zB n] (.ret (.d (.bool true))) := by
 refine kQ rfl rfl zy8 ?_
 show Wp cfg (Try.f55.body.getD .skip) ((.d (zB n)) :: (.d (zB n)) :: uZ (uZ (uZ (uZ (uZ []))))) [] [] _
 unfold uZ
 conv => arg 2; whnf
 simp (maxSteps:=1000000) (disch:=first|assumption|omega|rfl) only [↓gp, gc, Nat.reduceAdd, zch hd, zlz hn, bo53, bo95]
 exact zV rfl rfl rfl
theorem zl8 {ops : Array Oper} {F : Dfs} {Q : Post} {K : List Nat → List (Nat × Nat) → List V → zA → Prop} {rd : List Nat} {cs : List (Nat × Nat)} {i : Nat} {dst : Option Tmp} {T : List V} {S : zA} {a : Node} (hd : a.data.length < 1000000) (hn : a.names.length < 1000000) :
  WpE cfg ops F Q K rd cs i dst T S (some (.enter 55 [.d (zB a), .d (zB a)])) = K (i :: rd) (cs ++ [(i, 1)]) (putT T dst (.d (.bool true))) S :=
 z1r (ds := [zB a, zB a]) rfl (zl1 a hd hn)
theorem zmh (n : Ans) (hd : n.data.length < 1000000) (hn : n.names.length < 1000000) : Ev cfg 22 [zT n, zT n] (.ret (.d (.bool true))) := by
 refine kQ rfl rfl zxh ?_
 show Wp cfg (Try.f22.body.getD .skip) ((.d (zT n)) :: (.d (zT n)) :: uZ (uZ (uZ (uZ (uZ []))))) [] [] _
 unfold uZ
 conv => arg 2; whnf
 simp (maxSteps:=1000000) (disch:=first|assumption|omega|rfl) only [↓gp, gc, Nat.reduceAdd, zch hd, zkh hn, bo53, bo54]
 exact zV rfl rfl rfl
theorem q0h {a b c d e : Int} {l : List UInt8} {xs : List (List UInt8)} : vP Try.prog 52 [(0, .d (.int .i64 a)), (1, .d (.int .i64 b)), (2, .d (.int .i64 c)), (3, .d (.int .i64 d)), (4, .d (.int .i64 e)), (5, .d (encB l)), (6, .d (.sl (xs.map .str)))] = some (.agg [.d (.int .i64 a), .d (.int .i64 b), .d (.int .i64 c), .d (.int .i64 d), .d (.int .i64 e), .d (encB l), .d (.sl (xs.map .str))]) := by kernel_rfl
theorem zlu (n : Ans) : Ev cfg 23 [zT n] (.ret (.d (zT n))) := by
 refine kQ rfl rfl zyr ?_
 show Wp cfg (Try.f23.body.getD .skip) ((.d (zT n)) :: uZ ((.tup []) :: (.tup []) :: (.tup []) :: (.tup []) :: (.tup []) :: (.tup []) :: (.tup []) :: [])) [] [] _
 unfold uZ
 conv => arg 2; whnf
 simp (maxSteps:=1000000) (disch:=first|assumption|omega|rfl) only [↓gp, gc, Nat.reduceAdd, z52, zf52, q0h]
 exact vU (u := .ref 1 0 0) (v := .agg [.d (.int .i64 n.err), .d (.int .i64 n.ino), .d (.int .i64 n.kind), .d (.int .i64 n.links), .d (.int .i64 n.size), .d (encB n.data), .d (.sl (n.names.map .str))]) rfl rfl rfl (by kernel_rfl)
theorem is_l (a : List Node) (ha : a.length < 1000000) (hd : ∀ n ∈ a, n.data.length < 1000000) (hn : ∀ n ∈ a, n.names.length < 1000000) (R : Post) (x2 x3 x4 : V) : ∀ (k i : Nat) (S : zA) (g6 g7 g8 g9 gI gJ gF gA gB gG gH gC gD gE gK gL gO gM gN gP gQ : V), a.length - i = k → i ≤ a.length →
 (∀ S i' g6 g7 g8 g9 gI gJ gF gA gB gG gH gC gD gE gK gL gO gM gN gP gQ, R (.exit 0) ((.d (.sl (a.map zB))) :: (.d (.sl (a.map zB))) :: x2 :: x3 :: x4 :: i' :: g6 :: g7 :: g8 :: g9 :: gI :: gJ :: gF :: gA :: gB :: gG :: gH :: gC :: gD :: gE :: gK :: gL :: gO :: gM :: gN :: gP :: gQ :: []) S []) →
 Wp cfg (.loop (lpOf (Try.f24.body.getD .skip) 0)) ((.d (.sl (a.map zB))) :: (.d (.sl (a.map zB))) :: x2 :: x3 :: x4 :: (.d (.int .i64 i)) :: g6 :: g7 :: g8 :: g9 :: gI :: gJ :: gF :: gA :: gB :: gG :: gH :: gC :: gD :: gE :: gK :: gL :: gO :: gM :: gN :: gP :: gQ :: []) S [] R := by
 intro k
 induction k with
 | zero =>
  intro i S g6 g7 g8 g9 gI gJ gF gA gB gG gH gC gD gE gK gL gO gM gN gP gQ hk hi hE
  have hie : i = a.length := by omega
  rw [qK]
  refine zS ?_
  conv => arg 2; whnf
  simp (maxSteps:=1000000) (disch:=first|assumption|omega|rfl) only [↓gp, gc, Nat.reduceAdd]
  exact hE _ _ _ _ _ _ _ _ _ _ _ _ _ _ _ _ _ _ _ _ _ _ _
 | succ k ih =>
  intro i S g6 g7 g8 g9 gI gJ gF gA gB gG gH gC gD gE gK gL gO gM gN gP gQ hk hi hE
  have hlt : i < a.length := by omega
  have h1 := hd _ (List.getElem_mem hlt)
  have h2 := hn _ (List.getElem_mem hlt)
  rw [qK]
  refine zS ?_
  conv => arg 2; whnf
  simp (maxSteps:=1000000) (disch:=first|assumption|omega|rfl) only [↓gp, gc, Nat.reduceAdd]
  generalize hea : a[i] = e at *
  refine qS (is := [0, 1, 2, 3, 4, 5, 6, 7, 8, 9]) (h := 0) (by kernel_rfl) (by kernel_rfl) ?_
  simp (maxSteps:=1000000) (disch:=first|assumption|omega|rfl) only [List.replicate_zero, eq_self, gd, ga, Nat.reduceAdd, ↓gq, List.append_nil, hea, zl8 h1 h2, bo55, z0g]
  refine ⟨by kernel_rfl, ?_⟩
  simp (maxSteps:=1000000) (disch:=first|assumption|omega|rfl) only [↓gp, gc, Nat.reduceAdd, Bool.not_true]
  exact ih (i + 1) _ _ _ _ _ _ _ _ _ _ _ _ _ _ _ _ _ _ _ _ _ _ (by omega) (by omega) hE
theorem q05 (a : List Node) (ha : a.length < 1000000) (hd : ∀ n ∈ a, n.data.length < 1000000) (hn : ∀ n ∈ a, n.names.length < 1000000) : Ev cfg 24 [.sl (a.map zB), .sl (a.map zB)] (.ret (.d (.bool true))) := by
 refine kQ rfl rfl zvg ?_
 show Wp cfg (Try.f24.body.getD .skip) ((.d (.sl (a.map zB))) :: (.d (.sl (a.map zB))) :: uZ (uZ ((.tup []) :: (.tup []) :: (.tup []) :: (.tup []) :: (.tup []) :: []))) [] [] _
 unfold uZ
 conv => arg 2; whnf
 simp (maxSteps:=1000000) (disch:=first|assumption|omega|rfl) only [↓gp, gc, Nat.reduceAdd, dne]
 refine is_l a ha hd hn _ _ _ _ a.length 0 _ _ _ _ _ _ _ _ _ _ _ _ _ _ _ _ _ _ _ _ _ _ rfl (by omega) ?_
 intro S i' g6 g7 g8 g9 gI gJ gF gA gB gG gH gC gD gE gK gL gO gM gN gP gQ
 simp (maxSteps:=1000000) (disch:=first|assumption|omega|rfl) only [↓gp, gc, Nat.reduceAdd]
 exact zV rfl rfl rfl
end
theorem zq6 (t : List Node) (hsr : Srt t) (hn0 : ∀ n ∈ t, 0 ≤ n.ino ∧ n.ino ≤ 128) (hl : t.length < 400000) (R : Post) (x1 x2 : V) : ∀ (k i : Nat) (d r : List Node) (S : zA) (v3 : V) (g4 g5 g6 g8 g9 gI gJ gF gA gB gG gH gC gD gE gK gL gO gM gN gP : V), 129 - i = k → i ≤ 129 → t = d ++ r → (∀ n ∈ d, n.ino < (i : Int)) → (∀ n ∈ r, (i : Int) ≤ n.ino) → OwnS S v3 32 (d.map fun x => .d (zB x)) →
 (∀ S v3 i' g4 g5 g6 g8 g9 gI gJ gF gA gB gG gH gC gD gE gK gL gO gM gN gP, OwnS S v3 32 (t.map fun x => .d (zB x)) → R (.exit 0) ((.d (stD t)) :: x1 :: x2 :: v3 :: g4 :: g5 :: g6 :: i' :: g8 :: g9 :: gI :: gJ :: gF :: gA :: gB :: gG :: gH :: gC :: gD :: gE :: gK :: gL :: gO :: gM :: gN :: gP :: []) S []) →
 Wp cfg (.loop (lpOf (Try.f41.body.getD .skip) 0)) ((.d (stD t)) :: x1 :: x2 :: v3 :: g4 :: g5 :: g6 :: (.d (.int .i64 i)) :: g8 :: g9 :: gI :: gJ :: gF :: gA :: gB :: gG :: gH :: gC :: gD :: gE :: gK :: gL :: gO :: gM :: gN :: gP :: []) S [] R := by
 intro k
 induction k with
 | zero =>
  intro i d r S v3 g4 g5 g6 g8 g9 gI gJ gF gA gB gG gH gC gD gE gK gL gO gM gN gP hk hi ht hd hr hO hR
  have hie : i = 129 := by omega
  subst hie
  have hre : r = [] := by
   cases r with
   | nil => rfl
   | cons n r' =>
    have h1 := hr n (by simp)
    have h2 := hn0 n (by rw [ht]; simp)
    omega
  rw [hre, List.append_nil] at ht
  rw [← ht] at hO
  have hlt : ¬ ((129 : Nat) : Int) < 129 := by omega
  rw [qK]
  refine zS ?_
  conv => arg 2; whnf
  simp (maxSteps:=1000000) (disch:=first|assumption|omega|rfl) only [↓gp, gc, Nat.reduceAdd]
  exact hR _ _ _ _ _ _ _ _ _ _ _ _ _ _ _ _ _ _ _ _ _ _ _ _ hO
 | succ k ih =>
  intro i d r S v3 g4 g5 g6 g8 g9 gI gJ gF gA gB gG gH gC gD gE gK gL gO gM gN gP hk hi ht hd hr hO hR
  have hlt : (i : Int) < 129 := by omega
  have hO1 := fun (l : zA) => z0f (S' := S ++ l) hO (fun j o hj => qO hj)
  have hsr' : Srt r := by
   rw [ht] at hsr
   unfold Srt at hsr ⊢
   exact hsr.sublist ((List.sublist_append_right d r).map _)
  have hci : (i : Int) + 1 = ((i + 1 : Nat) : Int) := by omega
  rw [qK]
  refine zS ?_
  conv => arg 2; whnf
  rcases zb9 hd hsr' hr with ⟨h1, h2⟩ | ⟨n, r', h0, hni, h1, h2⟩
  ·rw [← ht] at h1
   have hlk := fun S => zt9 (S := S) h1
   simp (maxSteps:=1000000) (disch:=first|assumption|omega|rfl) only [↓gp, gc, Nat.reduceAdd, zk8, zwl, zzi, hlk, z32, zf32, zR, zN, hci]
   exact ih (i + 1) d r _ v3 _ _ _ _ _ _ _ _ _ _ _ _ _ _ _ _ _ _ _ _ _ (by omega) (by omega) ht (fun n hn => by have := hd n hn; omega) (fun n hn => by have := h2 n hn; omega) (hO1 _) hR
  ·rw [← ht] at h1
   have hlk := fun S => zsz (S := S) h1
   have hgn : getN t i = n := by
    rw [← hni]
    exact z4c hsr.uniq (by rw [ht, h0]; simp)
   rw [hgn] at hlk
   have hdl : d.length ≤ t.length := by rw [ht, List.length_append]; omega
   obtain ⟨v3', S3, c3, ha3, hO3, hf3⟩ := ap25 n (hO1 [Ob.row [.d (zB n)] 32]) (by omega)
   simp (maxSteps:=1000000) (disch:=first|assumption|omega|rfl) only [↓gp, gc, Nat.reduceAdd, ↓vbs, zk8, zwl, zzi, hlk, z32, zf32, zR, zN, bs25, ha3, hci]
   exact ih (i + 1) (d ++ [n]) r' S3 v3' _ _ _ _ _ _ _ _ _ _ _ _ _ _ _ _ _ _ _ _ _ (by omega) (by omega) (by rw [ht, h0]; simp) (fun x hx => by
    rcases List.mem_append.1 hx with hx | hx
    ·have := hd x hx; omega
    ·rw [List.mem_singleton.1 hx]; omega) (fun x hx => by have := h2 x hx; omega) hO3 hR
theorem zny (t : List Node) (hsr : Srt t) (hn0 : ∀ n ∈ t, 0 ≤ n.ino ∧ n.ino ≤ 128) (hl : t.length < 400000) : Ev cfg 41 [stD t] (.ret (.d (.sl (t.map zB)))) := by
 refine kQ rfl rfl zpp ?_
 show Wp cfg (Try.f41.body.getD .skip) ((.d (stD t)) :: uZ (uZ ((.tup []) :: (.tup []) :: (.tup []) :: (.tup []) :: (.tup []) :: []))) [] [] _
 unfold uZ
 conv => arg 2; whnf
 simp (maxSteps:=1000000) (disch:=first|assumption|omega|rfl) only [↓gp, gc, Nat.reduceAdd]
 refine zq6 t hsr hn0 hl _ _ _ 129 0 [] t [] _ _ _ _ _ _ _ _ _ _ _ _ _ _ _ _ _ _ _ _ _ _ rfl (by omega) rfl (fun n hn => by cases hn) (fun n hn => (hn0 n hn).1) OwnS.nil ?_
 intro S v3 i' g4 g5 g6 g8 g9 gI gJ gF gA gB gG gH gC gD gE gK gL gO gM gN gP hO
 simp (maxSteps:=1000000) (disch:=first|assumption|omega|rfl) only [↓gp, gc, Nat.reduceAdd]
 exact zV rfl (z19 hO) (z1e hO)
theorem ix40 {S : zA} {l : List Opn} {i : Nat} (h : i < l.length) : qM Try.prog S 40 (.d (.sl (l.map encOpn))) (.d (.int .i64 i)) = some (.d (.ptr (encOpn l[i]))) := z9h Try.underlying40 (zpr) h
theorem q0n {S : zA} {xs : List D} : qB Try.prog S .len [40] [.d (.sl xs)] = some (.val (.d (.int .i64 xs.length)) S 0) := z7i Try.underlying40
theorem q08 {S : zA} {xs : List D} : qB Try.prog S .len [58] [.d (.sl xs)] = some (.val (.d (.int .i64 xs.length)) S 0) := z7i Try.underlying58
theorem bs40 {S : zA} {a : Opn} : bs1 Try.prog S 40 (.d (encOpn a)) = some (.val (.ts [encOpn a]) S 0) := by kernel_rfl
theorem bs58 {S : zA} {a : Ans} : bs1 Try.prog S 58 (.d (zT a)) = some (.val (.ts [zT a]) S 0) := by kernel_rfl
theorem ap40 {S : zA} {v : V} {xs : List Opn} (a : Opn) (ho : OwnS S v 48 (xs.map fun x => .d (encOpn x))) (hl : xs.length < 1000000) : ∃ v' S' c, qF Try.prog S 40 40 v (.ts [encOpn a]) = some (v', S', c) ∧ OwnS S' v' 48 ((xs ++ [a]).map fun x => .d (encOpn x)) ∧ (∀ j o, S[j]? = some o → NotAt v j → S'[j]? = some o ∧ NotAt v' j) ∧ S.length ≤ S'.length :=
 z0m a Try.underlying40 (by kernel_rfl) (by kernel_rfl) (zpr a) ho (z38 rfl (by decide +kernel) (by omega))
theorem ap58 {S : zA} {v : V} {xs : List Ans} (a : Ans) (ho : OwnS S v 44 (xs.map fun x => .d (zT x))) (hl : xs.length < 1000000) : ∃ v' S' c, qF Try.prog S 58 58 v (.ts [zT a]) = some (v', S', c) ∧ OwnS S' v' 44 ((xs ++ [a]).map fun x => .d (zT x)) ∧ (∀ j o, S[j]? = some o → NotAt v j → S'[j]? = some o ∧ NotAt v' j) ∧ S.length ≤ S'.length :=
 z0m a Try.underlying58 (by kernel_rfl) (by kernel_rfl) (zv3 a) ho (z38 rfl (by decide +kernel) (by omega))
section
variable {ops : Array Oper} {dst : Option Tmp} {k : List Oper} {T : List V} {S : zA} {F : Dfs} {Q : Post}
theorem ztc {n : Nat} {t : List Node} (h : At n t) (hn : n ≤ 24) : WpR cfgT ops dst k T S F Q (some (.enter 40 [.d (.sl (t.map zB))])) = WpL cfgT ops k (putT T dst (.d (stD t))) S F Q :=
 zX (ds := [.sl (t.map zB)]) rfl (z7v rfl rfl (zsf t _ (by omega) h.g.sm h.g.lj.srt.nodup))
theorem zo3 {n : Nat} {t : List Node} (h : At n t) (hn : n ≤ 24) : WpR cfgT ops dst k T S F Q (some (.enter 41 [.d (stD t)])) = WpL cfgT ops k (putT T dst (.d (.sl (t.map zB)))) S F Q :=
 zX (ds := [stD t]) rfl (z7v rfl rfl (zny t h.g.lj.srt h.num (by have := h.g.sm.len; omega)))
end
theorem q0u : (zC Try.prog 40).isSome = true := by kernel_rfl
theorem q1l : (zC Try.prog 41).isSome = true := by kernel_rfl
def ansL : List Node → List Opn → List Ans
 | _, [] => []
 | t, o :: r => (qR t o).2 :: ansL (qR t o).1 r
theorem zgz : ∀ {l : List Opn} {t : List Node}, (ansL t l).length = l.length
 | [], _ => rfl
 | o :: r, t => by rw [ansL, List.length_cons, List.length_cons, zgz]
def zhe (t : List Node) (o : Opn) : List Node := (qR t o).1
theorem q0b (l : List Opn) (hl : l.length ≤ 24) (hs : ∀ o ∈ l, o.a.length < 900000 ∧ o.b.length < 900000) (R : Post) (x2 x3 x4 x5 : V) : ∀ (k i : Nat) (t : List Node) (rs : List Ans) (S : zA) (v6 : V) (g7 g8 g9 gI gJ gF gA gC gD gE gK gL gO gM gN gP gQ gV gR gS gT gU gW gX : V), l.length - i = k → i ≤ l.length → At i t → rs.length = i → OwnS S v6 44 (rs.map fun x => .d (zT x)) →
 (∀ S v6 i' g7 g8 g9 gI gJ gF gA gC gD gE gK gL gO gM gN gP gQ gV gR gS gT gU gW gX, OwnS S v6 44 ((rs ++ ansL t (l.drop i)).map fun x => .d (zT x)) → R (.exit 0) ((.d (.sl (((l.drop i).foldl zhe t).map zB))) :: (.d (.sl (l.map encOpn))) :: x2 :: x3 :: x4 :: x5 :: v6 :: g7 :: g8 :: g9 :: gI :: gJ :: gF :: gA :: (.d (.sl (l.map encOpn))) :: (.d (.int .i64 l.length)) :: i' :: gC :: gD :: gE :: gK :: gL :: gO :: gM :: gN :: gP :: gQ :: gV :: gR :: gS :: gT :: gU :: gW :: gX :: []) S []) →
 Wp cfgT (.loop (lpOf (Try.f25.body.getD .skip) 0)) ((.d (.sl (t.map zB))) :: (.d (.sl (l.map encOpn))) :: x2 :: x3 :: x4 :: x5 :: v6 :: g7 :: g8 :: g9 :: gI :: gJ :: gF :: gA :: (.d (.sl (l.map encOpn))) :: (.d (.int .i64 l.length)) :: (.d (.int .i64 i)) :: gC :: gD :: gE :: gK :: gL :: gO :: gM :: gN :: gP :: gQ :: gV :: gR :: gS :: gT :: gU :: gW :: gX :: []) S [] R := by
 intro k
 induction k with
 | zero =>
  intro i t rs S v6 g7 g8 g9 gI gJ gF gA gC gD gE gK gL gO gM gN gP gQ gV gR gS gT gU gW gX hk hi hA has hO hR
  have hie : i = l.length := by omega
  rw [hie, List.drop_length, ansL, List.append_nil] at hR
  rw [qK]
  refine zS ?_
  conv => arg 2; whnf
  simp (maxSteps:=1000000) (disch:=first|assumption|omega|rfl) only [↓gp, gc, Nat.reduceAdd, hPT]
  exact hR _ _ _ _ _ _ _ _ _ _ _ _ _ _ _ _ _ _ _ _ _ _ _ _ _ _ _ hO
 | succ k ih =>
  intro i t rs S v6 g7 g8 g9 gI gJ gF gA gC gD gE gK gL gO gM gN gP gQ gV gR gS gT gU gW gX hk hi hA has hO hR
  have hlt : i < l.length := by omega
  have h23 : i ≤ 23 := by omega
  obtain ⟨hla, hlb⟩ := hs _ (List.getElem_mem hlt)
  have hd : l.drop i = l[i] :: l.drop (i + 1) := List.drop_eq_getElem_cons hlt
  rw [hd, List.foldl_cons, ansL, show rs ++ (qR t l[i]).2 :: ansL (qR t l[i]).1 (l.drop (i + 1)) = (rs ++ [(qR t l[i]).2]) ++ ansL (qR t l[i]).1 (l.drop (i + 1)) by rw [List.append_assoc]; rfl] at hR
  have hAu := hA.step (o := l[i]) h23
  rw [qK]
  refine zS ?_
  conv => arg 2; whnf
  generalize heo : l[i] = o at *
  have hO1 := fun (q r : zA) => z0f (S' := S ++ q ++ r) hO (fun j o hj => qO (qO hj))
  obtain ⟨v', S3, c3, ha3, hO3, hf3⟩ := ap58 (qR t o).2 (hO1 [Ob.row [.d (encOpn o)] 48] [Ob.row [.d (zT (qR t o).2)] 44]) (by omega)
  simp (maxSteps:=1000000) (disch:=first|assumption|omega|rfl) only [↓gp, gc, Nat.reduceAdd, ↓vbs, hPT, ix40, heo, z48, zf48, z44, zf44, zR, zN, zm5 hA h23 hla hlb, bo19, bs58, ha3]
  exact ih (i + 1) _ (rs ++ [(qR t o).2]) S3 v' _ _ _ _ _ _ _ _ _ _ _ _ _ _ _ _ _ _ _ _ _ _ _ _ (by omega) (by omega) hAu (by rw [List.length_append, has]; rfl) hO3 hR
theorem zz1 (l : List Opn) (hl : l.length ≤ 24) (hs : ∀ o ∈ l, o.a.length < 900000 ∧ o.b.length < 900000) : Ev cfgT 25 [.sl (newN.map zB), .sl (l.map encOpn)] (.ret (.tup [.d (.sl ((zjp l).map zB)), .d (.sl ((ansL newN l).map zT))])) := by
 refine kQ rfl rfl zzh ?_
 show Wp cfgT (Try.f25.body.getD .skip) ((.d (.sl (newN.map zB))) :: (.d (.sl (l.map encOpn))) :: uZ (uZ (uZ ((.tup []) :: (.tup []) :: [])))) [] [] _
 unfold uZ
 conv => arg 2; whnf
 simp (maxSteps:=1000000) (disch:=first|assumption|omega|rfl) only [↓gp, gc, Nat.reduceAdd, hPT, ztc At.new (Nat.zero_le 24), zo3 At.new (Nat.zero_le 24), q0u, q1l, q0n]
 refine q0b l hl hs _ _ _ _ _ l.length 0 newN [] _ _ _ _ _ _ _ _ _ _ _ _ _ _ _ _ _ _ _ _ _ _ _ _ _ _ rfl (by omega) At.new rfl OwnS.nil ?_
 intro S v6 i' g7 g8 g9 gI gJ gF gA gC gD gE gK gL gO gM gN gP gQ gV gR gS gT gU gW gX hO
 simp (maxSteps:=1000000) (disch:=first|assumption|omega|rfl) only [↓gp, gc, Nat.reduceAdd, hPT]
 exact kF rfl rfl rfl (z19 hO) rfl (z1e hO)
section
variable {ops : Array Oper} {dst : Option Tmp} {k : List Oper} {T : List V} {S : zA} {F : Dfs} {Q : Post}
theorem zo8 {n : Nat} {t : List Node} {o : Opn} (h : At n t) (hn : n ≤ 23) (hl : o.a.length < 900000) (hlb : o.b.length < 900000) :
  WpR cfgT ops dst k T S F Q (some (.enter 21 [.d (.sl (t.map zB)), .d (encOpn o)])) = WpL cfgT ops k (putT T dst (.tup [.d (.sl ((qR t o).1.map zB)), .d (zT (qR t o).2)])) S F Q :=
 zX (ds := [.sl (t.map zB), encOpn o]) rfl (z7v rfl rfl (zt0 t _ (by omega) h.g.sm o (by omega) (by omega)))
theorem zt4 : WpR cfgT ops dst k T S F Q (some (.enter 18 [])) = WpL cfgT ops k (putT T dst (.d (.sl (newN.map zB)))) S F Q :=
 zX (ds := []) rfl (z7v rfl rfl zxt)
theorem At.is {n : Nat} {t : List Node} (h : At n t) (hn : n ≤ 24) : Ev cfg 24 [.sl (t.map zB), .sl (t.map zB)] (.ret (.d (.bool true))) :=
 q05 t (by have := h.g.sm.len; omega) (fun x hx => by have := h.g.sm.siz x hx; omega) (fun x hx => by have := h.g.sm.nms x hx; omega)
theorem q14 {n : Nat} {t : List Node} (h : At n t) (hn : n ≤ 24) : WpR cfgT ops dst k T S F Q (some (.enter 24 [.d (.sl (t.map zB)), .d (.sl (t.map zB))])) = WpL cfgT ops k (putT T dst (.d (.bool true))) S F Q :=
 zX (ds := [.sl (t.map zB), .sl (t.map zB)]) rfl (z7v rfl rfl (h.is hn))
end
section
variable {ops : Array Oper} {F : Dfs} {Q : Post} {K : List Nat → List (Nat × Nat) → List V → zA → Prop} {rd : List Nat} {cs : List (Nat × Nat)} {i : Nat} {dst : Option Tmp} {T : List V} {S : zA}
theorem zrd {a : Ans} : WpE cfgT ops F Q K rd cs i dst T S (some (.enter 23 [.d (zT a)])) = K (i :: rd) (cs ++ [(i, 1)]) (putT T dst (.d (zT a))) S :=
 z1r (ds := [zT a]) rfl (z7v rfl rfl (zlu a))
theorem zqu {a : Ans} (hd : a.data.length < 1000000) (hn : a.names.length < 1000000) : WpE cfgT ops F Q K rd cs i dst T S (some (.enter 22 [.d (zT a), .d (zT a)])) = K (i :: rd) (cs ++ [(i, 1)]) (putT T dst (.d (.bool true))) S :=
 z1r (ds := [zT a, zT a]) rfl (z7v rfl rfl (zmh a hd hn))
theorem q18 {n : Nat} {t : List Node} (h : At n t) (hn : n ≤ 24) : WpE cfgT ops F Q K rd cs i dst T S (some (.enter 24 [.d (.sl (t.map zB)), .d (.sl (t.map zB))])) = K (i :: rd) (cs ++ [(i, 1)]) (putT T dst (.d (.bool true))) S :=
 z1r (ds := [.sl (t.map zB), .sl (t.map zB)]) rfl (z7v rfl rfl (h.is hn))
end
theorem zvv : (zC Try.prog 17).isSome = true := by kernel_rfl
theorem q1s : (zC Try.prog 18).isSome = true := by kernel_rfl
theorem q11 : (zC Try.prog 21).isSome = true := by kernel_rfl
theorem q04 : (zC Try.prog 22).isSome = true := by kernel_rfl
theorem q0x : (zC Try.prog 23).isSome = true := by kernel_rfl
theorem zz5 : (zC Try.prog 24).isSome = true := by kernel_rfl
theorem q0p : (zC Try.prog 25).isSome = true := by kernel_rfl
theorem zjc {n : Nat} {t : List Node} {o : Opn} (h : At n t) (hn : n ≤ 23) : (qR t o).2.names.length < 1000000 := by
 have hg := fun x => (h.g.sm.get x).nms
 have h1 : (z0h t o).2.names.length < 1000000 := by
  unfold z0h
  repeat' split
  all_goals exact (by decide : 0 < 1000000)
 have h2 : (vR t o).2.names.length < 1000000 := by
  unfold vR
  repeat' split
  all_goals exact (by decide : 0 < 1000000)
 have h3 : (kU t o).2.names.length < 1000000 := by
  unfold kU
  repeat' split
  all_goals exact (by decide : 0 < 1000000)
 have h4 : (kT t o).2.names.length < 1000000 := by
  unfold kT z39
  repeat' split
  all_goals exact (by decide : 0 < 1000000)
 have h5 : (wC t o).2.names.length < 1000000 := by
  unfold wC z47
  repeat' split
  all_goals exact (by decide : 0 < 1000000)
 have h6 : (z14 t o).names.length < 1000000 := by
  unfold z14 zgb
  repeat' split
  all_goals first | exact (by decide : 0 < 1000000) | (show ((getN t _).names.map _).length < _; rw [List.length_map]; have := hg (zH t o.a).1; omega)
 unfold qR
 repeat' split
 all_goals first | exact (by decide : 0 < 1000000) | exact h1 | exact h2 | exact h3 | exact h4 | exact h5 | exact h6
theorem zqd (l : List Opn) (hl : l.length ≤ 24) (hs : ∀ o ∈ l, o.a.length < 900000 ∧ o.b.length < 900000 ∧ o.data.length < 900000) (R : Post) (x1 x2 : V) : ∀ (k i : Nat) (t : List Node) (S : zA) (v5 : V) (g7 g8 g9 gI gJ gF gA gB gG gH gC gD gE gK gL gO gM gN gP gQ gV gR gS gT gU gW gX gY gZ gf gg gh gi gj gk gm gn gr gz hC hH hJ hY hZ xA xB xC xD xE xF xG xH xI xJ xK xL xM xN xO xP xQ xR xS xT xU xV xW xX xY xZ g77 g78 g79 g80 g81 g82 : V), l.length - i = k → i ≤ l.length → At i t → OwnS S v5 48 ((l.take i).map fun x => .d (encOpn x)) →
 (∀ S v5 i' g7 g8 g9 gI gJ gF gA gB gG gH gC gD gE gK gL gO gM gN gP gQ gV gR gS gT gU gW gX gY gZ gf gg gh gi gj gk gm gn gr gz hC hH hJ hY hZ xA xB xC xD xE xF xG xH xI xJ xK xL xM xN xO xP xQ xR xS xT xU xV xW xX xY xZ g77 g78 g79 g80 g81 g82, OwnS S v5 48 (l.map fun x => .d (encOpn x)) → R (.exit 0) ((.d (.sl (l.map encOpn))) :: x1 :: x2 :: (.d (.sl (((l.drop i).foldl zhe t).map zB))) :: (.d (.sl (((l.drop i).foldl zhe t).map zB))) :: v5 :: i' :: g7 :: g8 :: g9 :: gI :: gJ :: gF :: gA :: gB :: gG :: gH :: gC :: gD :: gE :: gK :: gL :: gO :: gM :: gN :: gP :: gQ :: gV :: gR :: gS :: gT :: gU :: gW :: gX :: gY :: gZ :: gf :: gg :: gh :: gi :: gj :: gk :: gm :: gn :: gr :: gz :: hC :: hH :: hJ :: hY :: hZ :: xA :: xB :: xC :: xD :: xE :: xF :: xG :: xH :: xI :: xJ :: xK :: xL :: xM :: xN :: xO :: xP :: xQ :: xR :: xS :: xT :: xU :: xV :: xW :: xX :: xY :: xZ :: g77 :: g78 :: g79 :: g80 :: g81 :: g82 :: []) S []) →
 Wp cfgT (.loop (lpOf (Try.f4.body.getD .skip) 0)) ((.d (.sl (l.map encOpn))) :: x1 :: x2 :: (.d (.sl (t.map zB))) :: (.d (.sl (t.map zB))) :: v5 :: (.d (.int .i64 i)) :: g7 :: g8 :: g9 :: gI :: gJ :: gF :: gA :: gB :: gG :: gH :: gC :: gD :: gE :: gK :: gL :: gO :: gM :: gN :: gP :: gQ :: gV :: gR :: gS :: gT :: gU :: gW :: gX :: gY :: gZ :: gf :: gg :: gh :: gi :: gj :: gk :: gm :: gn :: gr :: gz :: hC :: hH :: hJ :: hY :: hZ :: xA :: xB :: xC :: xD :: xE :: xF :: xG :: xH :: xI :: xJ :: xK :: xL :: xM :: xN :: xO :: xP :: xQ :: xR :: xS :: xT :: xU :: xV :: xW :: xX :: xY :: xZ :: g77 :: g78 :: g79 :: g80 :: g81 :: g82 :: []) S [] R := by
 intro k
 induction k with
 | zero =>
  intro i t S v5 g7 g8 g9 gI gJ gF gA gB gG gH gC gD gE gK gL gO gM gN gP gQ gV gR gS gT gU gW gX gY gZ gf gg gh gi gj gk gm gn gr gz hC hH hJ hY hZ xA xB xC xD xE xF xG xH xI xJ xK xL xM xN xO xP xQ xR xS xT xU xV xW xX xY xZ g77 g78 g79 g80 g81 g82 hk hi hA hO hR
  have hie : i = l.length := by omega
  rw [hie, List.drop_length] at hR
  rw [hie, List.take_length] at hO
  rw [qK]
  refine zS ?_
  conv => arg 2; whnf
  simp (maxSteps:=1000000) (disch:=first|assumption|omega|rfl) only [↓gp, gc, Nat.reduceAdd, hPT]
  exact hR _ _ _ _ _ _ _ _ _ _ _ _ _ _ _ _ _ _ _ _ _ _ _ _ _ _ _ _ _ _ _ _ _ _ _ _ _ _ _ _ _ _ _ _ _ _ _ _ _ _ _ _ _ _ _ _ _ _ _ _ _ _ _ _ _ _ _ _ _ _ _ _ _ _ _ _ _ _ _ hO
 | succ k ih =>
  intro i t S v5 g7 g8 g9 gI gJ gF gA gB gG gH gC gD gE gK gL gO gM gN gP gQ gV gR gS gT gU gW gX gY gZ gf gg gh gi gj gk gm gn gr gz hC hH hJ hY hZ xA xB xC xD xE xF xG xH xI xJ xK xL xM xN xO xP xQ xR xS xT xU xV xW xX xY xZ g77 g78 g79 g80 g81 g82 hk hi hA hO hR
  have hlt : i < l.length := by omega
  have h23 : i ≤ 23 := by omega
  have h24 : i + 1 ≤ 24 := by omega
  obtain ⟨hla, hlb, hld⟩ := hs _ (List.getElem_mem hlt)
  have hd : l.drop i = l[i] :: l.drop (i + 1) := List.drop_eq_getElem_cons hlt
  rw [hd, List.foldl_cons] at hR
  have hAu := hA.step (o := l[i]) h23
  have hda : (qR t l[i]).2.data.length < 1000000 := by have := (ansP (o := l[i]) hA.g.sm).data; omega
  have hna := zjc (o := l[i]) hA h23
  have htk : l.take (i + 1) = l.take i ++ [l[i]] := by rw [List.take_add_one, List.getElem?_eq_getElem hlt]; rfl
  rw [qK]
  refine zS ?_
  conv => arg 2; whnf
  generalize heo : l[i] = o at *
  have hO1 := fun (q r : zA) => z0f (S' := S ++ q ++ r) hO (fun j o hj => qO (qO hj))
  have hO2 := hO1 [Ob.row [.d (zT (qR t o).2)] 44] [Ob.row [.d (zT (qR t o).2)] 52]
  obtain ⟨v', S3, c3, ha3, hO3, hf3⟩ := ap40 o hO2 (by rw [List.length_take]; omega)
  have k2 := qY (S := S ++ [Ob.row [.d (zT (qR t o).2)] 44]) (o := Ob.row [.d (zT (qR t o).2)] 52)
  have k1 := qO (l := [Ob.row [.d (zT (qR t o).2)] 52]) (qY (S := S) (o := Ob.row [.d (zT (qR t o).2)] 44))
  have r1 := zE (hf3.1 _ _ k1 (z13 hO2 k1 (by decide))).1
  have r2 := zE (hf3.1 _ _ k2 (z13 hO2 k2 (by decide))).1
  simp (maxSteps:=1000000) (disch:=first|assumption|omega|rfl) only [↓gp, gc, Nat.reduceAdd, ↓vbs, hPT, heo, z52, zf52, z44, zf44, zR, zN, zm5 hA h23 hla hlb, zo8 hA h23 hla hlb, zqw hld, q06, q11, bo19, bs40, ha3]
  refine qS (is := [0, 2, 1, 3, 4, 5, 6, 7, 8, 9, 10]) (h := 0) (by kernel_rfl) (by kernel_rfl) ?_
  simp (maxSteps:=1000000) (disch:=first|assumption|omega|rfl) only [List.replicate_zero, eq_self, gd, ga, Nat.reduceAdd, ↓gq, List.append_nil, hPT, r1, r2, zrd, zqu hda hna, q18 hAu h24, q04, q0x, zz5, z0g]
  refine ⟨by kernel_rfl, ?_⟩
  simp (maxSteps:=1000000) (disch:=first|assumption|omega|rfl) only [↓gp, gc, Nat.reduceAdd, hPT, Bool.not_true]
  rw [← htk] at hO3
  exact ih (i + 1) _ S3 v' _ _ _ _ _ _ _ _ _ _ _ _ _ _ _ _ _ _ _ _ _ _ _ _ _ _ _ _ _ _ _ _ _ _ _ _ _ _ _ _ _ _ _ _ _ _ _ _ _ _ _ _ _ _ _ _ _ _ _ _ _ _ _ _ _ _ _ _ _ _ _ _ _ _ _ _ (by omega) (by omega) hAu hO3 hR
theorem steps_ok (l : List Opn) : Ev cfgT 4 [.sl (l.map encOpn)] (.ret (.d (.bool true))) := by
 refine kQ rfl rfl q0v ?_
 show Wp cfgT (Try.f4.body.getD .skip) ((.d (.sl (l.map encOpn))) :: uZ (uZ (uZ (uZ (uZ (uZ (uZ (uZ ((.tup []) :: (.tup []) :: []))))))))) [] [] _
 unfold uZ
 conv => arg 2; whnf
 have h12 : (24 : Int) ≤ 1000 := by omega
 cases hm : zfr l 24 with
 | true =>
  simp (maxSteps:=1000000) (disch:=first|assumption|omega|rfl) only [↓gp, gc, Nat.reduceAdd, hPT, zk7 h12, hm, zc5, bo16]
  exact zV rfl rfl rfl
 | false =>
 have hsc := ziz h12 hm
 have hll : l.length ≤ 24 := by
  unfold zfr at hm
  rw [Bool.or_eq_false_iff] at hm
  have := of_decide_eq_false hm.1
  omega
 have hs : ∀ o ∈ l, o.a.length < 900000 ∧ o.b.length < 900000 ∧ o.data.length < 900000 := fun o ho => ⟨by have := hsc.a o ho; omega, by have := hsc.b o ho; omega, by have := hsc.data o ho; omega⟩
 have hA := At.play (l := l) (by omega)
 simp (maxSteps:=1000000) (disch:=first|assumption|omega|rfl) only [↓gp, gc, Nat.reduceAdd, hPT, zk7 h12, hm, zc5, bo16, zvv, q1s, zls, zt4]
 refine zqd l hll hs _ _ _ l.length 0 newN _ _ _ _ _ _ _ _ _ _ _ _ _ _ _ _ _ _ _ _ _ _ _ _ _ _ _ _ _ _ _ _ _ _ _ _ _ _ _ _ _ _ _ _ _ _ _ _ _ _ _ _ _ _ _ _ _ _ _ _ _ _ _ _ _ _ _ _ _ _ _ _ _ _ _ _ _ _ rfl (by omega) At.new OwnS.nil ?_
 intro S v5 i' g7 g8 g9 gI gJ gF gA gB gG gH gC gD gE gK gL gO gM gN gP gQ gV gR gS gT gU gW gX gY gZ gf gg gh gi gj gk gm gn gr gz hC hH hJ hY hZ xA xB xC xD xE xF xG xH xI xJ xK xL xM xN xO xP xQ xR xS xT xU xV xW xX xY xZ g77 g78 g79 g80 g81 g82 hO
 rw [List.drop_zero, show l.foldl zhe newN = zjp l from rfl]
 have hv1 := z19 hO
 simp (maxSteps:=1000000) (disch:=first|assumption|omega|rfl) only [↓gp, gc, Nat.reduceAdd, hPT, zls, zvv, q0p, hv1, Bool.and_self, if_true]
 refine z23 (ds := [.sl (newN.map zB), .sl (l.map encOpn)]) rfl ?_ ?_ (zz1 l hll (fun o ho => ⟨(hs o ho).1, (hs o ho).2.1⟩)) fun S2 => ?_
 ·simp only [allO, zd8, z1e hO]
 ·intro i hi
  have e1 : [V.d (.sl (newN.map zB)), v5].flatMap (zZ S zO) = [] ++ (zZ S zO v5 ++ []) := rfl
  rw [e1, List.nil_append, List.append_nil] at hi
  exact zlt (n := 11) (z6p hO) i hi
 ·simp (maxSteps:=1000000) (disch:=first|assumption|omega|rfl) only [↓gp, gc, Nat.reduceAdd, hPT, q14 hA hll, zz5, q08, zgz, zc5, bo16, z6g]
  exact zV rfl rfl rfl
end Go.Proofs.Ytghllhghboaagaa
end
