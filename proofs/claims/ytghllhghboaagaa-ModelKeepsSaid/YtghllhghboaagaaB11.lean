/- The state's calls of files: write, truncate. -/
import Derived.Test.YtghllhghboaagaaB10
set_option linter.unusedVariables false
set_option linter.unusedSimpArgs false
set_option maxRecDepth 100000
set_option maxHeartbeats 4000000
set_option linter.defProp false
section
namespace Go.Proofs.Ytghllhghboaagaa
open Go.Vm
theorem zup {S : zA} {id k off : Nat} {l ys data : List UInt8} (h : S[id]? = some (.row ((l ++ ys).map fun a => .d (encU a)) 5)) (hk : l.length = k) (ho : off + data.length ≤ k) :
  copyV Try.prog S 29 29 (.rs id off (k - off)) (.d (encB data)) = some (.d (.int .i64 data.length), S.set id (.row (((l.take off ++ data ++ l.drop (off + data.length)) ++ ys).map fun a => .d (encU a)) 5)) := by
 have hl : ((l ++ ys).map fun a => V.d (encU a)).length = l.length + ys.length := by simp
 have hm : min (data.map fun b => V.d (encU b)).length (k - off) = data.length := by rw [List.length_map]; omega
 have hle : off + (k - off) ≤ l.length + ys.length := by omega
 have htk : (data.map fun b => V.d (encU b)).take data.length = data.map fun b => V.d (encU b) := List.take_of_length_le (by simp)
 have e1 : ((l ++ ys).map fun a => V.d (encU a)).take off = (l.take off).map fun a => V.d (encU a) := by rw [← List.map_take, List.take_append_of_le_length (by omega)]
 have e2 : ((l ++ ys).map fun a => V.d (encU a)).drop (off + data.length) = (l.drop (off + data.length) ++ ys).map fun a => V.d (encU a) := by rw [← List.map_drop, List.drop_append_of_le_length (by omega)]
 simp only [copyV, Try.underlying29, zsf, h, hm, hl, hle, decide_true, Bool.and_self, if_true, htk, e1, e2, ← List.map_append, List.append_assoc]
theorem zms {S : zA} {v : V} {l : List UInt8} {p : Nat} (h : SlE encU S v 5 l) (h0 : p < l.length) : ∃ id ys, v = .rs id 0 l.length ∧ S[id]? = some (.row ((l ++ ys).map fun a => .d (encU a)) 5) ∧ jM Try.prog S 29 v (some (.d (.int .i64 (p : Int)))) none = some (.rs id p (l.length - p)) := by
 rcases h with ⟨rfl, rfl⟩ | ⟨id, ys, rfl, h1⟩
 ·simp at h0
 ·refine ⟨id, ys, rfl, h1, ?_⟩
  have h3 : rowT S id 5 = true := by simp only [rowT, h1, beq_self_eq_true]
  have hb := bnd (y := l.length) (d := 0) (k := p) (by omega)
  simp only [jM, Try.underlying29, hb, z1l, h3, sz5, Bool.and_self, if_true, Nat.zero_add]
theorem zwz (S0 : zA) (a m r : Nat) (A B : Int → V) (t : List Node) (hT0 : Tree S0 a m A B t) (k0 : Nat) (hk0 : k0 < 200000) (hG : Good k0 t) (o : Opn) (hdo : o.does = 7) (hl : o.a.length < 900000) (hd : o.data.length ≤ 1024) (hr : S0[r]? = some (.row [ansV okN (.ts []) (.ts [])] 44)) :
  EvS cfgS 80 [.ref a 0 0, .d (encOpn o), .ref r 0 0] S0 (Res S0 a m r (wI t o)) := by
 have hk1 : k0 < 300000 := by omega
 refine wU rfl zxf ?_
 show Wp cfgS (Try.f80.body.getD .skip) ((.ref a 0 0) :: (.d (encOpn o)) :: (.ref r 0 0) :: uZ (uZ (uZ (uZ (uZ ((.tup []) :: [])))))) S0 [] _
 unfold uZ
 conv => arg 2; whnf
 rw [qL]
 have hT1 := hT0.keep (Keep.app (l := [Ob.row [.d (encOpn o)] 48]))
 simp (maxSteps:=1000000) (disch:=first|assumption|omega|rfl) only [↓gp, gc, Nat.reduceAdd, hPS, zT]
 generalize hq : wI t o = q
 unfold wI z3w at hq
 refine zcw hT1 hG.told hk1 hG.sm hl ?_ ?_
 ·intro h0 h2 S1 hK1
  have hkx := hG.lj.hasK (vW hG.told h0)
  rw [if_neg (by simp [h0]), if_neg h2, if_pos hdo] at hq
  obtain ⟨hsz1, hsz⟩ := z6w (x := (zE t o.a).1) hG.sm
  generalize (zE t o.a).1 = x at *
  have hxi := z11 hkx
  have hK01 := Keep.app.trans hK1
  have h4 := hK1 _ _ (jC (S := S0) (o := Ob.row [.d (encOpn o)] 48))
  have hr4 : ∀ l, rowE (S1 ++ l) S0.length 0 = some (.d (encOpn o)) := fun l => zF (qS h4)
  have hK02 := hK01.trans (Keep.app (l := [Ob.row [zD (getN t x) (A x) (B x)] 32]))
  have hT2 := hT0.keep hK02
  have h6 := jC (S := S1) (o := Ob.row [zD (getN t x) (A x) (B x)] 32)
  have hrr := hK02 _ _ hr
  by_cases c1 : o.off < 0
  ·rw [if_pos c1] at hq
   subst hq
   have h1 : (1 : Int) ≠ 0 := by omega
   simp (maxSteps:=1000000) (disch:=first|assumption|omega|rfl) only [↓gp, gc, Nat.reduceAdd, hPS, zagg, z32v, kW, kP, svz, sv, lv, zT, zQ, hr4, kB h1]
   exact ⟨rfl, Res.fail h1 hK02⟩
  rw [if_neg c1] at hq
  by_cases c2 : o.off > 34304 - (o.data.length : Int)
  ·rw [if_pos c2] at hq
   subst hq
   have h11 : (11 : Int) ≠ 0 := by omega
   simp (maxSteps:=1000000) (disch:=first|assumption|omega|rfl) only [↓gp, gc, Nat.reduceAdd, hPS, zagg, z32v, kW, kP, svz, sv, lv, zT, zQ, hr4, lenB, jK, kB h11]
   exact ⟨rfl, Res.fail h11 hK02⟩
  rw [if_neg c2] at hq
  by_cases c3 : o.data.length = 0
  ·rw [if_pos c3] at hq
   subst hq
   have c3' : (o.data.length : Int) = 0 := by omega
   simp (maxSteps:=1000000) (disch:=first|assumption|omega|rfl) only [↓gp, gc, Nat.reduceAdd, hPS, zagg, z32v, kW, kP, svz, sv, lv, zT, zQ, hr4, lenB, jK]
   exact ⟨rfl, _, rfl, Res.done (v5 := .ts []) (v6 := .ts []) rfl hT2 hrr vZ (.inl ⟨rfl, rfl⟩) hK02.toR⟩
  rw [if_neg c3] at hq
  have c3' : ¬ (o.data.length : Int) = 0 := by omega
  have hlen := (hT2.st.da x trivial).len (t := 29) Try.underlying29
  obtain ⟨p, hp⟩ : ∃ p : Nat, o.off = p := ⟨o.off.toNat, by omega⟩
  obtain ⟨k, hk⟩ : ∃ k : Nat, (if (p : Int) + (o.data.length : Int) > ((getN t x).data.length : Int) then (p : Int) + (o.data.length : Int) else ((getN t x).data.length : Int)) = k := by
   refine ⟨(if (p : Int) + (o.data.length : Int) > ((getN t x).data.length : Int) then (p : Int) + (o.data.length : Int) else ((getN t x).data.length : Int)).toNat, ?_⟩
   split <;> omega
  have hk1 : p + o.data.length ≤ k := by split at hk <;> omega
  have hk2 : k ≤ 34304 := by split at hk <;> omega
  have hkW : z7g (getN t x) o = k := by
   unfold z7g
   rw [hp, hsz1, ← hk]
   split <;> split <;> omega
  have c2' : ¬ (p : Int) > 34304 - (o.data.length : Int) := by omega
  have c1' : ¬ (p : Int) < 0 := by omega
  simp (maxSteps:=1000000) (disch:=first|assumption|omega|rfl) only [↓gp, gc, Nat.reduceAdd, hPS, zagg, z32v, kW, kP, svz, sv, lv, zT, zQ, hr4, lenB, jK, hp, lv5, hlen, zt8 hk]
  have h42 := qS (l := [Ob.row [zD (getN t x) (A x) (B x)] 32]) h4
  have hlt : S0.length ≤ S1.length := hK01.len
  generalize hS2 : S1 ++ [Ob.row [zD (getN t x) (A x) (B x)] 32] = S2 at *
  have hlt2 : S1.length < S2.length := qM h6
  refine jG rfl (zq9 S2 (getN t x) (A x) (B x) (hT2.st.da x trivial) (hT2.st.na x trivial) hsz k hk2) ?_ ?_
  ·rintro v S3 ⟨v', hv, hv', hf3, hi3, hS3⟩
   cases hv
   have notA : ∀ (j : Nat) (ys : List V) (e : TypeId), e ≠ 5 → S2[j]? = some (.row ys e) → idOf (A x) ≠ some j := fun j ys e he hj hh => by
    obtain ⟨zs, q⟩ := (hT2.st.da x trivial).row hh
    rw [hj] at q; cases q; exact he rfl
   have h63 := hf3 _ _ h6 (notA _ _ _ (by decide) h6)
   have h43 := hf3 _ _ h42 (notA _ _ _ (by decide) h42)
   have hrr3 := hf3 _ _ hrr (notA _ _ _ (by decide) hrr)
   have hr63 := zF h63
   have hpr63 := fun y => qB (y := y) h63
   simp (maxSteps:=1000000) (disch:=first|assumption|omega|rfl) only [↓gp, gc, Nat.reduceAdd, hPS, hr63, hpr63, sv]
   have h64 : (S3.set S1.length (.row [zD { getN t x with size := (k : Int) } v' (B x)] 32))[S1.length]? = some (.row [zD { getN t x with size := (k : Int) } v' (B x)] 32) := jL h63
   have ne5 : ∀ (j : Nat) (ys : List V), S3[j]? = some (.row ys 5) → j ≠ S1.length := fun j ys hj => by
    rintro rfl
    rw [h63] at hj; cases hj
   have hne : S0.length ≠ S1.length := by
    have h1 := hK1.len
    rw [List.length_append, List.length_singleton] at h1
    omega
   have h44 : (S3.set S1.length (.row [zD { getN t x with size := (k : Int) } v' (B x)] 32))[S0.length]? = some (.row [.d (encOpn o)] 48) := by rw [List.getElem?_set_ne (Ne.symm hne)]; exact h43
   have hrr4 : (S3.set S1.length (.row [zD { getN t x with size := (k : Int) } v' (B x)] 32))[r]? = some (.row [ansV okN (.ts []) (.ts [])] 44) := by
    rw [List.getElem?_set_ne]
    ·exact hrr3
    ·rintro rfl
     have q := h63.symm.trans hrr3
     simp only [Option.some.injEq, Ob.row.injEq] at q
     exact absurd q.2 (by decide)
   have hf4 : ∀ (j : Nat) (q : Ob), S0[j]? = some q → idOf (A x) ≠ some j → (S3.set S1.length (.row [zD { getN t x with size := (k : Int) } v' (B x)] 32))[j]? = some q := fun j q hj hn => by
    have := qM hj
    rw [List.getElem?_set_ne (by omega)]
    exact hf3 j q (hK02 j q hj) hn
   have hv4 : SlE encU (S3.set S1.length (.row [zD { getN t x with size := (k : Int) } v' (B x)] 32)) v' 5 (sizedB (getN t x).data k) := hv'.frame2 fun j q hj hi => by
    obtain ⟨ys, hq⟩ := hv'.row hi
    rw [List.getElem?_set_ne (Ne.symm (ne5 j ys hq))]; exact hj
   generalize S3.set S1.length (.row [zD { getN t x with size := (k : Int) } v' (B x)] 32) = S4 at *
   have hr64 := zF h64
   have hr44 := zF h44
   obtain ⟨id, ys, hvr, hrow, hsl⟩ := zms (p := p) hv4 (by rw [z4v]; omega)
   rw [z4v] at hsl hvr
   have hcp := zup (data := o.data) (off := p) hrow z4v hk1
   refine vM (is := [0, 1, 2, 3, 4, 5, 6, 7]) (h := 0) (by kernel_rfl) (by kernel_rfl) ?_
   simp (maxSteps:=1000000) (disch:=first|assumption|omega|rfl) only [List.replicate_zero, eq_self, gw, ga, Nat.reduceAdd, ↓gq, hPS, List.append_nil, hr64, hr44, lv5, hp, hsl, zg1, hcp, Option.map_some, Option.map_none]
   refine ⟨zH (by kernel_rfl) (zH (by kernel_rfl) (zH (by kernel_rfl) (zH (by kernel_rfl) qW))), by kernel_rfl, ?_⟩
   have hid := qM hrow
   have hnid : ∀ (j : Nat) (zs : List V) (e : TypeId), e ≠ 5 → S4[j]? = some (.row zs e) → (S4.set id (.row (((sizedB (getN t x).data k).take p ++ o.data ++ (sizedB (getN t x).data k).drop (p + o.data.length) ++ ys).map fun a => .d (encU a)) 5))[j]? = some (.row zs e) := fun j zs e he hj => by
    rw [List.getElem?_set_ne]
    ·exact hj
    ·rintro rfl
     rw [hrow] at hj
     simp only [Option.some.injEq, Ob.row.injEq] at hj
     exact he hj.2.symm
   have hdata : (z3u (getN t x) o).data = (sizedB (getN t x).data k).take p ++ o.data ++ (sizedB (getN t x).data k).drop (p + o.data.length) := by
    show layN (layN (List.replicate (z7g (getN t x) o).toNat 0) 0 (getN t x).data) o.off o.data = _
    rw [hkW, Int.toNat_natCast, zfi, hp, zzd _ _ _ (by rw [z4v]; exact hk1)]
   have hdl : (z3u (getN t x) o).data.length = k := by
    show (layN (layN (List.replicate (z7g (getN t x) o).toNat 0) 0 (getN t x).data) o.off o.data).length = _
    rw [z3d, z3d, List.length_replicate, hkW, Int.toNat_natCast]
   have h65 := hnid _ _ _ (by decide) h64
   have hrr5 := hnid _ _ _ (by decide) hrr4
   have hf5 : ∀ (j : Nat) (q : Ob), S0[j]? = some q → idOf (A x) ≠ some j → (S4.set id (.row (((sizedB (getN t x).data k).take p ++ o.data ++ (sizedB (getN t x).data k).drop (p + o.data.length) ++ ys).map fun a => .d (encU a)) 5))[j]? = some q := fun j q hj hn => by
    have hjl := qM hj
    rw [List.getElem?_set_ne]
    ·exact hf4 j q hj hn
    ·rintro rfl
     rcases hi3 id (by rw [hvr]; rfl) with h | h
     ·exact hn h
     ·omega
   have hv5 : SlE encU (S4.set id (.row (((sizedB (getN t x).data k).take p ++ o.data ++ (sizedB (getN t x).data k).drop (p + o.data.length) ++ ys).map fun a => .d (encU a)) 5)) v' 5 (z3u (getN t x) o).data := .inr ⟨id, ys, by rw [hdl]; exact hvr, by rw [List.getElem?_set_self hid, hdata]⟩
   generalize S4.set id (.row (((sizedB (getN t x).data k).take p ++ o.data ++ (sizedB (getN t x).data k).drop (p + o.data.length) ++ ys).map fun a => .d (encU a)) 5) = S5 at *
   have hnW : zD { getN t x with size := (k : Int) } v' (B x) = zD (z3u (getN t x) o) v' (B x) := by
    unfold zD z3u
    rw [hkW]
   rw [hnW] at h65
   obtain ⟨o7, hup, hT6, hK6, hc5⟩ := hT0.renewK (x := x) (n := z3u (getN t x) o) (p := v') (q := B x) (S' := S5) hG.lj.srt hxi (fun j q hj hn _ => hf5 j q hj hn) hv5
    ((hT0.st.na x trivial).frame2 fun j q hj hi => hf5 j q hj (fun hh => hT0.st.apart x x j hh hi))
    (fun i hi => (hi3 i hi).elim .inl (fun h => .inr (by omega))) (fun i hi => .inl hi)
   have hra5 := zF hc5
   have hr65 := zF h65
   have hwi : (z3u (getN t x) o).ino = x := hxi
   simp (maxSteps:=1000000) (disch:=first|assumption|omega|rfl) only [↓gp, gc, Nat.reduceAdd, hPS]
   refine qT (is := [0, 1, 2, 3, 4, 5, 6, 7]) (h := 0) (by kernel_rfl) (by kernel_rfl) ?_
   simp (maxSteps:=1000000) (disch:=first|assumption|omega|rfl) only [List.replicate_zero, eq_self, gd, ga, Nat.reduceAdd, ↓gq, hPS, List.append_nil, qK, qF, jE, vK, vC, hra5, hr65, lv, lv0, hwi, hup, Option.map_some]
   refine ⟨fun _ => by kernel_rfl, ?_⟩
   refine ⟨by kernel_rfl, ?_⟩
   subst hq
   simp (maxSteps:=1000000) (disch:=first|assumption|omega|rfl) only [↓gp, gc, Nat.reduceAdd, hPS]
   exact ⟨rfl, _, rfl, Res.done (v5 := .ts []) (v6 := .ts []) rfl hT6 (hK6 _ _ _ hrr5) vZ (.inl ⟨rfl, rfl⟩) (fun j ys e he _ hj => hK6 _ _ _ (hf5 j _ hj (fun hh => by obtain ⟨zs, q⟩ := (hT0.st.da x trivial).row hh; rw [hj] at q; cases q; rcases he with he | he <;> exact absurd he (by decide))))⟩
  ·rintro v S3 ⟨v', hv, _⟩
   cases hv
 ·rintro e (⟨h0, rfl⟩ | ⟨h0, h2, rfl⟩) S1 hK1
  ·rw [if_pos h0] at hq
   subst hq
   exact ⟨rfl, Res.fail h0 (Keep.app.trans hK1)⟩
  ·rw [if_neg (by simp [h0]), if_pos h2] at hq
   subst hq
   exact ⟨rfl, Res.fail (by omega) (Keep.app.trans hK1)⟩
theorem z8v {C : Cfg} {ops : Array Oper} {base : Nat} {K : Ws → List (Nat × Nat) → List V → zA → Prop} {ws : Ws} {cs : List (Nat × Nat)} {i : Nat} {dst : Option Tmp} {T : List V} {S : zA} {f : FuncId} {args : List V} {R : Out → zA → Prop} (hs : C.shared f = true) (he : EvS C f args S R)
  (hk : ∀ v S', R (.ret v) S' → WAll C ops base ws i S' ∧ K ws (cs ++ [(i, 3)]) (putT T dst v) S') (hp : ∀ v S', ¬ R (.pan v) S') : WpEw C ops base K ws cs i dst T S (some (.enter f args)) := by
 obtain ⟨n, out, S', hn, hR⟩ := he
 have hc : jW C (run C n) f args S = some (out, S', 3) := by
  unfold jW
  simp only [hs, if_true, hn, Option.map_some]
 cases out with
 | ret v =>
  obtain ⟨h1, h2⟩ := hk v S' hR
  exact ⟨n, v, S', 3, hc, fun _ => h1, by simpa [num2] using h2⟩
 | pan v => exact absurd hR (hp v S')
theorem zog {m : Nat} : z3q (.mr m) (.mr m) = true := by simp [z3q, wP, wQ]
theorem zl4 (S0 : zA) (a m r : Nat) (A B : Int → V) (t : List Node) (hT0 : Tree S0 a m A B t) (k0 : Nat) (hk0 : k0 < 200000) (hG : Good k0 t) (o : Opn) (hdo : o.does = 9) (hl : o.a.length < 900000) (hr : S0[r]? = some (.row [ansV okN (.ts []) (.ts [])] 44)) :
  EvS cfgS 82 [.ref a 0 0, .d (encOpn o), .ref r 0 0] S0 (Res S0 a m r (wI t o)) := by
 have hk1 : k0 < 300000 := by omega
 refine wU rfl zy4 ?_
 show Wp cfgS (Try.f82.body.getD .skip) ((.ref a 0 0) :: (.d (encOpn o)) :: (.ref r 0 0) :: uZ (uZ ((.tup []) :: (.tup []) :: (.tup []) :: (.tup []) :: (.tup []) :: (.tup []) :: []))) S0 [] _
 unfold uZ
 conv => arg 2; whnf
 rw [qL]
 have hT1 := hT0.keep (Keep.app (l := [Ob.row [.d (encOpn o)] 48]))
 simp (maxSteps:=1000000) (disch:=first|assumption|omega|rfl) only [↓gp, gc, Nat.reduceAdd, hPS, zT]
 generalize hq : wI t o = q
 unfold wI z3w at hq
 refine zcw hT1 hG.told hk1 hG.sm hl ?_ ?_
 ·intro h0 h2 S1 hK1
  have hkx := hG.lj.hasK (vW hG.told h0)
  rw [if_neg (by simp [h0]), if_neg h2, if_neg (by omega), if_neg (by omega)] at hq
  obtain ⟨hsz1, hsz⟩ := z6w (x := (zE t o.a).1) hG.sm
  generalize (zE t o.a).1 = x at *
  have hxi := z11 hkx
  have hK01 := Keep.app.trans hK1
  have h4 := hK1 _ _ (jC (S := S0) (o := Ob.row [.d (encOpn o)] 48))
  have hr4 : ∀ l, rowE (S1 ++ l) S0.length 0 = some (.d (encOpn o)) := fun l => zF (qS h4)
  have hK02 := hK01.trans (Keep.app (l := [Ob.row [zD (getN t x) (A x) (B x)] 32]))
  have hT2 := hT0.keep hK02
  have h6 := jC (S := S1) (o := Ob.row [zD (getN t x) (A x) (B x)] 32)
  have hrr := hK02 _ _ hr
  by_cases c1 : o.n < 0
  ·rw [if_pos c1] at hq
   subst hq
   have h1 : (1 : Int) ≠ 0 := by omega
   simp (maxSteps:=1000000) (disch:=first|assumption|omega|rfl) only [↓gp, gc, Nat.reduceAdd, hPS, zagg, z32v, kW, kP, svz, sv, lv, zT, zQ, hr4, kB h1]
   exact ⟨rfl, Res.fail h1 hK02⟩
  rw [if_neg c1] at hq
  by_cases c2 : o.n > 34304
  ·rw [if_pos c2] at hq
   subst hq
   have h11 : (11 : Int) ≠ 0 := by omega
   simp (maxSteps:=1000000) (disch:=first|assumption|omega|rfl) only [↓gp, gc, Nat.reduceAdd, hPS, zagg, z32v, kW, kP, svz, sv, lv, zT, zQ, hr4, jK, kB h11]
   exact ⟨rfl, Res.fail h11 hK02⟩
  rw [if_neg c2] at hq
  obtain ⟨k, hp⟩ : ∃ k : Nat, o.n = k := ⟨o.n.toNat, by omega⟩
  have hk2 : k ≤ 34304 := by omega
  have c1' : ¬ (k : Int) < 0 := by omega
  have c2' : ¬ (k : Int) > 34304 := by omega
  simp (maxSteps:=1000000) (disch:=first|assumption|omega|rfl) only [↓gp, gc, Nat.reduceAdd, hPS, zagg, z32v, kW, kP, svz, sv, lv, zT, zQ, hr4, jK, hp]
  have h42 := qS (l := [Ob.row [zD (getN t x) (A x) (B x)] 32]) h4
  have hlt : S0.length ≤ S1.length := hK01.len
  generalize hS2 : S1 ++ [Ob.row [zD (getN t x) (A x) (B x)] 32] = S2 at *
  have hlt2 : S1.length < S2.length := qM h6
  have hra2 := hT2.row
  have hr62 := zF h6
  have hr42 := zF h42
  refine vM (is := [0, 1, 2, 3, 4, 5, 6, 7, 8, 9, 10]) (h := 0) (by kernel_rfl) (by kernel_rfl) ?_
  simp (maxSteps:=1000000) (disch:=first|assumption|omega|rfl) only [List.replicate_zero, eq_self, gw, ga, Nat.reduceAdd, ↓gq, hPS, List.append_nil, qK, qF, vK, vC, hra2, hr62, hr42, lv, lv0, hxi, hp]
  refine z8v rfl (zq9 S2 (getN t x) (A x) (B x) (hT2.st.da x trivial) (hT2.st.na x trivial) hsz k hk2) ?_ ?_
  ·rintro v S3 ⟨v', hv, hv', hf3, hi3, hS3⟩
   cases hv
   have notA : ∀ (j : Nat) (ys : List V) (e : TypeId), e ≠ 5 → S2[j]? = some (.row ys e) → idOf (A x) ≠ some j := fun j ys e he hj hh => by
    obtain ⟨zs, q⟩ := (hT2.st.da x trivial).row hh
    rw [hj] at q; cases q; exact he rfl
   have h63 := hf3 _ _ h6 (notA _ _ _ (by decide) h6)
   have hrr3 := hf3 _ _ hrr (notA _ _ _ (by decide) hrr)
   have hnW : zD { getN t x with size := (k : Int) } v' (B x) = zD (cutN (getN t x) o.n) v' (B x) := by
    unfold zD cutN
    rw [hp]
   have hv5 : SlE encU S3 v' 5 (cutN (getN t x) o.n).data := by
    show SlE encU S3 v' 5 (layN (List.replicate o.n.toNat 0) 0 (getN t x).data)
    rw [hp, Int.toNat_natCast, zfi]
    exact hv'
   obtain ⟨o7, hup, hT6, hK6, hc5⟩ := hT0.renewK (x := x) (n := cutN (getN t x) o.n) (p := v') (q := B x) (S' := S3) hG.lj.srt hxi (fun j q hj hn _ => hf3 j q (hK02 j q hj) hn) hv5
    ((hT0.st.na x trivial).frame2 fun j q hj hi => hf3 j q (hK02 j q hj) (fun hh => hT0.st.apart x x j hh hi))
    (fun i hi => (hi3 i hi).elim .inl (fun h => .inr (by omega))) (fun i hi => .inl hi)
   have hld3 : jZ Try.prog S3 125 (.ref a 0 0) = some (.mr m) := (jU (zF hc5)).trans vC
   have hld5 : jZ Try.prog S3 3 (.ref S1.length 0 0) = some (.d (.int .i64 x)) := (jU (zF h63)).trans (by rw [lv0, hxi])
   refine ⟨zH (by kernel_rfl) (zH (by kernel_rfl) (jV rfl (by kernel_rfl) rfl ?_ vS (jV rfl (by kernel_rfl) rfl ?_ zog qW))), ?_⟩
   ·exact (show _ = (jZ Try.prog _ 3 (.ref S1.length 0 0)).map (fun v => Rs.val v _ 1) from rfl).trans (by rw [hld5]; rfl)
   ·exact (show _ = (jZ Try.prog _ 125 (.ref a 0 0)).map (fun v => Rs.val v _ 1) from rfl).trans (by rw [hld3]; rfl)
   rw [hnW]
   simp (maxSteps:=1000000) (disch:=first|assumption|omega|rfl) only [List.replicate_zero, eq_self, gw, ga, Nat.reduceAdd, ↓gq, hPS, List.append_nil, jE, hup, Option.map_some]
   refine ⟨zH (by kernel_rfl) (zH (by kernel_rfl) (zH (by kernel_rfl) (zH (by kernel_rfl) qW))), by kernel_rfl, ?_⟩
   subst hq
   simp (maxSteps:=1000000) (disch:=first|assumption|omega|rfl) only [↓gp, gc, Nat.reduceAdd, hPS]
   exact ⟨rfl, _, rfl, Res.done (v5 := .ts []) (v6 := .ts []) rfl hT6 (hK6 _ _ _ hrr3) vZ (.inl ⟨rfl, rfl⟩) (fun j ys e he _ hj => hK6 _ _ _ (hf3 j _ (hK02 j _ hj) (notA _ _ _ (by rcases he with rfl | rfl <;> decide) (hK02 j _ hj))))⟩
  ·rintro v S3 ⟨v', hv, _⟩
   cases hv
 ·rintro e (⟨h0, rfl⟩ | ⟨h0, h2, rfl⟩) S1 hK1
  ·rw [if_pos h0] at hq
   subst hq
   exact ⟨rfl, Res.fail h0 (Keep.app.trans hK1)⟩
  ·rw [if_neg (by simp [h0]), if_pos h2] at hq
   subst hq
   exact ⟨rfl, Res.fail (by omega) (Keep.app.trans hK1)⟩
section
variable {x : Ans} {v5 v6 v : V} {y : Int}
theorem av2 : qX Try.prog 3 2 (.d (.int .i64 y)) (ansV x v5 v6) = some (ansV { x with kind := y } v5 v6) := by kernel_rfl
theorem av3 : qX Try.prog 3 3 (.d (.int .i64 y)) (ansV x v5 v6) = some (ansV { x with links := y } v5 v6) := by kernel_rfl
theorem av4 : qX Try.prog 3 4 (.d (.int .i64 y)) (ansV x v5 v6) = some (ansV { x with size := y } v5 v6) := by kernel_rfl
theorem av6 (h1 : qH Try.prog 42 v = true) (h2 : v.cells = [v]) : qX Try.prog 42 6 v (ansV x v5 v6) = some (ansV x v5 v) := zte h1 h2
theorem al6 : kS Try.prog 42 6 (some (ansV x v5 v6)) = some v6 := by kernel_rfl
end
theorem zxu (S0 : zA) (a m r : Nat) (A B : Int → V) (t : List Node) (hT0 : Tree S0 a m A B t) (k0 : Nat) (hk0 : k0 < 200000) (hG : Good k0 t) (o : Opn) (hdo : o.does = 12) (hl : o.a.length < 900000) (hr : S0[r]? = some (.row [ansV okN (.ts []) (.ts [])] 44)) :
  EvS cfgS 85 [.ref a 0 0, .d (encOpn o), .ref r 0 0] S0 (Res S0 a m r (t, z1j t o)) := by
 have hk1 : k0 < 300000 := by omega
 refine wU rfl zzi ?_
 show Wp cfgS (Try.f85.body.getD .skip) ((.ref a 0 0) :: (.d (encOpn o)) :: (.ref r 0 0) :: (.tup []) :: (.tup []) :: (.tup []) :: (.tup []) :: (.tup []) :: (.tup []) :: (.tup []) :: []) S0 [] _
 conv => arg 2; whnf
 rw [qL]
 have hT1 := hT0.keep (Keep.app (l := [Ob.row [.d (encOpn o)] 48]))
 simp (maxSteps:=1000000) (disch:=first|assumption|omega|rfl) only [↓gp, gc, Nat.reduceAdd, hPS, zT]
 refine z9s rfl (zps _ a m hT1 hG.told k0 hk1 hG.sm o.a hl) ?_ ?_
 ·intro h0 S1 hK1
  have e : z1j t o = okN := by unfold z1j zjz; rw [if_neg (by simp [h0]), if_neg (by omega), if_pos hdo]
  rw [e]
  simp (maxSteps:=1000000) (disch:=first|assumption|omega|rfl) only [↓gp, gc, Nat.reduceAdd, hPS]
  exact ⟨rfl, _, rfl, Res.done (v5 := .ts []) (v6 := .ts []) rfl (hT1.keep hK1) ((Keep.app.trans hK1) _ _ hr) vZ (.inl ⟨rfl, rfl⟩) (Keep.app.trans hK1).toR⟩
 ·intro h0 S1 hK1
  have e : z1j t o = qV (zE t o.a).2 := by unfold z1j; rw [if_pos h0]
  rw [e]
  exact ⟨rfl, Res.fail h0 (Keep.app.trans hK1)⟩
theorem q13 (S0 : zA) (a m r : Nat) (A B : Int → V) (t : List Node) (hT0 : Tree S0 a m A B t) (k0 : Nat) (hk0 : k0 < 200000) (hG : Good k0 t) (o : Opn) (hdo : o.does = 11) (hl : o.a.length < 900000) (hr : S0[r]? = some (.row [ansV okN (.ts []) (.ts [])] 44)) :
  EvS cfgS 84 [.ref a 0 0, .d (encOpn o), .ref r 0 0] S0 (Res S0 a m r (t, z1j t o)) := by
 have hk1 : k0 < 300000 := by omega
 refine wU rfl q0d ?_
 show Wp cfgS (Try.f84.body.getD .skip) ((.ref a 0 0) :: (.d (encOpn o)) :: (.ref r 0 0) :: uZ (uZ ((.tup []) :: (.tup []) :: (.tup []) :: (.tup []) :: (.tup []) :: (.tup []) :: (.tup []) :: (.tup []) :: []))) S0 [] _
 unfold uZ
 conv => arg 2; whnf
 rw [qL]
 have hT1 := hT0.keep (Keep.app (l := [Ob.row [.d (encOpn o)] 48]))
 simp (maxSteps:=1000000) (disch:=first|assumption|omega|rfl) only [↓gp, gc, Nat.reduceAdd, hPS, zT]
 refine z9s rfl (zps _ a m hT1 hG.told k0 hk1 hG.sm o.a hl) ?_ ?_
 ·intro h0 S1 hK1
  have e : z1j t o = ⟨0, (zE t o.a).1, (getN t (zE t o.a).1).kind, (getN t (zE t o.a).1).links, (getN t (zE t o.a).1).size, [], []⟩ := by unfold z1j zjz; rw [if_neg (by simp [h0]), if_pos hdo]
  have hkx := hG.lj.hasK (vW hG.told h0)
  rw [e]
  generalize (zE t o.a).1 = x at *
  have hxi := z11 hkx
  have hK02 := (Keep.app.trans hK1).trans (Keep.app (l := [Ob.row [zD (getN t x) (A x) (B x)] 32]))
  have hT2 := hT0.keep hK02
  have hrr := hK02 _ _ hr
  have h6 := jC (S := S1) (o := Ob.row [zD (getN t x) (A x) (B x)] 32)
  simp (maxSteps:=1000000) (disch:=first|assumption|omega|rfl) only [↓gp, gc, Nat.reduceAdd, hPS, zagg, z32v, kW, kP, svz, sv, lv, zT, zQ]
  generalize S1 ++ [Ob.row [zD (getN t x) (A x) (B x)] 32] = S2 at *
  have hne : r ≠ S1.length := by
   rintro rfl
   have q := h6.symm.trans hrr
   simp only [Option.some.injEq, Ob.row.injEq] at q
   exact absurd q.2 (by decide)
  have hr6 := zF h6
  have hrv := zF hrr
  have hpr := fun y => qB (y := y) hrr
  have hrv2 : ∀ y, rowE (S2.set r (.row [y] 44)) r 0 = some y := fun y => zF (jL hrr)
  have hpr2 : ∀ y z, z22 (S2.set r (.row [y] 44)) r 0 z = some (S2.set r (.row [z] 44)) := fun y z => by
   rw [qB (y := z) (jL hrr), List.set_set]
  have hr62 : ∀ y, rowE (S2.set r (.row [y] 44)) S1.length 0 = some (zD (getN t x) (A x) (B x)) := fun y => zF (by rw [List.getElem?_set_ne hne]; exact h6)
  have hl1 : ∀ y, jZ Try.prog (S2.set r (.row [y] 44)) 3 (.ref S1.length 0 1) = some (.d (.int .i64 (getN t x).kind)) := fun y => (jU (hr62 y)).trans lv1
  have hl2 : ∀ y, jZ Try.prog (S2.set r (.row [y] 44)) 3 (.ref S1.length 0 2) = some (.d (.int .i64 (getN t x).links)) := fun y => (jU (hr62 y)).trans lv2
  have hl4 : ∀ y, jZ Try.prog (S2.set r (.row [y] 44)) 3 (.ref S1.length 0 4) = some (.d (.int .i64 (getN t x).size)) := fun y => (jU (hr62 y)).trans lv4
  refine vM (is := [0, 1, 2, 3, 4, 5, 6, 7, 8, 9, 10, 11, 12, 13, 14, 15, 16, 17, 18, 19, 20, 21, 22, 23]) (h := 0) (by kernel_rfl) (by kernel_rfl) ?_
  simp (maxSteps:=1000000) (disch:=first|assumption|omega|rfl) only [List.replicate_zero, eq_self, gw, ga, Nat.reduceAdd, ↓gq, hPS, List.append_nil, qK, qF, hr6, hrv, hpr, hrv2, hpr2, hr62, lv0, lv1, lv2, lv4, hxi, av1, av2, av3, av4]
  have rd1 : ∀ y (f : Nat) (k : Int), jZ Try.prog (S2.set r (.row [y] 44)) 3 (.ref S1.length 0 f) = some (.d (.int .i64 k)) → (jZ Try.prog (S2.set r (.row [y] 44)) 3 (.ref S1.length 0 f)).map (fun v => Rs.val v (S2.set r (.row [y] 44)) 1) = some (.val (.d (.int .i64 k)) (S2.set r (.row [y] 44)) 1) := fun y f k h => by rw [h]; rfl
  refine ⟨jV rfl (by kernel_rfl) rfl (rd1 _ 4 _ (hl4 _)) vS (jV rfl (by kernel_rfl) rfl (rd1 _ 2 _ (hl2 _)) vS (jV rfl (by kernel_rfl) rfl (rd1 _ 1 _ (hl1 _)) vS (zH (by kernel_rfl) qW))), ?_⟩
  refine ⟨jV rfl (by kernel_rfl) rfl (rd1 _ 4 _ (hl4 _)) vS (jV rfl (by kernel_rfl) rfl (rd1 _ 2 _ (hl2 _)) vS (zH (by kernel_rfl) (zH (by kernel_rfl) qW))), ?_⟩
  refine ⟨jV rfl (by kernel_rfl) rfl (rd1 _ 4 _ (hl4 _)) vS (zH (by kernel_rfl) (zH (by kernel_rfl) (zH (by kernel_rfl) qW))), ?_⟩
  refine ⟨zH (by kernel_rfl) (zH (by kernel_rfl) (zH (by kernel_rfl) (zH (by kernel_rfl) qW))), by kernel_rfl, ?_⟩
  simp (maxSteps:=1000000) (disch:=first|assumption|omega|rfl) only [↓gp, gc, Nat.reduceAdd, hPS]
  exact ⟨rfl, _, rfl, Res.done (v5 := .ts []) (v6 := .ts []) rfl (hT2.other hrr (by decide) (by decide) (by decide)) (jL hrr) vZ (.inl ⟨rfl, rfl⟩) (hK02.toR.setR)⟩
 ·intro h0 S1 hK1
  have e : z1j t o = qV (zE t o.a).2 := by unfold z1j; rw [if_pos h0]
  rw [e]
  exact ⟨rfl, Res.fail h0 (Keep.app.trans hK1)⟩
theorem Tree.frameT {S S' : zA} {a m : Nat} {A B : Int → V} {t : List Node} (h : Tree S a m A B t) (hf : ∀ (j : Nat) (o : Ob), S[j]? = some o → ((∃ ys, o = .row ys 5) ∨ (∃ ys, o = .row ys 88) ∨ (∃ ys, o = .row ys 127) ∨ ∃ L c, o = .mp L c) → S'[j]? = some o) : Tree S' a m A B t := by
 obtain ⟨L, c, hm, hrest⟩ := h.st.mp
 refine ⟨hf _ _ h.cell (.inr (.inr (.inl ⟨_, rfl⟩))), ⟨L, c, hf _ _ hm (.inr (.inr (.inr ⟨_, _, rfl⟩))), hrest⟩, fun x hx => (h.st.da x hx).frame2 fun j q hq hi => ?_, fun x hx => (h.st.na x hx).frame2 fun j q hq hi => ?_, h.st.z, h.st.sa, h.st.sb⟩
 ·obtain ⟨ys, e⟩ := (h.st.da x hx).row hi
  rw [e] at hq; cases hq
  exact hf _ _ e (.inl ⟨_, rfl⟩)
 ·obtain ⟨ys, e⟩ := (h.st.na x hx).row hi
  rw [e] at hq; cases hq
  exact hf _ _ e (.inr (.inl ⟨_, rfl⟩))
theorem zsx {α : Type} {enc : α → D} {t e : TypeId} {S : zA} {v : V} {l : List α} {a : α} (hu : Try.prog.underlying t = some (.slice e)) (hz : zOk Try.prog e = true) (hs : (sz Try.prog e).isSome = true) (hf : qH Try.prog e (.d (enc a)) = true) (hr : room Try.prog e (l.length + 1) = true) (h : SlE enc S v e l) :
  ∃ v' S' c, qI Try.prog S t t v (.ts [enc a]) = some (v', S', c) ∧ (c = 2 ∨ c = 3) ∧ SlE enc S' v' e (l ++ [a]) ∧ (∀ (j : Nat) (o : Ob), S[j]? = some o → idOf v ≠ some j → S'[j]? = some o) ∧ idOf v' = some S.length ∧ S.length ≤ S'.length := by
 have src1 : srcV Try.prog S e t (.ts [enc a]) = some [.d (enc a)] := by
  simp only [srcV, hu, wH, List.map_cons, List.map_nil, List.all_cons, List.all_nil, hf, hs, Bool.and_self, if_true]
 rcases h with ⟨rfl, rfl⟩ | ⟨id, ys, rfl, h1⟩
 ·refine ⟨.rs S.length 0 1, S ++ [.row [.d (enc a)] e], 2, ?_, .inl rfl, .inr ⟨S.length, [], rfl, by simp⟩, fun j o hj _ => Keep.app _ _ hj, rfl, by simp⟩
  have hr' : room Try.prog e (0 + (0 + 1)) = true := by simpa using hr
  simp only [qI, hu, src1, hz, if_true, List.all_nil, List.length_nil, hr', Bool.and_self, List.map_nil, List.nil_append]
 ·have hid := qM h1
  have htk : ((l ++ ys).map fun a => V.d (enc a)).take l.length = l.map fun a => V.d (enc a) := by rw [← List.map_take, List.take_append_of_le_length (Nat.le_refl _), List.take_length]
  refine ⟨.rs S.length 0 (l.length + 1), S.set id .dead ++ [.row (l.map (fun a => V.d (enc a)) ++ [.d (enc a)]) e], 3, ?_, .inr rfl, .inr ⟨S.length, [], by simp, ?_⟩, ?_, rfl, by simp⟩
  ·have hlen : ((l ++ ys).map fun a => V.d (enc a)).length = l.length + ys.length := by simp
   have h2 : l.length ≤ l.length + ys.length := by omega
   have hr' : room Try.prog e (l.length + (0 + 1)) = true := by simpa using hr
   simp only [qI, hu, src1, hz, if_true, h1, hlen, hr', h2, htk, List.length_nil, decide_true, Bool.and_self, Nat.zero_add]
  ·rw [List.getElem?_append_right (by simp)]
   simp
  ·intro j o hj hn
   have hjl := qM hj
   rw [List.getElem?_append_left (by simpa using hjl), List.getElem?_set_ne]
   ·exact hj
   ·rintro rfl; exact hn rfl
theorem se88 {e : Ent} {x0 x1 : V} : qX Try.prog 88 0 (.d (zJ e)) (.agg [x0, x1]) = some (.d (zJ e)) := by kernel_rfl
theorem le88 {e : Ent} : kS Try.prog 88 0 (some (.d (zJ e))) = some (.d (zJ e)) := by kernel_rfl
theorem q0t {S : zA} {v : V} {l : List (List UInt8)} (h : SlE encS S v 9 l) : qH Try.prog 42 v = true := by
 rcases h with ⟨rfl, _⟩ | ⟨id, ys, rfl, _⟩ <;> kernel_rfl
theorem zwr (S0 : zA) (a m r : Nat) (A B : Int → V) (t : List Node) (n : Node) (vb : V) (hnl : n.names.length < 900000) (R : Post) (x0 x1 x3 x4 x5 x6 : V) : ∀ (k i : Nat) (S : zA) (v6 : V) (g7 g8 g9 gH gO gI gD gA gE gF gG gK gN gL gM gP gQ gU gR gS gT gV gW gX gY gZ : V), n.names.length - i = k → i ≤ n.names.length → Tree S a m A B t → SlE zJ S vb 88 n.names → S[r]? = some (.row [ansV okN (.ts []) v6] 44) → SlE encS S v6 9 ((n.names.take i).map (·.name)) → KeepR r S0 S →
 (∀ S v6 i' g7 g8 g9 gH gO gI gD gA gE gF gG gK gN gL gM gP gQ gU gR gS gT gV gW gX gY gZ, Tree S a m A B t → S[r]? = some (.row [ansV okN (.ts []) v6] 44) → SlE encS S v6 9 (n.names.map (·.name)) → KeepR r S0 S → R (.exit 0) (x0 :: x1 :: (.ref r 0 0) :: x3 :: x4 :: x5 :: x6 :: g7 :: g8 :: g9 :: gH :: gO :: gI :: gD :: gA :: gE :: gF :: gG :: vb :: (.d (.int .i64 n.names.length)) :: i' :: gK :: gN :: gL :: gM :: gP :: gQ :: gU :: gR :: gS :: gT :: gV :: gW :: gX :: gY :: gZ :: []) S []) →
 Wp cfgS (.loop (lpOf (Try.f83.body.getD .skip) 0)) (x0 :: x1 :: (.ref r 0 0) :: x3 :: x4 :: x5 :: x6 :: g7 :: g8 :: g9 :: gH :: gO :: gI :: gD :: gA :: gE :: gF :: gG :: vb :: (.d (.int .i64 n.names.length)) :: (.d (.int .i64 i)) :: gK :: gN :: gL :: gM :: gP :: gQ :: gU :: gR :: gS :: gT :: gV :: gW :: gX :: gY :: gZ :: []) S [] R := by
 intro k
 induction k with
 | zero =>
  intro i S v6 g7 g8 g9 gH gO gI gD gA gE gF gG gK gN gL gM gP gQ gU gR gS gT gV gW gX gY gZ hk hi hT hvb hrr hv6 hKR hR
  have hie : i = n.names.length := by omega
  rw [qL]
  refine zU ?_
  conv => arg 2; whnf
  simp (maxSteps:=1000000) (disch:=first|assumption|omega|rfl) only [↓gp, gc, Nat.reduceAdd, hPS]
  exact hR _ _ _ _ _ _ _ _ _ _ _ _ _ _ _ _ _ _ _ _ _ _ _ _ _ _ _ _ _ hT hrr (by rw [hie, List.take_length] at hv6; exact hv6) hKR
 | succ k ih =>
  intro i S v6 g7 g8 g9 gH gO gI gD gA gE gF gG gK gN gL gM gP gQ gU gR gS gT gV gW gX gY gZ hk hi hT hvb hrr hv6 hKR hR
  have hlt : i < n.names.length := by omega
  have htk : n.names.take (i + 1) = n.names.take i ++ [n.names[i]] := by rw [List.take_succ_eq_append_getElem hlt]
  obtain ⟨id, hix, hre, hidl⟩ := hvb.ix (t := 30) Try.underlying30 (by kernel_rfl) hlt
  rw [qL]
  refine zU ?_
  conv => arg 2; whnf
  generalize n.names[i] = e at *
  have h8 := jC (S := S) (o := Ob.row [.d (zJ e)] 88)
  have hr8 := zF h8
  have hrr1 := qS (l := [Ob.row [.d (zJ e)] 88]) hrr
  have hrv := zF hrr1
  have hv61 := hv6.keep (Keep.app (l := [Ob.row [.d (zJ e)] 88]))
  obtain ⟨v6', S2, c, happ, hc, hv62, hf2, hid2, hl2⟩ := zsx (t := 42) (a := e.name) Try.underlying42 q07 zn6 ff9 (zrh (by rw [List.length_map, List.length_take]; omega)) hv61
  have notv : ∀ (j : Nat) (ys : List V) (u : TypeId), u ≠ 9 → (S ++ [Ob.row [.d (zJ e)] 88])[j]? = some (.row ys u) → idOf v6 ≠ some j := fun j ys u hu hj hh => by
   obtain ⟨zs, q⟩ := hv61.row hh
   rw [hj] at q; cases q; exact hu rfl
  have hrr2 := hf2 _ _ hrr1 (notv _ _ _ (by decide) hrr1)
  have hrv2 := zF hrr2
  have hpr2 := fun y => qB (y := y) hrr2
  have hst := av6 (x := okN) (v5 := .ts []) (v6 := v6) (q0t hv62) hv62.cells
  simp (maxSteps:=1000000) (disch:=first|assumption|omega|rfl) only [↓gp, gc, Nat.reduceAdd, hPS, hix, hre, le88, z88, zf88, se88, zT, zQ]
  have hne : r ≠ S.length := by have := qM hrr; omega
  have fin : ∀ g7 g8 g9 gH gO gI gD gA gE gF gG gK gN gL gM gP gQ gU gR gS gT gV gW gX gY gZ, Wp cfgS (.loop (lpOf (Try.f83.body.getD .skip) 0)) (x0 :: x1 :: (.ref r 0 0) :: x3 :: x4 :: x5 :: x6 :: g7 :: g8 :: g9 :: gH :: gO :: gI :: gD :: gA :: gE :: gF :: gG :: vb :: (.d (.int .i64 n.names.length)) :: (.d (.int .i64 ((i : Int) + 1))) :: gK :: gN :: gL :: gM :: gP :: gQ :: gU :: gR :: gS :: gT :: gV :: gW :: gX :: gY :: gZ :: []) (S2.set r (.row [ansV okN (.ts []) v6'] 44)) [] R := fun g7 g8 g9 gH gO gI gD gA gE gF gG gK gN gL gM gP gQ gU gR gS gT gV gW gX gY gZ => by
   have hci : (i : Int) + 1 = ((i + 1 : Nat) : Int) := by omega
   rw [hci]
   have hT2 : Tree S2 a m A B t := (hT.keep (Keep.app (l := [Ob.row [.d (zJ e)] 88]))).frameT fun j q hj hq => hf2 j q hj (by
    intro hh
    obtain ⟨zs, h9⟩ := hv61.row hh
    rw [h9] at hj
    cases hj
    rcases hq with ⟨ys, hq⟩ | ⟨ys, hq⟩ | ⟨ys, hq⟩ | ⟨L, c, hq⟩ <;> cases hq)
   refine ih (i + 1) _ v6' _ _ _ _ _ _ _ _ _ _ _ _ _ _ _ _ _ _ _ _ _ _ _ _ _ _ (by omega) (by omega) (hT2.other hrr2 (by decide) (by decide) (by decide)) ?_ (jL hrr2) ?_ ((hKR.trans ((Keep.app (l := [Ob.row [.d (zJ e)] 88])).toR.trans (fun j ys e he _ hj => hf2 j _ hj (notv _ _ _ (by rcases he with rfl | rfl <;> decide) hj)))).setR) hR
   ·refine (hvb.keep (Keep.app (l := [Ob.row [.d (zJ e)] 88]))).frame2 fun j q hj hh => ?_
    obtain ⟨ys, h9⟩ := (hvb.keep (Keep.app (l := [Ob.row [.d (zJ e)] 88]))).row hh
    have h10 := hf2 j _ h9 (notv _ _ _ (by decide) h9)
    rw [List.getElem?_set_ne]
    ·rw [h9] at hj; cases hj; exact h10
    ·rintro rfl
     rw [hrr2] at h10
     simp only [Option.some.injEq, Ob.row.injEq] at h10
     exact absurd h10.2 (by decide)
   ·rw [htk, List.map_append]
    refine hv62.frame2 fun j q hj hh => ?_
    rw [hid2] at hh
    cases hh
    rw [List.getElem?_set_ne]
    ·exact hj
    ·have := qM hrr1; omega
  rcases hc with rfl | rfl
  ·skip
   refine vM (is := [0, 1, 2, 3, 4, 5, 6, 7, 8, 9, 10, 11]) (h := 0) (by kernel_rfl) (by kernel_rfl) ?_
   simp (maxSteps:=1000000) (disch:=first|assumption|omega|rfl) only [List.replicate_zero, eq_self, gw, ga, Nat.reduceAdd, ↓gq, hPS, List.append_nil, qK, qF, hr8, hrv, al6, le0, bs42, happ, hrv2, hst, hpr2, Option.map_some, Option.map_none]
   refine ⟨zH (by kernel_rfl) (zH (by kernel_rfl) qW), zH (by kernel_rfl) (zH (by kernel_rfl) qW), by kernel_rfl, ?_⟩
   simp (maxSteps:=1000000) (disch:=first|assumption|omega|rfl) only [↓gp, gc, Nat.reduceAdd, hPS]
   exact fin _ _ _ _ _ _ _ _ _ _ _ _ _ _ _ _ _ _ _ _ _ _ _ _ _ _
  ·skip
   refine vM (is := [0, 1, 2, 3, 4, 5, 6, 7, 8, 9, 10, 11]) (h := 0) (by kernel_rfl) (by kernel_rfl) ?_
   simp (maxSteps:=1000000) (disch:=first|assumption|omega|rfl) only [List.replicate_zero, eq_self, gw, ga, Nat.reduceAdd, ↓gq, hPS, List.append_nil, qK, qF, hr8, hrv, al6, le0, bs42, happ, hrv2, hst, hpr2, Option.map_some, Option.map_none]
   refine ⟨zH (by kernel_rfl) (zH (by kernel_rfl) qW), zH (by kernel_rfl) (zH (by kernel_rfl) qW), by kernel_rfl, ?_⟩
   simp (maxSteps:=1000000) (disch:=first|assumption|omega|rfl) only [↓gp, gc, Nat.reduceAdd, hPS]
   exact fin _ _ _ _ _ _ _ _ _ _ _ _ _ _ _ _ _ _ _ _ _ _ _ _ _ _
theorem q0m (S0 : zA) (a m r : Nat) (A B : Int → V) (t : List Node) (hT0 : Tree S0 a m A B t) (k0 : Nat) (hk0 : k0 < 200000) (hG : Good k0 t) (o : Opn) (hdo : o.does = 10) (hl : o.a.length < 900000) (hr : S0[r]? = some (.row [ansV okN (.ts []) (.ts [])] 44)) :
  EvS cfgS 83 [.ref a 0 0, .d (encOpn o), .ref r 0 0] S0 (Res S0 a m r (t, z1j t o)) := by
 have hk1 : k0 < 300000 := by omega
 refine wU rfl q05 ?_
 show Wp cfgS (Try.f83.body.getD .skip) ((.ref a 0 0) :: (.d (encOpn o)) :: (.ref r 0 0) :: uZ (uZ (uZ ((.tup []) :: (.tup []) :: (.tup []) :: [])))) S0 [] _
 unfold uZ
 conv => arg 2; whnf
 rw [qL]
 have hT1 := hT0.keep (Keep.app (l := [Ob.row [.d (encOpn o)] 48]))
 simp (maxSteps:=1000000) (disch:=first|assumption|omega|rfl) only [↓gp, gc, Nat.reduceAdd, hPS, zT]
 refine z9s rfl (zps _ a m hT1 hG.told k0 hk1 hG.sm o.a hl) ?_ ?_
 ·intro h0 S1 hK1
  have e : z1j t o = if (getN t (zE t o.a).1).kind ≠ 2 then qV 6 else zln ((getN t (zE t o.a).1).names.map (·.name)) := by unfold z1j zjz; rw [if_neg (by simp [h0]), if_neg (by omega), if_neg (by omega)]
  have hgn : (getN t (zE t o.a).1).names.length < 900000 := Nat.lt_of_le_of_lt (hG.sm.gnms _) (by omega)
  rw [e]
  generalize (zE t o.a).1 = x at *
  have hK02 := (Keep.app.trans hK1).trans (Keep.app (l := [Ob.row [zD (getN t x) (A x) (B x)] 32]))
  have hT2 := hT0.keep hK02
  have hrr := hK02 _ _ hr
  have hlen := (hT2.st.na x trivial).len (t := 30) Try.underlying30
  by_cases c1 : (getN t x).kind = 2
  ·rw [if_neg (fun hh => hh c1)]
   simp (maxSteps:=1000000) (disch:=first|assumption|omega|rfl) only [↓gp, gc, Nat.reduceAdd, hPS, zagg, z32v, kW, kP, svz, sv, lv, lv1, lv6, hlen, zT, zQ, jK]
   refine zwr S0 a m r A B t (getN t x) (B x) hgn _ _ _ _ _ _ _ (getN t x).names.length 0 _ (.ts []) _ _ _ _ _ _ _ _ _ _ _ _ _ _ _ _ _ _ _ _ _ _ _ _ _ _ rfl (by omega) hT2 (hT2.st.na x trivial) hrr (.inl ⟨rfl, rfl⟩) hK02.toR ?_
   intro S v6 i' g7 g8 g9 gH gO gI gD gA gE gF gG gK gN gL gM gP gQ gU gR gS gT gV gW gX gY gZ hT hrv hv6 hKR
   simp (maxSteps:=1000000) (disch:=first|assumption|omega|rfl) only [↓gp, gc, Nat.reduceAdd, hPS]
   exact ⟨rfl, _, rfl, Res.done (v5 := .ts []) (v6 := v6) rfl hT hrv vZ hv6 hKR⟩
  ·rw [if_pos c1]
   have h6 : (6 : Int) ≠ 0 := by omega
   simp (maxSteps:=1000000) (disch:=first|assumption|omega|rfl) only [↓gp, gc, Nat.reduceAdd, hPS, zagg, z32v, kW, kP, svz, sv, lv, lv1, zT, zQ, kB h6]
   exact ⟨rfl, Res.fail h6 hK02⟩
 ·intro h0 S1 hK1
  have e : z1j t o = qV (zE t o.a).2 := by unfold z1j; rw [if_pos h0]
  rw [e]
  exact ⟨rfl, Res.fail h0 (Keep.app.trans hK1)⟩
end Go.Proofs.Ytghllhghboaagaa
end
section
namespace Go.Vm
open Go
section
variable {C : Cfg} {ops : Array Oper} {base : Nat} {F : Dfs} {Q : Post}
def WpNw (C : Cfg) (ops : Array Oper) (base : Nat) (K : List (Nat × Nat) → Nat → List Nat → V → zA → Prop) : Ws → List (Nat × Nat) → List Nat → List V → zA → Prop
 | _, _, [], _, _ => False
 | ws, cs, i :: is, T, S => ∃ o, ops[i]? = some o ∧ ((∃ n v S', panO C (run C n) ops o T S = some (v, S') ∧ K cs i is v S') ∨ (∃ n v S' c, effC C (run C n) ops (base + i) o T S = some (v, S', c) ∧ (2 < c → WAll C ops base ws i S') ∧ WpNw C ops base K (if c = 1 then (i, T, v) :: ws else ws) (cs ++ [(i, c)]) is (putT T o.dst v) S'))
theorem zkw {K : List (Nat × Nat) → Nat → List Nat → V → zA → Prop} : ∀ {is : List Nat} {ws : Ws} {cs : List (Nat × Nat)} {T : List V} {S : zA}, WpNw C ops base K ws cs is T S → ∃ n v S' cs' p rest, seqP C (run C n) ops (befs ops) base ws is T S = some (v, S', cs', p, rest) ∧ K (cs ++ cs') p rest v S'
 | [], ws, cs, T, S, h => h.elim
 | i :: is, ws, cs, T, S, h => by
  obtain ⟨o, ho, h⟩ := h
  rcases h with ⟨n, v, S', h1, h2⟩ | ⟨n, v, S', c, h1, h2, h3⟩
  ·exact ⟨n, v, S', [], i, is, by simp only [seqP, ho, h1], by simpa using h2⟩
  ·obtain ⟨m, v2, S2, cs', p, rest, h4, h5⟩ := zkw h3
   have hw : ∃ k, 2 < c → ∀ m, k ≤ m → ws.all (kK C (run C m) ops (befs ops) base i S') = true := by
    by_cases hc : 2 < c
    ·obtain ⟨k, hk⟩ := zgd (h2 hc)
     exact ⟨k, fun _ => hk⟩
    ·exact ⟨0, fun h => absurd h hc⟩
   obtain ⟨k, hk⟩ := hw
   have he := z00 (z3o C (show n ≤ max (max n m) k by omega)) h1
   have hs := z6k (z3o C (show m ≤ max (max n m) k by omega)) h4
   refine ⟨max (max n m) k, v2, S2, (i, c) :: cs', p, rest, ?_, by simpa using h5⟩
   simp only [seqP, ho, z6o he, he, hs]
   rw [if_neg]
   rintro ⟨hc, hall⟩
   rw [hk hc _ (by omega)] at hall
   cases hall
theorem zdp {id : Nat} {T : List V} {S : zA} {is : List Nat} {h : Nat} (ho : z1h C.shared ops = is) (hh : vY ops = h) (hd : WpNw C ops S.length (fun cs p rest v S' => znh C.P ops cs p rest = true ∧ Q (.pan v) T (killAll S.length rest S') F) [] [] is T (S ++ List.replicate h .hole)) : Wp C (.region id ops true) T S F Q := by
 subst ho; subst hh
 obtain ⟨n, v, S', cs', p, rest, h1, h2, h3⟩ := zkw hd
 refine ⟨n + 1, .pan v, T, _, F, ?_, h3⟩
 have hn : seqC C (run C n) ops (befs ops) S.length [] (z1h C.shared ops) T (S ++ List.replicate (vY ops) .hole) = none := z4g (fun _ _ _ _ h => h) h1
 simp only [exec, hn, h1]
 rw [if_pos (by simpa using h2)]
section
variable {K : List (Nat × Nat) → Nat → List Nat → V → zA → Prop} {ws : Ws} {cs : List (Nat × Nat)} {i : Nat} {is : List Nat} {T : List V} {S S' : zA} {o : Oper} {v : V} {c : Nat}
theorem z6v (ho : ops[i]? = some o) (he : effC C (run C 0) ops (base + i) o T S = some (v, S', c)) (hc : 2 < c → WAll C ops base ws i S') (hk : WpNw C ops base K (if c = 1 then (i, T, v) :: ws else ws) (cs ++ [(i, c)]) is (putT T o.dst v) S') : WpNw C ops base K ws cs (i :: is) T S :=
 ⟨o, ho, .inr ⟨0, v, S', c, he, hc, hk⟩⟩
theorem zma {id : Nat} {f : FuncId} {args : List V} {n : Nat} (hw : zX ops T o = some true) (ha : kG o = false) (hop : opV C.P S T o = some (.enter f args)) (hs : C.shared f = true) (hn : run C n f args S = some (.ret v, S')) : effC C (run C n) ops id o T S = some (v, S', 3) := by
 have hc : jW C (run C n) f args S = some (.ret v, S', 3) := by
  unfold jW
  simp only [hs, if_true, hn, Option.map_some]
 simp only [effC, hw, ha, Bool.false_eq_true, if_false, hop, hc]
 rfl
theorem znm {f : FuncId} {args : List V} {n : Nat} (hw : zX ops T o = some true) (ha : kG o = false) (hop : opV C.P S T o = some (.enter f args)) (hs : C.shared f = true) (hn : run C n f args S = some (.pan v, S')) : panO C (run C n) ops o T S = some (v, S') := by
 have hc : jW C (run C n) f args S = some (.pan v, S', 3) := by
  unfold jW
  simp only [hs, if_true, hn, Option.map_some]
 simp only [panO, hw, ha, Bool.false_eq_true, if_false, hop, hc]
end
end
def cvV (P : Program) (args : List V) : V → Option Rs
 | .fn (.func g) first caps => if args.all V.one && (zC P g).isSome then some (.enter g (first ++ args ++ caps)) else none
 | .d (.fn (.func g) first caps) => if args.all V.one && (zC P g).isSome then some (.enter g (first.map .d ++ args ++ caps.map .d)) else none
 | _ => none
theorem op_callv {P : Program} {S : zA} {T : List V} {dst : Option Tmp} {ty : TypeId} {pos : String} {after : Array Edge} {g : Option (Nat × Bool)} {t : Nat} {args : Array Operand} {ts : Array TypeId} : opV P S T ⟨dst, .call { callee := .value (.tmp t), args := args, argTypes := ts }, ty, pos, after, g⟩ = cvV P (args.toList.map (zG T)) (zG T (.tmp t)) := by
 simp only [opV, cvV]
 rfl
theorem zx0 {P : Program} {args first caps : List V} {g : FuncId} (h1 : args.all V.one = true) (h2 : (zC P g).isSome = true) : cvV P args (.fn (.func g) first caps) = some (.enter g (first ++ args ++ caps)) := by
 simp only [cvV, h1, h2, Bool.and_self, if_true]
section
variable {C : Cfg} {ops : Array Oper} {dst : Option Tmp} {op : Op} {ty : TypeId} {pos : String} {after : Array Edge} {l : List Oper} {T : List V} {S : zA} {F : Dfs} {Q : Post}
theorem zlc {g : Nat × Bool} (hp0 : vT C.P T ⟨dst, op, ty, pos, after, some g⟩ l = none) (hp1 : vT C.P T ⟨dst, op, ty, pos, after, none⟩ l = none) : WpL C ops (⟨dst, op, ty, pos, after, some g⟩ :: l) T S F Q = WpW (WpL C ops (⟨dst, op, ty, pos, after, none⟩ :: l) T S F Q) (WpL C ops l (putT T dst (.tup [])) S F Q) ((qY ops T g.1).map (· == some g.2)) := by
 obtain ⟨j, w⟩ := g
 have hp : vT C.P T ⟨dst, op, ty, pos, after, some (j, w)⟩ l = none := hp0
 have hp' : vT C.P T ⟨dst, op, ty, pos, after, none⟩ l = none := hp1
 have hopv : opV C.P S T ⟨dst, op, ty, pos, after, some (j, w)⟩ = opV C.P S T ⟨dst, op, ty, pos, after, none⟩ := by cases op <;> rfl
 apply propext
 cases hy : (qY ops T j).map (· == some w) with
 | none =>
  simp only [WpW, iff_false]
  rintro ⟨n, x, T', S', F', h1, h2⟩
  simp [seqV, hp, zX, hy] at h1
 | some b =>
  cases b with
  | false =>
   simp only [WpW]
   constructor
   ·rintro ⟨n, x, T', S', F', h1, h2⟩
    simp only [seqV, hp, zX, hy] at h1
    exact ⟨n, x, T', S', F', h1, h2⟩
   ·rintro ⟨n, x, T', S', F', h1, h2⟩
    exact ⟨n, x, T', S', F', by simp only [seqV, hp, zX, hy]; exact h1, h2⟩
  | true =>
   simp only [WpW]
   constructor
   ·rintro ⟨n, x, T', S', F', h1, h2⟩
    simp only [seqV, hp, zX, hy, hopv] at h1
    exact ⟨n, x, T', S', F', by simp only [seqV, hp', zX]; exact h1, h2⟩
   ·rintro ⟨n, x, T', S', F', h1, h2⟩
    simp only [seqV, hp', zX] at h1
    exact ⟨n, x, T', S', F', by simp only [seqV, hp, zX, hy, hopv]; exact h1, h2⟩
theorem zjq {g : Nat × Bool} (hp0 : vT C.P T ⟨dst, op, ty, pos, after, some g⟩ l = none) (hp1 : vT C.P T ⟨dst, op, ty, pos, after, none⟩ l = none) : WpL C ops (⟨dst, op, ty, pos, after, some g⟩ :: l) T S F Q = WpG C ops dst op ty pos after l T S F Q ((qY ops T g.1).map (· == some g.2)) := by
 rw [zlc hp0 hp1]
 cases (qY ops T g.1).map (· == some g.2) with
 | none => rfl
 | some b => cases b <;> rfl
theorem wV {t : TypeId} {n : Nat} {ps : Array (Nat × Operand)} {c : Call} {d2 : Option Tmp} {ty2 : TypeId} {pos2 : String} {after2 : Array Edge} {g2 : Option (Nat × Bool)} {g : Nat × Bool} : WpL C ops (⟨dst, .buildSlice t n ps, ty, pos, after, some g⟩ :: ⟨d2, .call c, ty2, pos2, after2, g2⟩ :: l) T S F Q = WpG C ops dst (.buildSlice t n ps) ty pos after (⟨d2, .call c, ty2, pos2, after2, g2⟩ :: l) T S F Q ((qY ops T g.1).map (· == some g.2)) := zjq rfl rfl
end
end Go.Vm
end
section
namespace Go.Proofs.Ytghllhghboaagaa
open Go.Vm
def z8m (d : Int) : FuncId := if d = 1 ∨ d = 2 then 76 else if d = 3 then 77 else if d = 4 ∨ d = 5 then 78 else if d = 6 then 79 else if d = 7 then 80 else if d = 8 then 81 else if d = 9 then 82 else if d = 10 then 83 else if d = 11 then 84 else if d = 12 then 85 else 86
def ze9 (a : Nat) (d : Int) : List V := if 1 ≤ d ∧ d ≤ 12 then [.ref a 0 0] else []
theorem mf_r {fn : Fn} {S : zA} {a : Nat} : mfS fn S [.ref a 0 0] [] = some (.val (.fn fn [.ref a 0 0] []) S 0) := rfl
theorem zuz {T : List V} : zG T (.const .nilFunc) = .d .nilf := rfl
theorem zn1 {T : List V} {f : FuncId} : zG T (.func f) = .fn (.func f) [] [] := rfl
theorem zxd (S0 : zA) (a : Nat) (d : Int) (h1 : 1 ≤ d) (h13 : d ≤ 13) : EvS cfgS 44 [.ref a 0 0, .d (.int .i64 d)] S0 fun o S => S = S0 ∧ o = .ret (.fn (.func (z8m d)) (ze9 a d) []) := by
 refine wU rfl zy6 ?_
 show Wp cfgS (Try.f44.body.getD .skip) ((.ref a 0 0) :: (.d (.int .i64 d)) :: uZ (uZ (uZ (uZ ((.tup []) :: (.tup []) :: (.tup []) :: (.tup []) :: (.tup []) :: (.tup []) :: []))))) S0 [] _
 unfold uZ
 conv => arg 2; whnf
 rw [qL]
 have hd : d = 1 ∨ d = 2 ∨ d = 3 ∨ d = 4 ∨ d = 5 ∨ d = 6 ∨ d = 7 ∨ d = 8 ∨ d = 9 ∨ d = 10 ∨ d = 11 ∨ d = 12 ∨ d = 13 := by omega
 have hG : ∀ (g : FuncId) (l : List V), z8m d = g → ze9 a d = l → (∃ v, (some (V.fn (.func g) l []) : Option V) = some v ∧ (S0 = S0 ∧ Out.ret v = .ret (.fn (.func (z8m d)) (ze9 a d) []))) := fun g l h1 h2 => ⟨_, rfl, rfl, by rw [h1, h2]⟩
 rcases hd with h | h | h | h | h | h | h | h | h | h | h | h | h
 all_goals simp (maxSteps:=1000000) (disch:=first|assumption|omega|rfl) only [↓gp, gc, Nat.reduceAdd, hPS, ↓z5d, mf_r, zuz, zn1]
 all_goals exact ⟨rfl, hG _ _ (by simp [z8m, h]) (by simp [ze9, h])⟩
theorem zkv (d : Int) : (zC Try.prog (z8m d)).isSome = true := by
 unfold z8m
 repeat' split
 all_goals kernel_rfl
theorem zl9 (d : Int) : cfgS.shared (z8m d) = true := by
 unfold z8m
 repeat' split
 all_goals kernel_rfl
theorem q28 (S0 : zA) (a m r : Nat) (A B : Int → V) (t : List Node) (hT0 : Tree S0 a m A B t) (o : Opn) (hr : S0[r]? = some (.row [ansV okN (.ts []) (.ts [])] 44)) :
  EvS cfgS 86 [.d (encOpn o), .ref r 0 0] S0 (Res S0 a m r (t, okN)) := by
 refine wU rfl zyg ?_
 show Wp cfgS (Try.f86.body.getD .skip) ((.d (encOpn o)) :: (.ref r 0 0) :: (.tup []) :: (.tup []) :: []) S0 [] _
 conv => arg 2; whnf
 rw [qL]
 simp (maxSteps:=1000000) (disch:=first|assumption|omega|rfl) only [↓gp, gc, Nat.reduceAdd, hPS, zT]
 exact ⟨rfl, _, rfl, Res.done (v5 := .ts []) (v6 := .ts []) rfl (hT0.keep Keep.app) (qS hr) vZ (.inl ⟨rfl, rfl⟩) Keep.app.toR⟩
theorem zml (S0 : zA) (a m r : Nat) (A B : Int → V) (t : List Node) (hT0 : Tree S0 a m A B t) (k0 : Nat) (hk0 : k0 < 190000) (hG : Good k0 t) (o : Opn) (hm : mayN o = true) (hl : o.a.length < 900000) (hlb : o.b.length < 900000) (hr : S0[r]? = some (.row [ansV okN (.ts []) (.ts [])] 44)) :
  EvS cfgS (z8m o.does) (ze9 a o.does ++ [.d (encOpn o), .ref r 0 0] ++ []) S0 (Res S0 a m r (qU t o)) := by
 have hk1 : k0 < 200000 := by omega
 have hm2 := of_decide_eq_true hm
 have hd : o.does = 1 ∨ o.does = 2 ∨ o.does = 3 ∨ o.does = 4 ∨ o.does = 5 ∨ o.does = 6 ∨ o.does = 7 ∨ o.does = 8 ∨ o.does = 9 ∨ o.does = 10 ∨ o.does = 11 ∨ o.does = 12 ∨ o.does = 13 := by omega
 have hs : qU t o = if o.does < 3 then z17 t o
  else if o.does = 3 then z0g t o
  else if o.does < 6 then wB t o
  else if o.does = 6 then kA t o
  else if o.does < 10 then wI t o
  else if o.does < 13 then (t, z1j t o)
  else (t, okN) := by
  unfold qU
  rw [if_neg (by rw [hm]; exact Bool.noConfusion)]
 rw [hs]
 unfold z8m ze9
 rcases hd with h | h | h | h | h | h | h | h | h | h | h | h | h
 ·simp only [h]; exact znr S0 a m r A B t hT0 k0 hk1 hG o hl hr
 ·simp only [h]; exact znr S0 a m r A B t hT0 k0 hk1 hG o hl hr
 ·simp only [h]; exact q12 S0 a m r A B t hT0 k0 hk1 hG o hl hlb hr
 ·simp only [h]; exact zmh S0 a m r A B t hT0 k0 hk1 hG o (.inl h) hl hr
 ·simp only [h]; exact zmh S0 a m r A B t hT0 k0 hk1 hG o (.inr h) hl hr
 ·simp only [h]; exact zt3 S0 a m r A B t hT0 k0 hk0 hG o hl hlb hr
 ·simp only [h]; exact zwz S0 a m r A B t hT0 k0 hk1 hG o h hl hm2.2.2 hr
 ·simp only [h]; exact q0n S0 a m r A B t hT0 k0 hk1 hG o h hl hr
 ·simp only [h]; exact zl4 S0 a m r A B t hT0 k0 hk1 hG o h hl hr
 ·simp only [h]; exact q0m S0 a m r A B t hT0 k0 hk1 hG o h hl hr
 ·simp only [h]; exact q13 S0 a m r A B t hT0 k0 hk1 hG o h hl hr
 ·simp only [h]; exact zxu S0 a m r A B t hT0 k0 hk1 hG o h hl hr
 ·simp only [h]; exact q28 S0 a m r A B t hT0 o hr
theorem lr94 {a : Nat} : kS Try.prog 94 0 (some (.ref a 0 0)) = some (.ref a 0 0) := by kernel_rfl
theorem zsy {n : Nat} {l : List UInt8} : z50 (n + 2) (encB l) (encB l) = true := by
 unfold encB
 show all2 (z50 (n + 1)) _ _ = true
 induction l with
 | nil => rfl
 | cons b r ih =>
  show (z50 (n + 1) (.int .u8 b.toNat) (.int .u8 b.toNat) && all2 (z50 (n + 1)) _ _) = true
  rw [ih]
  simp [z50, kO]
theorem zfj {o : Opn} : z3q (.d (encOpn o)) (.d (encOpn o)) = true := by
 show (kO (.int .i64 o.does) (.int .i64 o.does) && (kO (.str o.a) (.str o.a) && (kO (.str o.b) (.str o.b) && (kO (.int .i64 o.off) (.int .i64 o.off) && (kO (.int .i64 o.n) (.int .i64 o.n) && (z50 5 (encB o.data) (encB o.data) && true)))))) = true
 rw [zsy]
 simp [kO]
theorem zc7 {C : Cfg} {call : wA} {ops : Array Oper} {id : Nat} {o : Oper} {T : List V} {S S' : zA} {v : V} {c : Nat} (hw : zX ops T o = some true) (ha : kG o = false) (hop : opV C.P S T o = some (.val v S' c)) : effC C call ops id o T S = some (v, S', num2 c) := by
 simp only [effC, hw, ha, Bool.false_eq_true, if_false, hop]
theorem ld1 {S : zA} {t : TypeId} {y : V} {i f : Nat} (h : jZ Try.prog S t (.ref i 0 f) = some y) : (jZ Try.prog S t (.ref i 0 f)).map (fun v => Rs.val v S 1) = some (.val y S 1) := by rw [h]; rfl
theorem zxx (S0 : zA) (a m r i7 i3 : Nat) (A B : Int → V) (t : List Node) (hT0 : Tree S0 a m A B t) (k0 : Nat) (hk0 : k0 < 190000) (hG : Good k0 t) (o : Opn) (hm : mayN o = true) (hl : o.a.length < 900000) (hlb : o.b.length < 900000) (hr : S0[r]? = some (.row [ansV okN (.ts []) (.ts [])] 44)) (h7 : S0[i7]? = some (.row [.ref a 0 0] 94)) (h3 : S0[i3]? = some (.row [.d (encOpn o)] 48)) :
  EvS cfgS 43 [.ref i7 0 0, .ref i3 0 0, .ref r 0 0] S0 (Res S0 a m r (qU t o)) := by
 have hm2 := of_decide_eq_true hm
 obtain ⟨n1, o1, S1, hn1, hS1, ho1⟩ := zxd S0 a o.does hm2.1 hm2.2.1
 rw [hS1, ho1] at hn1
 obtain ⟨n2, o2, S2, hn2, hR⟩ := zml S0 a m r A B t hT0 k0 hk0 hG o hm hl hlb hr
 have hr7 := zF h7
 have hr3 := zF h3
 refine wU rfl zx8 ?_
 show Wp cfgS (Try.f43.body.getD .skip) ((.ref i7 0 0) :: (.ref i3 0 0) :: (.ref r 0 0) :: (.tup []) :: (.tup []) :: (.tup []) :: (.tup []) :: (.tup []) :: (.tup []) :: []) S0 [] _
 conv => arg 2; whnf
 rw [qL]
 have hl7 : jZ Try.prog S0 94 (.ref i7 0 0) = some (.ref a 0 0) := (jU hr7).trans lr94
 have hl3 : jZ Try.prog S0 48 (.ref i3 0 0) = some (.d (encOpn o)) := (jU hr3).trans lr48
 have hld : jZ Try.prog S0 3 (.ref i3 0 0) = some (.d (.int .i64 o.does)) := (jU hr3).trans (by kernel_rfl)
 have hE1 : EvS cfgS 44 [.ref a 0 0, .d (.int .i64 o.does)] S0 fun o' S => S = S0 ∧ o' = .ret (.fn (.func (z8m o.does)) (ze9 a o.does) []) := zxd S0 a o.does hm2.1 hm2.2.1
 by_cases he : (qU t o).2.err = 0
 ·refine vM (is := [0, 1, 2, 4, 3, 5]) (h := 0) (by kernel_rfl) (by kernel_rfl) ?_
  simp (maxSteps:=1000000) (disch:=first|assumption|omega|rfl) only [List.replicate_zero, eq_self, gw, ga, Nat.reduceAdd, ↓gq, hPS, List.append_nil, hr7, hr3, lr94, lr48]
  refine z8v rfl hE1 ?_ ?_
  ·rintro v S1' ⟨hS, hv⟩
   have hS := hS.symm
   subst hS
   cases hv
   refine ⟨jV rfl (by kernel_rfl) rfl (ld1 hl3) zfj (zH (by kernel_rfl) (zH (by kernel_rfl) qW)), ?_⟩
   simp (maxSteps:=1000000) (disch:=first|assumption|omega|rfl) only [List.replicate_zero, eq_self, gw, ga, Nat.reduceAdd, ↓gq, hPS, List.append_nil, op_callv]
   rw [zx0 (by rfl) (zkv _), List.append_nil]
   have hE2 := zml S0 a m r A B t hT0 k0 hk0 hG o hm hl hlb hr
   rw [List.append_nil] at hE2
   refine z8v (zl9 _) hE2 ?_ ?_
   ·intro v S2' hR'
    refine ⟨zH (by kernel_rfl) (zH (by kernel_rfl) (zH (by kernel_rfl) qW)), by kernel_rfl, ?_⟩
    simp (maxSteps:=1000000) (disch:=first|assumption|omega|rfl) only [↓gp, gc, Nat.reduceAdd, hPS]
    refine ⟨rfl, _, rfl, ?_⟩
    unfold Res at hR' ⊢
    rw [if_pos he] at hR' ⊢
    exact ⟨⟨_, rfl⟩, hR'.2⟩
   ·intro v S2' hR'
    unfold Res at hR'
    rw [if_pos he] at hR'
    obtain ⟨⟨w, hv⟩, _⟩ := hR'
    cases hv
  ·rintro v S' ⟨_, hv⟩
   cases hv
 ·have ho2 : o2 = panD (qU t o).2.err := by
   unfold Res at hR
   rw [if_neg he] at hR
   exact hR.1
  have hk2 : Keep S0 S2 := by
   unfold Res at hR
   rw [if_neg he] at hR
   exact hR.2
  rw [ho2] at hn2
  refine zdp (is := [0, 1, 2, 4, 3, 5]) (h := 0) (by kernel_rfl) (by kernel_rfl) ?_
  rw [List.replicate_zero, List.append_nil]
  refine z6v rfl (zc7 (by kernel_rfl) rfl (ld1 hl7)) (fun h => absurd h (by decide)) ?_
  refine z6v (v := .ref i3 0 0) (S' := S0) (c := 0) rfl (zc7 (c := 0) (by kernel_rfl) rfl (by kernel_rfl)) (fun h => absurd h (by decide)) ?_
  refine z6v rfl (zc7 (by kernel_rfl) rfl (ld1 hld)) (fun h => absurd h (by decide)) ?_
  refine z6v rfl (zc7 (by kernel_rfl) rfl (ld1 hl3)) (fun h => absurd h (by decide)) ?_
  refine ⟨_, rfl, .inr ⟨n1, _, S0, 3, zma (by kernel_rfl) rfl (by kernel_rfl) (f := 44) (args := [.ref a 0 0, .d (.int .i64 o.does)]) rfl hn1, fun _ => ?_, ?_⟩⟩
  ·exact jV rfl (by kernel_rfl) rfl (ld1 hl3) zfj (zH (by kernel_rfl) (zH (by kernel_rfl) qW))
  refine ⟨_, rfl, .inl ⟨n2, _, S2, znm (by kernel_rfl) rfl (f := z8m o.does) (args := ze9 a o.does ++ [.d (encOpn o), .ref r 0 0] ++ []) ?_ (zl9 _) hn2, ?_⟩⟩
  ·exact op_callv.trans (zx0 (by kernel_rfl) (zkv _))
  refine ⟨by kernel_rfl, rfl, ?_⟩
  show Res S0 a m r (qU t o) (panD (qU t o).2.err) S2
  unfold Res
  rw [if_neg he]
  exact ⟨rfl, hk2⟩
theorem zoa {S : zA} {n : Node} {v1 v2 : V} (h1 : SlE encU S v1 5 n.data) (h2 : SlE zJ S v2 88 n.names) :
  ∃ w S' c u, bs1 Try.prog S 25 (zD n v1 v2) = some (.val w S' c) ∧ srcV Try.prog S' 32 25 w = some [u] ∧ (u = zD n v1 v2 ∨ u = .d (zB n)) ∧ Keep S S' := by
 have src : ∀ {x : V}, qH Try.prog 32 x = true → srcV Try.prog (S ++ [.row [x] 32]) 32 25 (.rs S.length 0 1) = some [x] := fun {x} hx => by
  have e1 : wH (S ++ [.row [x] 32]) (.rs S.length 0 1) = some [x] := by simp [wH]
  simp only [srcV, Try.underlying25, e1, List.all_cons, List.all_nil, hx, zow, Bool.and_self, if_true]
 rcases h1 with ⟨rfl, hd⟩ | ⟨i, ys, rfl, hi⟩
 ·rcases h2 with ⟨rfl, hn⟩ | ⟨j, zs, rfl, hj⟩
  ·refine ⟨.ts [zB n], S, 0, .d (zB n), ?_, ?_, .inr rfl, Keep.refl⟩
   ·have : zB n = .agg [.int .i64 n.ino, .int .i64 n.kind, .int .i64 n.links, .int .i64 n.parent, .int .i64 n.size, .sl [], .sl []] := by unfold zB encB; rw [hd, hn]; rfl
    rw [this]
    exact zqv
   ·have e1 : wH S (.ts [zB n]) = some [.d (zB n)] := rfl
    simp only [srcV, Try.underlying25, e1, List.all_cons, List.all_nil, zlx, zow, Bool.and_self, if_true]
  ·exact ⟨.rs S.length 0 1, S ++ [.row [zD n (.ts []) (.rs j 0 n.names.length)] 32], 2, _, by unfold zD; kernel_rfl, src (by unfold zD; exact zgv), .inl rfl, Keep.app⟩
 ·rcases h2 with ⟨rfl, hn⟩ | ⟨j, zs, rfl, hj⟩
  ·exact ⟨.rs S.length 0 1, S ++ [.row [zD n (.rs i 0 n.data.length) (.ts [])] 32], 2, _, by unfold zD; kernel_rfl, src (by unfold zD; exact zgv), .inl rfl, Keep.app⟩
  ·exact ⟨.rs S.length 0 1, S ++ [.row [zD n (.rs i 0 n.data.length) (.rs j 0 n.names.length)] 32], 2, _, by unfold zD; kernel_rfl, src (by unfold zD; exact zgv), .inl rfl, Keep.app⟩
def Us (A B : Int → V) : List Node → List V → Prop
 | [], [] => True
 | n :: ns, u :: us => (u = .d (zB n) ∨ u = zD n (A n.ino) (B n.ino)) ∧ Us A B ns us
 | _, _ => False
theorem Us.snoc {A B : Int → V} {n : Node} {u : V} (hn : u = .d (zB n) ∨ u = zD n (A n.ino) (B n.ino)) : ∀ {ns : List Node} {us : List V}, Us A B ns us → Us A B (ns ++ [n]) (us ++ [u])
 | [], [], _ => ⟨hn, trivial⟩
 | m :: ns, v :: us, h => ⟨h.1, Us.snoc hn h.2⟩
theorem Us.len {A B : Int → V} : ∀ {ns : List Node} {us : List V}, Us A B ns us → us.length = ns.length
 | [], [], _ => rfl
 | m :: ns, v :: us, h => by simp [Us.len h.2]
theorem Us.frz {S : zA} {A B : Int → V} (hf : ∀ n : Node, True) : ∀ {ns : List Node} {us : List V}, (∀ n ∈ ns, Go.Vm.frz S 11 (zD n (A n.ino) (B n.ino)) = some (zB n)) → Us A B ns us → allO (Go.Vm.frz S 11) us = some (ns.map zB)
 | [], [], _, _ => rfl
 | m :: ns, v :: us, h, hu => by
  have h1 : Go.Vm.frz S 11 v = some (zB m) := by
   rcases hu.1 with rfl | rfl
   ·rfl
   ·exact h m (by simp)
  simp only [allO, h1, Us.frz hf (fun n hn => h n (by simp [hn])) hu.2, List.map_cons]
theorem zjc {d r : List Node} {i : Int} (hd : ∀ n ∈ d, n.ino < i) (hs : Srt r) (hr : ∀ n ∈ r, i ≤ n.ino) : (hasN (d ++ r) i = false ∧ ∀ n ∈ r, i + 1 ≤ n.ino) ∨ ∃ n r', r = n :: r' ∧ n.ino = i ∧ hasN (d ++ r) i = true ∧ ∀ m ∈ r', i + 1 ≤ m.ino := by
 by_cases h : ∃ n ∈ r, n.ino = i
 ·right
  cases r with
  | nil => obtain ⟨n, hn, _⟩ := h; cases hn
  | cons m r' =>
   obtain ⟨h1, h2⟩ := Srt.cons.1 hs
   have hm := hr m (by simp)
   have hmi : m.ino = i := by
    obtain ⟨n, hn, he⟩ := h
    rcases List.mem_cons.1 hn with rfl | hn
    ·exact he
    ·have := h1 n hn; omega
   exact ⟨m, r', rfl, hmi, z26.2 ⟨m, by simp, hmi⟩, fun x hx => by have := h1 x hx; omega⟩
 ·left
  refine ⟨?_, fun n hn => ?_⟩
  ·cases hh : hasN (d ++ r) i with
   | false => rfl
   | true =>
    obtain ⟨n, hn, he⟩ := z26.1 hh
    rcases List.mem_append.1 hn with hn | hn
    ·have := hd n hn; omega
    ·exact absurd ⟨n, hn, he⟩ h
  ·have := hr n hn
   have : n.ino ≠ i := fun he => h ⟨n, hn, he⟩
   omega
theorem ztu (S0 : zA) (a m : Nat) (A B : Int → V) (t : List Node) (hT0 : Tree S0 a m A B t) (hsr : Srt t) (hn0 : ∀ n ∈ t, 0 ≤ n.ino ∧ n.ino ≤ 128) (hl : t.length < 400000) (R : Post) (x1 x2 : V) : ∀ (k i : Nat) (d r : List Node) (us : List V) (S : zA) (v3 : V) (g4 g5 g6 g8 g9 gH gO gI gD gA gE gF gG gB gC gJ gK gN gL gM gP : V), 129 - i = k → i ≤ 129 → t = d ++ r → (∀ n ∈ d, n.ino < (i : Int)) → (∀ n ∈ r, (i : Int) ≤ n.ino) → Keep S0 S → (∀ (j : Nat) (o : Ob), S0[j]? = some o → NotAt v3 j) → OwnS S v3 32 us → Us A B d us →
 (∀ S v3 us i' g4 g5 g6 g8 g9 gH gO gI gD gA gE gF gG gB gC gJ gK gN gL gM gP, Keep S0 S → OwnS S v3 32 us → Us A B t us → R (.exit 0) ((.ref a 0 0) :: x1 :: x2 :: v3 :: g4 :: g5 :: g6 :: i' :: g8 :: g9 :: gH :: gO :: gI :: gD :: gA :: gE :: gF :: gG :: gB :: gC :: gJ :: gK :: gN :: gL :: gM :: gP :: []) S []) →
 Wp cfgS (.loop (lpOf (Try.f41.body.getD .skip) 0)) ((.ref a 0 0) :: x1 :: x2 :: v3 :: g4 :: g5 :: g6 :: (.d (.int .i64 i)) :: g8 :: g9 :: gH :: gO :: gI :: gD :: gA :: gE :: gF :: gG :: gB :: gC :: gJ :: gK :: gN :: gL :: gM :: gP :: []) S [] R := by
 intro k
 induction k with
 | zero =>
  intro i d r us S v3 g4 g5 g6 g8 g9 gH gO gI gD gA gE gF gG gB gC gJ gK gN gL gM gP hk hi ht hd hr hK hN hO hU hR
  have hie : i = 129 := by omega
  subst hie
  have hre : r = [] := by
   cases r with
   | nil => rfl
   | cons n r' =>
    have h1 := hr n (by simp)
    have h2 := hn0 n (by rw [ht]; simp)
    omega
  rw [hre, List.append_nil] at ht
  rw [← ht] at hU
  have hlt : ¬ ((129 : Nat) : Int) < 129 := by omega
  rw [qL]
  refine zU ?_
  conv => arg 2; whnf
  simp (maxSteps:=1000000) (disch:=first|assumption|omega|rfl) only [↓gp, gc, Nat.reduceAdd, hPS]
  exact hR _ _ us _ _ _ _ _ _ _ _ _ _ _ _ _ _ _ _ _ _ _ _ _ _ hK hO hU
 | succ k ih =>
  intro i d r us S v3 g4 g5 g6 g8 g9 gH gO gI gD gA gE gF gG gB gC gJ gK gN gL gM gP hk hi ht hd hr hK hN hO hU hR
  have hlt : (i : Int) < 129 := by omega
  have hT := hT0.keep hK
  have hra := hT.row
  have hlk := fun x => (hT.st.look x).1
  have hT1 := hT.keep (Keep.app (l := [Ob.row [zD (getN t i) (A i) (B i)] 32]))
  have hO1 := z06 (S' := S ++ [Ob.row [zD (getN t i) (A i) (B i)] 32]) hO (fun j o hj => qS hj)
  have h5 := jC (S := S) (o := Ob.row [zD (getN t i) (A i) (B i)] 32)
  have hr5 := zF h5
  have hsr' : Srt r := by
   rw [ht] at hsr
   unfold Srt at hsr ⊢
   exact hsr.sublist ((List.sublist_append_right d r).map _)
  have hci : (i : Int) + 1 = ((i + 1 : Nat) : Int) := by omega
  rw [qL]
  refine zU ?_
  conv => arg 2; whnf
  rcases zjc hd hsr' hr with ⟨h1, h2⟩ | ⟨n, r', h0, hni, h1, h2⟩
  ·rw [← ht] at h1
   simp (maxSteps:=1000000) (disch:=first|assumption|omega|rfl) only [↓gp, gc, Nat.reduceAdd, hPS, zagg, z32v, kW, qF, vK, vC, hra, hlk, h1, kP, svz, sv, lv, zT, zQ, hci]
   exact ih (i + 1) d r us _ v3 _ _ _ _ _ _ _ _ _ _ _ _ _ _ _ _ _ _ _ _ _ (by omega) (by omega) ht (fun n hn => by have := hd n hn; omega) (fun n hn => by have := h2 n hn; omega) (hK.trans Keep.app) hN hO1 hU hR
  ·rw [← ht] at h1
   have hgn : getN t i = n := by
    rw [← hni]
    exact z72 hsr.uniq (by rw [ht, h0]; simp)
   have hul := hU.len
   have hdl : d.length ≤ t.length := by rw [ht, List.length_append]; omega
   obtain ⟨w, S2, c, u, hbs, hsrc, hu, hk2⟩ := zoa (n := getN t i) (hT1.st.da i trivial) (hT1.st.na i trivial)
   have hO2 := z06 hO1 (fun j o hj => hk2 j o hj)
   obtain ⟨v3', S3, c3, ha3, hO3, hf3⟩ := zbj (P := Try.prog) Try.underlying25 zwl hsrc hO2 (zqp (by omega))
   simp (maxSteps:=1000000) (disch:=first|assumption|omega|rfl) only [↓gp, gc, Nat.reduceAdd, ↓vbs, hPS, zagg, z32v, kW, qF, vK, vC, hra, hlk, h1, kP, svz, sv, lv, zT, zQ, hr5, hbs, ha3, hci]
   have hK2 : Keep S0 S2 := (hK.trans Keep.app).trans hk2
   refine ih (i + 1) (d ++ [n]) r' (us ++ [u]) S3 v3' _ _ _ _ _ _ _ _ _ _ _ _ _ _ _ _ _ _ _ _ _ (by omega) (by omega) (by rw [ht, h0]; simp) (fun x hx => ?_) (fun x hx => by have := h2 x hx; omega) (fun j o hj => (hf3 j o (hK2 j o hj) (hN j o hj)).1) (fun j o hj => (hf3 j o (hK2 j o hj) (hN j o hj)).2) hO3 (hU.snoc ?_) hR
   ·rcases List.mem_append.1 hx with hx | hx
    ·have := hd x hx; omega
    ·rw [List.mem_singleton.1 hx]; omega
   ·rw [hgn] at hu
    rw [hni]
    exact hu.symm
theorem q1b {S : zA} {T : List V} {x : Nat} {v : V} (hx : T.getD x (.tup []) = v) : jQ Try.prog #[.tmp x] T S = some v := by
 show wS Try.prog T S (.tmp x) = some v
 simp only [wS, hx]
theorem zsv (S0 : zA) (a m : Nat) (A B : Int → V) (t : List Node) (hT0 : Tree S0 a m A B t) (hsr : Srt t) (hn0 : ∀ n ∈ t, 0 ≤ n.ino ∧ n.ino ≤ 128) (hl : t.length < 400000) : EvS cfgS 41 [.ref a 0 0] S0 fun o S => ∃ v us, o = .ret v ∧ Keep S0 S ∧ OwnS S v 32 us ∧ Us A B t us := by
 refine wU rfl zw1 ?_
 show Wp cfgS (Try.f41.body.getD .skip) ((.ref a 0 0) :: uZ (uZ ((.tup []) :: (.tup []) :: (.tup []) :: (.tup []) :: (.tup []) :: []))) S0 [] _
 unfold uZ
 conv => arg 2; whnf
 rw [qL]
 simp (maxSteps:=1000000) (disch:=first|assumption|omega|rfl) only [↓gp, gc, Nat.reduceAdd, hPS]
 refine ztu S0 a m A B t hT0 hsr hn0 hl _ _ _ 129 0 [] t [] _ _ _ _ _ _ _ _ _ _ _ _ _ _ _ _ _ _ _ _ _ _ _ rfl (by omega) rfl (fun n hn => by cases hn) (fun n hn => (hn0 n hn).1) Keep.refl (fun j o hj => NotAt.ts) OwnS.nil trivial ?_
 intro S v3 us i' g4 g5 g6 g8 g9 gH gO gI gD gA gE gF gG gB gC gJ gK gN gL gM gP hK hO hU
 simp (maxSteps:=1000000) (disch:=first|assumption|omega|rfl) only [↓gp, gc, Nat.reduceAdd, hPS]
 exact ⟨rfl, _, q1b rfl, _, us, rfl, hK, hO, hU⟩
theorem ziw (o : Opn) : Ev cfg 39 [encOpn o] (.ret (.d (.int .i64 (if mayN o then 0 else 1)))) := by
 refine kR rfl rfl zvl ?_
 show Wp cfg (Try.f39.body.getD .skip) ((.d (encOpn o)) :: uZ ((.tup []) :: (.tup []) :: (.tup []) :: (.tup []) :: (.tup []) :: (.tup []) :: [])) [] [] _
 unfold uZ
 conv => arg 2; whnf
 by_cases c1 : o.does < 1
 ·have e : mayN o = false := decide_eq_false (fun h => by omega)
  simp (maxSteps:=1000000) (disch:=first|assumption|omega|rfl) only [↓gp, gc, Nat.reduceAdd, lenB]
  rw [e]
  exact zM rfl rfl rfl
 ·by_cases c2 : o.does > 13
  ·have e : mayN o = false := decide_eq_false (fun h => by omega)
   simp (maxSteps:=1000000) (disch:=first|assumption|omega|rfl) only [↓gp, gc, Nat.reduceAdd, lenB]
   rw [e]
   exact zM rfl rfl rfl
  ·by_cases c3 : (o.data.length : Int) > 1024
   ·have e : mayN o = false := decide_eq_false (fun h => by omega)
    simp (maxSteps:=1000000) (disch:=first|assumption|omega|rfl) only [↓gp, gc, Nat.reduceAdd, lenB]
    rw [e]
    exact zM rfl rfl rfl
   ·have e : mayN o = true := decide_eq_true ⟨by omega, by omega, by omega⟩
    simp (maxSteps:=1000000) (disch:=first|assumption|omega|rfl) only [↓gp, gc, Nat.reduceAdd, lenB]
    rw [e]
    exact zM rfl rfl rfl
theorem zhy {ops : Array Oper} {dst : Option Tmp} {k : List Oper} {T : List V} {S : zA} {F : Dfs} {Q : Post} {o : Opn} :
  WpR cfgS ops dst k T S F Q (some (.enter 39 [.d (encOpn o)])) = WpL cfgS ops k (putT T dst (.d (.int .i64 (if mayN o then 0 else 1)))) S F Q :=
 zV (ds := [encOpn o]) rfl (lift rfl (ziw o))
theorem zmi {ops : Array Oper} {dst : Option Tmp} {k : List Oper} {T : List V} {S : zA} {F : Dfs} {Q : Post} {o : Opn} (hm : mayN o = true) :
  WpR cfgS ops dst k T S F Q (some (.enter 39 [.d (encOpn o)])) = WpL cfgS ops k (putT T dst (.d (.int .i64 0))) S F Q := by rw [zhy, hm]; rfl
theorem zm4 {ops : Array Oper} {dst : Option Tmp} {k : List Oper} {T : List V} {S : zA} {F : Dfs} {Q : Post} {o : Opn} (hm : mayN o = false) :
  WpR cfgS ops dst k T S F Q (some (.enter 39 [.d (encOpn o)])) = WpL cfgS ops k (putT T dst (.d (.int .i64 1))) S F Q := by rw [zhy, hm]; rfl
theorem zsi : qH Try.prog 44 (ansV okN (.ts []) (.ts [])) = true := by kernel_rfl
theorem zmz {b : List UInt8} {off n : Int} : (z8l b off n).length ≤ b.length := by
 unfold z8l
 split
 ·exact Nat.zero_le _
 ·rw [List.length_drop, List.length_take]; omega
structure AnsP (t : List Node) (q : List Node × Ans) : Prop where
 data : q.2.data.length ≤ 34304
 fail : q.2.err ≠ 0 → q = (t, qV q.2.err)
theorem AnsP.no {t : List Node} {e : Int} : AnsP t (t, qV e) := ⟨Nat.zero_le _, fun _ => rfl⟩
theorem AnsP.ok {t u : List Node} : AnsP t (u, okN) := ⟨Nat.zero_le _, fun h => absurd rfl h⟩
theorem zns {t : List Node} {o : Opn} : AnsP t (z17 t o) := by
 unfold z17
 repeat' split
 all_goals first | exact AnsP.no | exact ⟨Nat.zero_le _, fun h => absurd rfl h⟩
theorem zmy {t : List Node} {o : Opn} : AnsP t (z0g t o) := by
 unfold z0g
 repeat' split
 all_goals first | exact AnsP.no | exact AnsP.ok
theorem zgo {t : List Node} {o : Opn} : AnsP t (wB t o) := by
 unfold wB
 repeat' split
 all_goals first | exact AnsP.no | exact AnsP.ok
theorem zfq {t : List Node} {o : Opn} : AnsP t (kA t o) := by
 unfold kA z08
 repeat' split
 all_goals first | exact AnsP.no | exact AnsP.ok
theorem zkc {k : Nat} {t : List Node} {o : Opn} (hS : Small k t) : AnsP t (wI t o) := by
 have hf := fun x => (z6w (x := x) hS).2
 unfold wI z3w
 repeat' split
 all_goals first | exact AnsP.no | exact AnsP.ok | exact ⟨Nat.le_trans zmz (hf _), fun h => absurd rfl h⟩
theorem znf {t : List Node} {o : Opn} : AnsP t (t, z1j t o) := by
 unfold z1j zjz
 repeat' split
 all_goals first | exact AnsP.no | exact AnsP.ok | exact ⟨Nat.zero_le _, fun h => absurd rfl h⟩
theorem ansP {k : Nat} {t : List Node} {o : Opn} (hS : Small k t) : AnsP t (qU t o) := by
 unfold qU
 split
 ·exact AnsP.no
 split
 ·exact zns
 split
 ·exact zmy
 split
 ·exact zgo
 split
 ·exact zfq
 split
 ·exact zkc hS
 split
 ·exact znf
 ·exact AnsP.ok
theorem z94 : zeroV Try.prog 94 = some (.d .nilp) := by kernel_rfl
theorem zf94 : qH Try.prog 94 (.d .nilp) = true := by kernel_rfl
theorem sr94 {a : Nat} : qX Try.prog 94 0 (.ref a 0 0) (.d .nilp) = some (.ref a 0 0) := by kernel_rfl
theorem bd44 {e : Int} : z05 Try.prog 44 [(0, .d (.int .i64 e))] = some (ansV (qV e) (.ts []) (.ts [])) := by kernel_rfl
theorem sa44 {x y : Ans} {v5 v6 w5 w6 : V} : qX Try.prog 44 0 (ansV x v5 v6) (ansV y w5 w6) = some (ansV x v5 v6) := by kernel_rfl
theorem la44 {x : Ans} {v5 v6 : V} : kS Try.prog 44 0 (some (ansV x v5 v6)) = some (ansV x v5 v6) := by kernel_rfl
theorem al5 {x : Ans} {v5 v6 : V} : kS Try.prog 29 5 (some (ansV x v5 v6)) = some v5 := by kernel_rfl
theorem zd2 {S : zA} {x : Ans} {v5 v6 : V} (h5 : frz S 11 v5 = some (encB x.data)) (h6 : frz S 11 v6 = some (.sl (x.names.map .str))) : frz S zO (ansV x v5 v6) = some (qO x) := by
 show (match allO (frz S 11) [.d (.int .i64 x.err), .d (.int .i64 x.ino), .d (.int .i64 x.kind), .d (.int .i64 x.links), .d (.int .i64 x.size), v5, v6] with | some ds => if ds.any D.isAgg then none else some (D.agg ds) | none => none) = _
 have h2 : ∀ x : D, frz S 11 (.d x) = some x := fun _ => rfl
 simp only [allO, h5, h6, h2]
 rfl
theorem zn8 {S : zA} {v : V} {l : List UInt8} (h : srcV Try.prog S 5 29 v = some (l.map fun b => .d (encU b))) (hl : l.length < 900000) : ∃ v' S' c, qI Try.prog S 29 29 (.ts []) v = some (v', S', c) ∧ OwnS S' v' 5 (l.map fun b => .d (encU b)) ∧ Keep S S' := by
 cases l with
 | nil =>
  refine ⟨.ts [], S, 1, ?_, .inl ⟨rfl, rfl⟩, Keep.refl⟩
  simp only [List.map_nil] at h
  simp only [qI, Try.underlying29, h]
 | cons b r =>
  simp only [List.map_cons] at h
  have hr := zng (n := 0 + (r.length + 1)) (by simp at hl; omega)
  refine ⟨.rs S.length 0 (r.length + 1), S ++ [.row ((b :: r).map fun b => .d (encU b)) 5], 2, ?_, .inr ⟨S.length, by simp, by simp⟩, Keep.app⟩
  simp only [qI, Try.underlying29, h, zok5, if_true, List.all_nil, List.length_nil, List.length_map, hr, Bool.and_self, List.map_nil, List.nil_append, List.map_cons, Nat.zero_add]
  rw [if_pos]
  rw [Nat.zero_add] at hr
  simp [hr]
theorem zq7 {S : zA} {x : Ans} {v5 v6 : V} {l5 : List V} {l6 : List (List UInt8)} (h5 : OwnS S v5 5 l5) (h6 : SlE encS S v6 9 l6) : z3q (ansV x v5 v6) (ansV x v5 v6) = true := by
 have e5 : wP v5 v5 = true := by rcases h5 with ⟨rfl, _⟩ | ⟨id, rfl, _⟩ <;> simp [wP, wQ, z0i]
 have e6 : wP v6 v6 = true := by rcases h6 with ⟨rfl, _⟩ | ⟨id, ys, rfl, _⟩ <;> simp [wP, wQ, z0i]
 have ei : ∀ k : Int, wP (.d (.int .i64 k)) (.d (.int .i64 k)) = true := fun k => by simp [wP, wQ, z50, kO]
 show z1c _ _ = true
 simp only [z1c, ei, e5, e6, Bool.and_self]
theorem zi3 {S : zA} {v : V} {l : List UInt8} (h : OwnS S v 5 (l.map fun b => .d (encU b))) : frz S 11 v = some (encB l) := (SlE.of h).frz
theorem z2v {S : zA} {v : V} {e e' : TypeId} {xs ys : List V} {i : Nat} (h : OwnS S v e xs) (hi : S[i]? = some (.row ys e')) (hne : e ≠ e') : NotAt v i := by
 intro off l hv
 rcases h with ⟨rfl, _⟩ | ⟨id, rfl, h1⟩
 ·cases hv
 ·cases hv
  rw [hi] at h1
  simp only [Option.some.injEq, Ob.row.injEq] at h1
  exact hne h1.2.symm
theorem zm5 {S : zA} {a m : Nat} {A B : Int → V} {t : List Node} {v : V} {us : List V} (hT : Tree S a m A B t) (hs : Srt t) (hO : OwnS S v 32 us) (hU : Us A B t us) : frz S zO v = some (.sl (t.map zB)) :=
 zhq hO (Us.frz (fun _ => trivial) (fun n hn => by have := hT.st.nodeF (x := n.ino) trivial (n := 8); rw [z72 hs.uniq hn] at this; exact this) hU)
theorem q1p (t : List Node) (k0 : Nat) (hk0 : k0 < 190000) (hG : Good k0 t) (o : Opn) (hl : o.a.length < 900000) (hlb : o.b.length < 900000) (hn0 : ∀ n ∈ t, 0 ≤ n.ino ∧ n.ino ≤ 128) (hn1 : ∀ n ∈ (qU t o).1, 0 ≤ n.ino ∧ n.ino ≤ 128) :
  Ev cfgS 19 [.sl (t.map zB), encOpn o] (.ret (.tup [.d (.sl ((qU t o).1.map zB)), .d (qO (qU t o).2)])) := by
 have hk1 : k0 < 300000 := by omega
 have hlt : t.length < 400000 := Nat.lt_of_le_of_lt hG.sm.len (by omega)
 refine kR rfl rfl zwe ?_
 show Wp cfgS (Try.f19.body.getD .skip) ((.d (.sl (t.map zB))) :: (.d (encOpn o)) :: uZ (uZ (uZ ((.tup []) :: (.tup []) :: (.tup []) :: (.tup []) :: (.tup []) :: (.tup []) :: [])))) [] [] _
 unfold uZ
 conv => arg 2; whnf
 rw [qL]
 cases hm : mayN o with
 | false =>
  have hq : qU t o = (t, qV 1) := by unfold qU; rw [if_pos hm]
  rw [hq]
  simp (maxSteps:=1000000) (disch:=first|assumption|omega|rfl) only [↓gp, gc, Nat.reduceAdd, hPS, z44, zf44, zans, zsi, zT, zm4 hm, bo39]
  refine jG rfl (ztg _ t k0 hk1 hG.sm hG.lj.srt) ?_ ?_
  ·rintro v S1 ⟨a, m, A, B, hv, hK1, hT1, _⟩
   cases hv
   simp (maxSteps:=1000000) (disch:=first|assumption|omega|rfl) only [↓gp, gc, Nat.reduceAdd, hPS]
   refine jG rfl (zsv S1 a m A B t hT1 hG.lj.srt hn0 hlt) ?_ ?_
   ·rintro v S2 ⟨v', us, hv, hK2, hO, hU⟩
    cases hv
    have h1 : S2[1]? = some (.row [ansV okN (.ts []) (.ts [])] 44) := hK2 _ _ (hK1 1 _ rfl)
    have hr1 := zF h1
    have hpr1 := fun y => qB (y := y) h1
    have hT3 := (hT1.keep hK2).other (o := .row [ansV (qV 1) (.ts []) (.ts [])] 44) h1 (by decide) (by decide) (by decide)
    have hO3 : OwnS (S2.set 1 (.row [ansV (qV 1) (.ts []) (.ts [])] 44)) v 32 us := wN hO (z2v hO h1 (by decide))
    simp (maxSteps:=1000000) (disch:=first|assumption|omega|rfl) only [↓gp, gc, Nat.reduceAdd, hPS, bd44, sa44, hr1, hpr1]
    exact qJ rfl rfl ((jU (zF (jL h1))).trans la44) (z2j hO) rfl (zm5 hT3 hG.lj.srt hO3 hU) (zd2 rfl rfl)
   ·rintro v S2 ⟨v', us, hv, _⟩
    cases hv
  ·rintro v S1 ⟨a, m, A, B, hv, _⟩
   cases hv
 | true =>
  simp (maxSteps:=1000000) (disch:=first|assumption|omega|rfl) only [↓gp, gc, Nat.reduceAdd, hPS, z44, zf44, zans, zsi, zT, zmi hm, bo39]
  refine jG rfl (ztg _ t k0 hk1 hG.sm hG.lj.srt) ?_ ?_
  ·rintro v S1 ⟨a, m, A, B, hv, hK1, hT1, _⟩
   cases hv
   have h01 : S1[0]? = some (.row [.d (encOpn o)] 48) := hK1 0 _ rfl
   have h11 : S1[1]? = some (.row [ansV okN (.ts []) (.ts [])] 44) := hK1 1 _ rfl
   have hl1 := qM h11
   simp (maxSteps:=1000000) (disch:=first|assumption|omega|rfl) only [↓gp, gc, Nat.reduceAdd, hPS, z44, zf44, zans, zsi, z94, zf94, sr94, zT, zQ, ↓z5d, zre, bo42]
   have h72 : (S1 ++ [Ob.row [.ref a 0 0] 94] ++ [Ob.row [ansV okN (.ts []) (.ts [])] 44])[S1.length]? = some (.row [.ref a 0 0] 94) := qS jC
   have hr2 : (S1 ++ [Ob.row [.ref a 0 0] 94] ++ [Ob.row [ansV okN (.ts []) (.ts [])] 44])[(S1 ++ [Ob.row [.ref a 0 0] 94]).length]? = some (.row [ansV okN (.ts []) (.ts [])] 44) := jC
   have hK2 : Keep S1 (S1 ++ [Ob.row [.ref a 0 0] 94] ++ [Ob.row [ansV okN (.ts []) (.ts [])] 44]) := Keep.app.trans Keep.app
   have hrl : (S1 ++ [Ob.row [.ref a 0 0] 94]).length = S1.length + 1 := by simp
   generalize (S1 ++ [Ob.row [.ref a 0 0] 94]).length = r at *
   generalize S1 ++ [Ob.row [.ref a 0 0] 94] ++ [Ob.row [ansV okN (.ts []) (.ts [])] 44] = S2 at *
   have hT2 := hT1.keep hK2
   have hst := zxx S2 a m r S1.length 0 A B t hT2 k0 hk0 hG o hm hl hlb hr2 h72 (hK2 _ _ h01)
   have hne : r ≠ 1 := by omega
   have h12 := hK2 _ _ h11
   by_cases he : (qU t o).2.err = 0
   ·refine jG (R := fun o' S3 => o' = .ret (.d (.int .i64 0)) ∧ (∃ A' B' v5 v6, Tree S3 a m A' B' (qU t o).1 ∧ S3[r]? = some (.row [ansV (qU t o).2 v5 v6] 44) ∧ srcV Try.prog S3 5 29 v5 = some ((qU t o).2.data.map fun b => .d (encU b)) ∧ SlE encS S3 v6 9 (qU t o).2.names) ∧ KeepR r S2 S3) rfl (z69 (f := 42) (g := 43) (first := []) (caps := [.ref S1.length 0 0, .ref 0 0 0, .ref r 0 0]) (pst := z1g) rfl hst ?_) ?_ ?_
    ·intro o' S3 hR
     unfold Res at hR
     rw [if_pos he] at hR
     obtain ⟨⟨w, rfl⟩, h1, h2⟩ := hR
     exact ⟨_, rfl, rfl, h1, h2⟩
    ·rintro v S3 ⟨hv, ⟨A3, B3, v5, v6, hT3, hr3, h53, h63⟩, hk3⟩
     cases hv
     have h73 := hk3 _ _ _ (.inl rfl) (by omega) h72
     have h13 := hk3 _ _ _ (.inr rfl) (Ne.symm hne) h12
     have hrr3 := zF hr3
     have hsr1 : Srt (qU t o).1 := (hG.lj.step hG.ti).srt
     have hS1 : Small (k0 + 5) (qU t o).1 := hG.sm.step
     have hlt1 : (qU t o).1.length < 400000 := Nat.lt_of_le_of_lt hS1.len (by omega)
     obtain ⟨v5', S4, c4, ha4, hO4, hK4⟩ := zn8 h53 (by have := (ansP (o := o) hG.sm).data; omega)
     have hr4 := hK4 _ _ hr3
     have hrr4 := zF hr4
     have hpr4 := fun y => qB (y := y) hr4
     have hsa4 := av5 (x := (qU t o).2) (v5 := v5) (v6 := v6) (z13 hO4 (by kernel_rfl) (by kernel_rfl)) (z04 hO4)
     have h55 : OwnS (S4.set r (.row [ansV (qU t o).2 v5' v6] 44)) v5' 5 ((qU t o).2.data.map fun b => .d (encU b)) := wN hO4 (z2v hO4 hr4 (by decide))
     have h65 : SlE encS (S4.set r (.row [ansV (qU t o).2 v5' v6] 44)) v6 9 (qU t o).2.names := by
      refine (h63.keep hK4).frame2 fun j q hj hh => ?_
      rw [List.getElem?_set_ne]
      ·exact hj
      ·rintro rfl
       obtain ⟨ys, h9⟩ := (h63.keep hK4).row hh
       rw [hr4] at h9
       simp only [Option.some.injEq, Ob.row.injEq] at h9
       exact absurd h9.2 (by decide)
     have hT5 := (hT3.keep hK4).other (o := .row [ansV (qU t o).2 v5' v6] 44) hr4 (by decide) (by decide) (by decide)
     have h75 : (S4.set r (.row [ansV (qU t o).2 v5' v6] 44))[S1.length]? = some (.row [.ref a 0 0] 94) := by rw [List.getElem?_set_ne (by omega)]; exact hK4 _ _ h73
     have h15 : (S4.set r (.row [ansV (qU t o).2 v5' v6] 44))[1]? = some (.row [ansV okN (.ts []) (.ts [])] 44) := by rw [List.getElem?_set_ne hne]; exact hK4 _ _ h13
     have hr5 : (S4.set r (.row [ansV (qU t o).2 v5' v6] 44))[r]? = some (.row [ansV (qU t o).2 v5' v6] 44) := jL hr4
     simp (maxSteps:=1000000) (disch:=first|assumption|omega|rfl) only [↓gp, gc, Nat.reduceAdd, ↓vbs, hPS, zbs, hrr3, al5, ha4, hrr4, hsa4, hpr4]
     generalize S4.set r (.row [ansV (qU t o).2 v5' v6] 44) = S5 at *
     have hr75 := zF h75
     have hrr5 := zF hr5
     refine vM (is := [0, 2, 1, 3, 4]) (h := 0) (by kernel_rfl) (by kernel_rfl) ?_
     simp (maxSteps:=1000000) (disch:=first|assumption|omega|rfl) only [List.replicate_zero, eq_self, gw, ga, Nat.reduceAdd, ↓gq, hPS, List.append_nil, hr75, hrr5, lr94, la44]
     refine z8v rfl (zsv S5 a m _ _ _ hT5 hsr1 hn1 hlt1) ?_ ?_
     ·rintro v S6 ⟨v', us, hv, hK6, hO6, hU6⟩
      cases hv
      have h16 := hK6 _ _ h15
      have hr16 := zF h16
      have hpr6 := fun y => qB (y := y) h16
      have hld : jZ Try.prog S6 44 (.ref r 0 0) = some (ansV (qU t o).2 v5' v6) := (jU (zF (hK6 _ _ hr5))).trans la44
      refine ⟨jV rfl (by kernel_rfl) rfl (ld1 hld) (zq7 h55 h65) (zH (by kernel_rfl) qW), ?_⟩
      simp (maxSteps:=1000000) (disch:=first|assumption|omega|rfl) only [List.replicate_zero, eq_self, gw, ga, Nat.reduceAdd, ↓gq, hPS, List.append_nil, hr16, sa44, hpr6]
      refine ⟨zH (by kernel_rfl) (zH (by kernel_rfl) qW), by kernel_rfl, ?_⟩
      simp (maxSteps:=1000000) (disch:=first|assumption|omega|rfl) only [↓gp, gc, Nat.reduceAdd, hPS]
      have hT7 := (hT5.keep hK6).other (o := .row [ansV (qU t o).2 v5' v6] 44) h16 (by decide) (by decide) (by decide)
      have hO7 : OwnS (S6.set 1 (.row [ansV (qU t o).2 v5' v6] 44)) v 32 us := wN hO6 (z2v hO6 h16 (by decide))
      have h57 : OwnS (S6.set 1 (.row [ansV (qU t o).2 v5' v6] 44)) v5' 5 ((qU t o).2.data.map fun b => .d (encU b)) := wN (z06 h55 fun j o hj => hK6 j o hj) (z2v (z06 h55 fun j o hj => hK6 j o hj) h16 (by decide))
      have h67 : SlE encS (S6.set 1 (.row [ansV (qU t o).2 v5' v6] 44)) v6 9 (qU t o).2.names := by
       refine (h65.keep hK6).frame2 fun j q hj hh => ?_
       rw [List.getElem?_set_ne]
       ·exact hj
       ·rintro rfl
        obtain ⟨ys, h9⟩ := (h65.keep hK6).row hh
        rw [h16] at h9
        simp only [Option.some.injEq, Ob.row.injEq] at h9
        exact absurd h9.2 (by decide)
      exact qJ rfl rfl ((jU (zF (jL h16))).trans la44) (z2j hO7) rfl (zm5 hT7 hsr1 hO7 hU6) (zd2 (zi3 h57) h67.frz)
     ·rintro v S6 ⟨v', us, hv, _⟩
      cases hv
    ·rintro v S3 ⟨hv, _⟩
     cases hv
   ·have hq := (ansP (o := o) hG.sm).fail he
    have hx : ∀ x : Int, x = (qU t o).2.err → (qU t o) = (t, qV x) := fun x hx => by rw [hx]; exact hq
    refine jG (R := fun o' S3 => o' = .ret (.d (.int .i64 (qU t o).2.err)) ∧ Keep S2 S3) rfl (z69 (f := 42) (g := 43) (first := []) (caps := [.ref S1.length 0 0, .ref 0 0 0, .ref r 0 0]) (pst := z1g) rfl hst ?_) ?_ ?_
    ·intro o' S3 hR
     unfold Res at hR
     rw [if_neg he] at hR
     obtain ⟨rfl, h2⟩ := hR
     exact ⟨_, rfl, rfl, h2⟩
    ·rintro v S3 ⟨hv, hk3⟩
     cases hv
     generalize hee : (qU t o).2.err = e at *
     rw [hx e rfl]
     simp (maxSteps:=1000000) (disch:=first|assumption|omega|rfl) only [↓gp, gc, Nat.reduceAdd, hPS]
     refine jG rfl (ztg _ t k0 hk1 hG.sm hG.lj.srt) ?_ ?_
     ·rintro v S4 ⟨a4, m4, A4, B4, hv, hK4, hT4, _⟩
      cases hv
      simp (maxSteps:=1000000) (disch:=first|assumption|omega|rfl) only [↓gp, gc, Nat.reduceAdd, hPS]
      refine jG rfl (zsv S4 a4 m4 A4 B4 t hT4 hG.lj.srt hn0 hlt) ?_ ?_
      ·rintro v S5 ⟨v', us, hv, hK5, hO, hU⟩
       cases hv
       have h1 : S5[1]? = some (.row [ansV okN (.ts []) (.ts [])] 44) := hK5 _ _ (hK4 _ _ (hk3 _ _ h12))
       have hr1 := zF h1
       have hpr1 := fun y => qB (y := y) h1
       have hT6 := (hT4.keep hK5).other (o := .row [ansV (qV e) (.ts []) (.ts [])] 44) h1 (by decide) (by decide) (by decide)
       have hO6 : OwnS (S5.set 1 (.row [ansV (qV e) (.ts []) (.ts [])] 44)) v 32 us := wN hO (z2v hO h1 (by decide))
       simp (maxSteps:=1000000) (disch:=first|assumption|omega|rfl) only [↓gp, gc, Nat.reduceAdd, hPS, bd44, sa44, hr1, hpr1]
       exact qJ rfl rfl ((jU (zF (jL h1))).trans la44) (z2j hO) rfl (zm5 hT6 hG.lj.srt hO6 hU) (zd2 rfl rfl)
      ·rintro v S5 ⟨v', us, hv, _⟩
       cases hv
     ·rintro v S4 ⟨a4, m4, A4, B4, hv, _⟩
      cases hv
    ·rintro v S3 ⟨hv, _⟩
     cases hv
  ·rintro v S1 ⟨a, m, A, B, hv, _⟩
   cases hv
theorem zbx {l : List Opn} {m : Int} (hm : m ≤ 1000) (h : zam l m = false) : Script l := by
 unfold zam at h
 rw [Bool.or_eq_false_iff] at h
 obtain ⟨h1, h2⟩ := h
 have h1 := of_decide_eq_false h1
 have h3 : ∀ o ∈ l, ¬ ((o.a.length : Int) > 300 ∨ (o.b.length : Int) > 300 ∨ (o.data.length : Int) > 1100) := fun o ho hbad => (List.any_eq_false.1 h2 o ho) (decide_eq_true hbad)
 exact ⟨by omega, fun o ho => by have := h3 o ho; omega, fun o ho => by have := h3 o ho; omega, fun o ho => by have := h3 o ho; omega⟩
theorem bo16 : (zC Try.prog 16).isSome = true := by kernel_rfl
theorem q17 : zC Try.prog 8 = some ⟨Try.f8.body.getD .skip, 100, #[.tmp 4]⟩ := by
 unfold zC
 rw [Try.func8]
 rfl
theorem q0c : zC Try.prog 17 = some ⟨Try.f17.body.getD .skip, 3, #[.tmp 0]⟩ := by
 unfold zC
 rw [Try.func17]
 rfl
theorem zw6 : zC Try.prog 33 = some ⟨Try.f33.body.getD .skip, 16, #[.tmp 2]⟩ := by
 unfold zC
 rw [Try.func33]
 rfl
theorem zyl : zC Try.prog 34 = some ⟨Try.f34.body.getD .skip, 40, #[.tmp 4]⟩ := by
 unfold zC
 rw [Try.func34]
 rfl
theorem zyf : zC Try.prog 68 = some ⟨Try.f68.body.getD .skip, 27, #[.tmp 4]⟩ := by
 unfold zC
 rw [Try.func68]
 rfl
theorem zsq : zC Try.prog 103 = some ⟨Try.f103.body.getD .skip, 60, #[.tmp 4]⟩ := by
 unfold zC
 rw [Try.func103]
 rfl
theorem q1v {S : zA} : bs1 Try.prog S 25 (.agg [.d (.int .i64 1), .d (.int .i64 2), .d (.int .i64 1), .d (.int .i64 1), .d (.int .i64 0), .ts [], .ts []]) = some (.val (.ts (newN.map zB)) S 0) := by kernel_rfl
theorem q29 : z05 Try.prog 32 [(0, .d (.int .i64 1)), (1, .d (.int .i64 2)), (2, .d (.int .i64 1)), (3, .d (.int .i64 1))] = some (.agg [.d (.int .i64 1), .d (.int .i64 2), .d (.int .i64 1), .d (.int .i64 1), .d (.int .i64 0), .ts [], .ts []]) := by kernel_rfl
theorem q1f : Ev cfg 17 [] (.ret (.d (.sl (newN.map zB)))) := by
 refine kR rfl rfl q0c ?_
 show Wp cfg (Try.f17.body.getD .skip) ((.tup []) :: (.tup []) :: (.tup []) :: []) [] [] _
 conv => arg 2; whnf
 simp (maxSteps:=1000000) (disch:=first|assumption|omega|rfl) only [↓gp, gc, Nat.reduceAdd, ↓vbs, q29, q1v]
 exact zM rfl rfl rfl
theorem bd48 {S : zA} {a d e : Int} {b c : List UInt8} {v : V} {xs : List V} (h : OwnS S v 5 xs) : z05 Try.prog 48 [(0, .d (.int .i64 a)), (1, .d (.str b)), (2, .d (.str c)), (3, .d (.int .i64 d)), (4, .d (.int .i64 e)), (5, v)] = some (.agg [.d (.int .i64 a), .d (.str b), .d (.str c), .d (.int .i64 d), .d (.int .i64 e), v]) := by
 rcases h with ⟨rfl, _⟩ | ⟨id, rfl, _⟩ <;> kernel_rfl
theorem sv48 {x0 x1 x2 x3 x4 x5 y0 y1 y2 y3 y4 y5 : V} : qX Try.prog 48 0 (.agg [x0, x1, x2, x3, x4, x5]) (.agg [y0, y1, y2, y3, y4, y5]) = some (.agg [x0, x1, x2, x3, x4, x5]) := by kernel_rfl
theorem lv48 {x0 x1 x2 x3 x4 x5 : V} : kS Try.prog 48 0 (some (.agg [x0, x1, x2, x3, x4, x5])) = some (.agg [x0, x1, x2, x3, x4, x5]) := by kernel_rfl
theorem zdq {x : List UInt8} : z3q (.d (.str x)) (.d (.str x)) = true := by simp [z3q, wP, wQ, z50, kO]
theorem zuj (o : Opn) (hl : o.data.length < 900000) : Ev cfg 20 [encOpn o] (.ret (.d (encOpn o))) := by
 refine kR rfl rfl zzq ?_
 show Wp cfg (Try.f20.body.getD .skip) ((.d (encOpn o)) :: uZ ((.tup []) :: (.tup []) :: (.tup []) :: (.tup []) :: (.tup []) :: (.tup []) :: (.tup []) :: [])) [] [] _
 unfold uZ
 conv => arg 2; whnf
 simp (maxSteps:=1000000) (disch:=first|assumption|omega|rfl) only [↓gp, gc, Nat.reduceAdd, z48, zf48]
 obtain ⟨v5, S1, c, ha, hO, hK⟩ := zn8 (S := [.row [.d (encOpn o)] 50, .row [.agg [.d (.int .i64 0), .d (.str []), .d (.str []), .d (.int .i64 0), .d (.int .i64 0), .ts []]] 48]) (v := .d (encB o.data)) (l := o.data) zsf hl
 have h0 := hK 0 _ rfl
 have h1 := hK 1 _ rfl
 have hr0 := zF h0
 have hr1 := zF h1
 have hp1 := fun y => qB (y := y) h1
 have hl0 : ∀ (t : TypeId) (f : Nat) (y : V), kS Try.prog t f (some (.d (encOpn o))) = some y → (jZ Try.prog S1 t (.ref 0 0 f)).map (fun v => Rs.val v S1 1) = some (.val y S1 1) := fun t f y h => ld1 ((jU hr0).trans h)
 have hc : c = 1 ∧ S1 = [.row [.d (encOpn o)] 50, .row [.agg [.d (.int .i64 0), .d (.str []), .d (.str []), .d (.int .i64 0), .d (.int .i64 0), .ts []]] 48] ∨ c = 2 := by
  cases hd : o.data with
  | nil =>
   rw [hd] at ha
   left
   have e : qI Try.prog [.row [.d (encOpn o)] 50, .row [.agg [.d (.int .i64 0), .d (.str []), .d (.str []), .d (.int .i64 0), .d (.int .i64 0), .ts []]] 48] 29 29 (.ts []) (.d (encB [])) = some (.ts [], [.row [.d (encOpn o)] 50, .row [.agg [.d (.int .i64 0), .d (.str []), .d (.str []), .d (.int .i64 0), .d (.int .i64 0), .ts []]] 48], 1) := by kernel_rfl
   rw [e] at ha
   cases ha
   exact ⟨rfl, rfl⟩
  | cons b r =>
   right
   rw [hd] at ha
   have hs := zsf (S := [.row [.d (encOpn o)] 50, .row [.agg [.d (.int .i64 0), .d (.str []), .d (.str []), .d (.int .i64 0), .d (.int .i64 0), .ts []]] 48]) (l := b :: r)
   rw [List.map_cons] at hs
   simp only [qI, Try.underlying29, hs, zok5, if_true] at ha
   split at ha
   ·simp only [Option.some.injEq, Prod.mk.injEq] at ha
    exact ha.2.2.symm
   ·cases ha
 have fin : ∀ T : List V, T.getD 2 (.tup []) = .ref 1 0 0 → RetQ cfg.P #[.cell 2 48] (.ret (.d (encOpn o))) .ret T (S1.set 1 (.row [.agg [.d (.int .i64 o.does), .d (.str o.a), .d (.str o.b), .d (.int .i64 o.off), .d (.int .i64 o.n), v5]] 48)) [] := fun T hT => by
  have h5 : frz (S1.set 1 (.row [.agg [.d (.int .i64 o.does), .d (.str o.a), .d (.str o.b), .d (.int .i64 o.off), .d (.int .i64 o.n), v5]] 48)) 11 v5 = some (encB o.data) := zi3 (wN hO (z2v hO h1 (by decide)))
  refine vO hT ((jU (zF (jL h1))).trans lv48) rfl ?_
  show (match allO (frz _ 11) [.d (.int .i64 o.does), .d (.str o.a), .d (.str o.b), .d (.int .i64 o.off), .d (.int .i64 o.n), v5] with | some ds => if ds.any D.isAgg then none else some (D.agg ds) | none => none) = _
  have h2 : ∀ (S : zA) (x : D), frz S 11 (.d x) = some x := fun _ _ => rfl
  simp only [allO, h5, h2]
  rfl
 refine vM (is := [0, 1, 2, 3, 4, 5, 6, 7, 8, 9, 10, 11, 12, 13, 14, 15]) (h := 0) (by kernel_rfl) (by kernel_rfl) ?_
 rcases hc with ⟨rfl, rfl⟩ | rfl
 ·simp (maxSteps:=1000000) (disch:=first|assumption|omega|rfl) only [List.replicate_zero, eq_self, gw, ga, Nat.reduceAdd, ↓gq, List.append_nil, zbs, ha, hr0, hr1, bd48 hO, sv48, hp1]
  refine ⟨zH (by kernel_rfl) (zH (by kernel_rfl) (zH (by kernel_rfl) (zH (by kernel_rfl) (zH (by kernel_rfl) (zH (by kernel_rfl) (zH (by kernel_rfl) qW)))))), by kernel_rfl, ?_⟩
  simp (maxSteps:=1000000) (disch:=first|assumption|omega|rfl) only [↓gp, gc, Nat.reduceAdd]
  exact fin _ rfl
 ·simp (maxSteps:=1000000) (disch:=first|assumption|omega|rfl) only [List.replicate_zero, eq_self, gw, ga, Nat.reduceAdd, ↓gq, List.append_nil, zbs, ha, hr0, hr1, bd48 hO, sv48, hp1]
  refine ⟨zH (by kernel_rfl) (jV rfl (by kernel_rfl) rfl (hl0 3 4 _ zqw) vS (jV rfl (by kernel_rfl) rfl (hl0 3 3 _ zr5) vS (jV rfl (by kernel_rfl) rfl (hl0 9 2 _ zqr) zdq (jV rfl (by kernel_rfl) rfl (hl0 9 1 _ zr3) zdq (jV rfl (by kernel_rfl) rfl (hl0 3 0 _ zr9) vS qW))))), ?_⟩
  refine ⟨zH (by kernel_rfl) (zH (by kernel_rfl) (zH (by kernel_rfl) (zH (by kernel_rfl) (zH (by kernel_rfl) (zH (by kernel_rfl) qW))))), by kernel_rfl, ?_⟩
  simp (maxSteps:=1000000) (disch:=first|assumption|omega|rfl) only [↓gp, gc, Nat.reduceAdd]
  exact fin _ rfl
def zoh : Nat := 4398012431360
noncomputable def cfgT : Cfg := { P := Try.prog, mixed := by kernel_rfl, shared := fun _ => false, ext := fun f => match Nat.beq f 19 with | true => some (evx cfgS f) | false => match Nat.testBit zoh f with | true => some (evx cfg f) | false => Option.none, catch_ := fun _ => Option.none }
theorem hPT : cfgT.P = Try.prog := rfl
theorem zcy {f : FuncId} {ds : List D} {o : Out} (h9 : Nat.beq f 19 = false) (hm : Nat.testBit zoh f = true) (h : Ev cfg f ds o) : Ev cfgT f ds o := by
 refine ⟨0, ?_⟩
 have hx : cfgT.ext f = some (evx cfg f) := by
  show (match Nat.beq f 19 with | true => some (evx cfgS f) | false => match Nat.testBit zoh f with | true => some (evx cfg f) | false => Option.none) = _
  rw [h9, hm]
 unfold runD answer
 simp only [hx]
 exact zkk h
theorem stepT {ds : List D} {o : Out} (h : Ev cfgS 19 ds o) : Ev cfgT 19 ds o := by
 refine ⟨0, ?_⟩
 have hx : cfgT.ext 19 = some (evx cfgS 19) := rfl
 unfold runD answer
 simp only [hx]
 exact zkk h
theorem extT : z3s cfgT := by
 intro f g h
 have h : (match Nat.beq f 19 with | true => some (evx cfgS f) | false => match Nat.testBit zoh f with | true => some (evx cfg f) | false => Option.none) = some g := h
 split at h
 ·cases h
  intro ds o ho
  obtain ⟨n, hn⟩ := zlh ho
  exact z5f extS zxl n f ds o hn
 ·split at h
  ·cases h
   intro ds o ho
   obtain ⟨n, hn⟩ := zlh ho
   exact z5f extC zqz n f ds o hn
  ·cases h
theorem catchT : z3t cfgT := fun f post h => by cases h
def Num (t : List Node) : Prop := ∀ n ∈ t, 0 ≤ n.ino ∧ n.ino ≤ 128
theorem Num.get {t : List Node} (h : Num t) (x : Int) : 0 ≤ (getN t x).ino ∧ (getN t x).ino ≤ 128 := by
 rcases jN t x with ⟨h1, _⟩ | ⟨h1, _⟩
 ·rw [h1]; exact ⟨by decide, by decide⟩
 ·exact h _ h1
theorem Num.with {t : List Node} {n : Node} (h : Num t) (hn : 0 ≤ n.ino ∧ n.ino ≤ 128) : Num (qR t n) := fun m hm => by
 rcases vB.1 hm with rfl | ⟨h1, _⟩
 ·exact hn
 ·exact h m h1
theorem Num.drop {t : List Node} {d : Int} {s : List UInt8} (h : Num t) : Num (zS t d s) := h.with (h.get d)
theorem Num.put {t : List Node} {d i : Int} {s : List UInt8} (h : Num t) : Num (putN t d s i) := h.with (h.get d)
theorem Num.loses {t : List Node} {i : Int} (h : Num t) : Num (jO t i) := by
 unfold jO
 split
 ·exact fun n hn => h n (List.mem_filter.1 hn).1
 ·exact h.with (h.get i)
theorem Num.step {t : List Node} {o : Opn} (h : Num t) (hl : t.length ≤ 120) : Num (qU t o).1 := by
 have hnx := (z1q t).2
 have mk : Num (z17 t o).1 := by
  unfold z17
  split
  ·exact h
  split
  ·exact h
  refine Num.put (h.with ?_)
  unfold qA
  split <;> exact ⟨by show 0 ≤ jB t; omega, by show jB t ≤ 128; omega⟩
 have lk : Num (z0g t o).1 := by
  unfold z0g
  split
  ·exact h
  split
  ·exact h
  split
  ·exact h
  split
  ·exact h
  exact Num.put (h.with (h.get _))
 have rm : Num (wB t o).1 := by
  unfold wB
  repeat' split
  all_goals first | exact h | exact h.drop.loses
 have rn : Num (kA t o).1 := by
  unfold kA
  split
  ·exact h
  split
  ·exact h
  split
  ·exact h
  unfold z08
  split
  ·exact h
  split
  ·exact h
  split
  ·exact h
  split
  ·exact h
  unfold renamed
  have h1 : Num (if 0 ≤ qE (getN t (zI t o.b).1).names (zI t o.b).2.1 then jO (zS t (zI t o.b).1 (zI t o.b).2.1) (qE (getN t (zI t o.b).1).names (zI t o.b).2.1) else t) := by
   split
   ·exact h.drop.loses
   ·exact h
  have h2 := (h1.drop (d := (zI t o.a).1) (s := (zI t o.a).2.1)).put (d := (zI t o.b).1) (s := (zI t o.b).2.1) (i := qE (getN t (zI t o.a).1).names (zI t o.a).2.1)
  simp only
  split
  ·exact h2.with (h2.get _)
  ·exact h2
 have bt : Num (wI t o).1 := by
  unfold wI
  split
  ·exact h
  unfold z3w
  have hg := h.get (zE t o.a).1
  repeat' split
  all_goals first | exact h | exact h.with hg
 unfold qU
 split
 ·exact h
 split
 ·exact mk
 split
 ·exact lk
 split
 ·exact rm
 split
 ·exact rn
 split
 ·exact bt
 split
 ·exact h
 ·exact h
theorem Num.new : Num newN := fun n hn => by
 simp only [newN, List.mem_singleton] at hn
 subst hn
 exact ⟨by decide, by decide⟩
structure At (k : Nat) (t : List Node) : Prop where
 g : Good (1 + 5 * k) t
 num : Num t
theorem At.new : At 0 newN := ⟨⟨Small.new, LJ.new, TInv.new⟩, Num.new⟩
theorem At.step {k : Nat} {t : List Node} {o : Opn} (h : At k t) (hk : k ≤ 23) : At (k + 1) (qU t o).1 := by
 refine ⟨⟨?_, h.g.lj.step h.g.ti, h.g.ti.step⟩, h.num.step (Nat.le_trans h.g.sm.len (by omega))⟩
 have := h.g.sm.step (o := o)
 rw [show 1 + 5 * (k + 1) = 1 + 5 * k + 5 by omega]
 exact this
theorem At.play {l : List Opn} (hl : l.length ≤ 24) : At l.length (zjk l) := by
 have : ∀ (l : List Opn) (k : Nat) (t : List Node), k + l.length ≤ 24 → At k t → At (k + l.length) (l.foldl (fun t o => (qU t o).1) t) := fun l => by
  induction l with
  | nil => exact fun k t _ h => h
  | cons o r ih =>
   intro k t hk h
   rw [List.length_cons] at hk ⊢
   have := ih (k + 1) _ (by omega) (h.step (o := o) (by omega))
   rw [show k + (r.length + 1) = k + 1 + r.length by omega]
   exact this
 have h := this l 0 newN (by omega) At.new
 rw [Nat.zero_add] at h
 exact h
section
variable {ops : Array Oper} {dst : Option Tmp} {k : List Oper} {T : List V} {S : zA} {F : Dfs} {Q : Post}
theorem z5p {n : Nat} {t : List Node} {o : Opn} (h : At n t) (hn : n ≤ 23) (hl : o.a.length < 900000) (hlb : o.b.length < 900000) :
  WpR cfgT ops dst k T S F Q (some (.enter 19 [.d (.sl (t.map zB)), .d (encOpn o)])) = WpL cfgT ops k (putT T dst (.tup [.d (.sl ((qU t o).1.map zB)), .d (qO (qU t o).2)])) S F Q :=
 zV (ds := [.sl (t.map zB), encOpn o]) rfl (stepT (q1p t _ (by omega) h.g o hl hlb h.num (h.step hn).num))
theorem z35 {l : List Opn} {m : Int} (hm : m ≤ 1000) : WpR cfgT ops dst k T S F Q (some (.enter 10 [.d (.sl (l.map encOpn)), .d (.int .i64 m)])) = WpL cfgT ops k (putT T dst (.d (.bool (zam l m)))) S F Q :=
 zV (ds := [.sl (l.map encOpn), .int .i64 m]) rfl (zcy rfl rfl (zmf l m hm))
theorem zfp {n : Nat} {t : List Node} (h : At n t) (hn : n ≤ 24) : WpR cfgT ops dst k T S F Q (some (.enter 12 [.d (.sl (t.map zB))])) = WpL cfgT ops k (putT T dst (.d (.sl (t.map zB)))) S F Q :=
 zV (ds := [.sl (t.map zB)]) rfl (zcy rfl rfl (q0u t _ (by omega) h.g.sm))
theorem z61 {l : List Opn} (hl : Script l) : WpR cfgT ops dst k T S F Q (some (.enter 13 [.d (.sl (l.map encOpn))])) = WpL cfgT ops k (putT T dst (.d (.sl ((zjk l).map zB)))) S F Q :=
 zV (ds := [.sl (l.map encOpn)]) rfl (zcy rfl rfl (zsh l hl))
theorem z1i : WpR cfgT ops dst k T S F Q (some (.enter 16 [])) = WpL cfgT ops k (putT T dst (.d (.bool true))) S F Q :=
 zV (ds := []) rfl (zcy rfl rfl zj1)
theorem z5q {o : Opn} (hl : o.data.length < 900000) : WpR cfgT ops dst k T S F Q (some (.enter 20 [.d (encOpn o)])) = WpL cfgT ops k (putT T dst (.d (encOpn o))) S F Q :=
 zV (ds := [encOpn o]) rfl (zcy rfl rfl (zuj o hl))
end
end Go.Proofs.Ytghllhghboaagaa
end
section
namespace Go.Proofs.Ytghllhghboaagaa

end Go.Proofs.Ytghllhghboaagaa
end
section
namespace Go.Proofs.Ytghllhghboaagaa
open Go.Vm
theorem zp1 {l : List UInt8} : z8c (l.map fun b => V.d (.int .u8 b.toNat)) = some l := by
 induction l with
 | nil => rfl
 | cons b r ih =>
  simp only [List.map_cons, z8c, ih]
  rw [Int.toNat_natCast, UInt8.ofNat_toNat]
theorem cvB {S : zA} {l : List UInt8} : jT Try.prog S 29 9 (.d (encB l)) = some (.d (.str l), 1) := by
 have h : wH S (.d (encB l)) = some (l.map fun b => V.d (.int .u8 b.toNat)) := by simp only [encB, wH, List.map_map, Function.comp_def]
 have hu : Try.prog.underlying 9 = some .string := by kernel_rfl
 have h5 : Try.prog.underlying 5 = some (.int .u8) := by kernel_rfl
 unfold encB at h ⊢
 simp only [jT, Try.underlying29, hu, h5, h, zp1, Option.map_some]
section
variable {ops : Array Oper} {dst : Option Tmp} {k : List Oper} {T : List V} {S : zA} {F : Dfs} {Q : Post}
theorem z2g {o : Opn} {m : Int} (hm : m ≤ 1000) : WpR cfgT ops dst k T S F Q (some (.enter 10 [.ts [encOpn o], .d (.int .i64 m)])) = WpL cfgT ops k (putT T dst (.d (.bool (zam [o] m)))) S F Q :=
 z6p (ds := [.sl ([o].map encOpn), .int .i64 m]) rfl rfl rfl (zcy rfl rfl (zmf [o] m hm))
end
theorem zsm {o : Opn} (h : zam [o] 1 = false) : o.a.length ≤ 300 ∧ o.b.length ≤ 300 ∧ o.data.length ≤ 1100 := by
 have := zbx (m := 1) (by omega) h
 exact ⟨this.a o (by simp), this.b o (by simp), this.data o (by simp)⟩
theorem dne {α : Type} {a : α} {i : Decidable (a ≠ a)} : @decide (a ≠ a) i = false := decide_eq_false (fun h => h rfl)
theorem zh7 : (zC Try.prog 20).isSome = true := by kernel_rfl
def strip (n : Node) : Node := ⟨n.ino, n.kind, 0, 0, n.size, n.data, n.names⟩
theorem z24 {a b : Node} : strip a = strip b ↔ a.ino = b.ino ∧ a.kind = b.kind ∧ a.size = b.size ∧ a.data = b.data ∧ a.names = b.names := by
 unfold strip
 simp only [Node.mk.injEq, true_and]
theorem zrl {e f : Ent} : eqV Try.prog 88 (.d (zJ e)) (.d (zJ f)) = (match some (e.name == f.name) with | some true => (match some (e.ino == f.ino) with | some true => some true | some false => some false | none => none) | some false => some false | none => none) := by kernel_rfl
theorem q03 {e f : Ent} : binV Try.prog .neq 88 (.d (zJ e)) (.d (zJ f)) = some (.d (.bool (decide (e ≠ f)))) := by
 have h0 : binV Try.prog .neq 88 (.d (zJ e)) (.d (zJ f)) = (eqV Try.prog 88 (.d (zJ e)) (.d (zJ f))).map fun b => .d (.bool (!b)) := rfl
 rw [h0, zrl]
 obtain ⟨n, i⟩ := e
 obtain ⟨m, j⟩ := f
 by_cases h1 : n = m
 ·subst h1
  by_cases h2 : i = j
  ·subst h2
   simp
  ·have : (i == j) = false := by rw [beq_eq_false_iff_ne]; exact h2
   simp [this, h2]
 ·have : (n == m) = false := by rw [beq_eq_false_iff_ne]; exact h1
  simp [this, h1]
theorem zt6 (a b : Node) (hl : a.names.length = b.names.length) (hb : a.names.length < 1000000) (R : Post) (x4 : V) : ∀ (k i : Nat) (S : zA) (g5 g6 g7 g8 g9 gH gO gI gD gA gE gF gG gB gC gJ gK gN gL gM gP gQ gU gR gS gT gV gW gX gY gZ gf gg gh gi gj gk gm gn gr hH hJ hY hZ xB xC xD xE xF xG xH xI : V), a.names.length - i = k → i ≤ a.names.length → S[0]? = some (.row [.d (zB a)] 32) → S[1]? = some (.row [.d (zB b)] 32) →
 (∀ S i' g5 g6 g7 g8 g9 gH gO gI gD gA gE gF gG gB gC gJ gK gN gL gM gP gQ gU gR gS gT gV gW gX gY gZ gf gg gh gi gj gk gm gn gr hH hJ hY hZ xB xC xD xE xF xG xH xI, a.names.drop i = b.names.drop i → R (.exit 0) ((.d (zB a)) :: (.d (zB b)) :: (.ref 0 0 0) :: (.ref 1 0 0) :: x4 :: g5 :: g6 :: g7 :: g8 :: g9 :: gH :: gO :: gI :: gD :: gA :: gE :: gF :: gG :: gB :: gC :: gJ :: gK :: gN :: gL :: gM :: gP :: gQ :: gU :: gR :: gS :: gT :: gV :: gW :: gX :: gY :: gZ :: gf :: gg :: gh :: gi :: gj :: gk :: gm :: gn :: gr :: (.d (.sl (a.names.map zJ))) :: (.d (.int .i64 a.names.length)) :: i' :: hH :: hJ :: hY :: hZ :: xB :: xC :: xD :: xE :: xF :: xG :: xH :: xI :: []) S []) →
 (∀ S i' g5 g6 g7 g8 g9 gH gO gI gD gA gE gF gG gB gC gJ gK gN gL gM gP gQ gU gR gS gT gV gW gX gY gZ gf gg gh gi gj gk gm gn gr hH hJ hY hZ xB xC xD xE xF xG xH xI, a.names.drop i ≠ b.names.drop i → R .ret ((.d (zB a)) :: (.d (zB b)) :: (.ref 0 0 0) :: (.ref 1 0 0) :: (.d (.bool false)) :: g5 :: g6 :: g7 :: g8 :: g9 :: gH :: gO :: gI :: gD :: gA :: gE :: gF :: gG :: gB :: gC :: gJ :: gK :: gN :: gL :: gM :: gP :: gQ :: gU :: gR :: gS :: gT :: gV :: gW :: gX :: gY :: gZ :: gf :: gg :: gh :: gi :: gj :: gk :: gm :: gn :: gr :: (.d (.sl (a.names.map zJ))) :: (.d (.int .i64 a.names.length)) :: i' :: hH :: hJ :: hY :: hZ :: xB :: xC :: xD :: xE :: xF :: xG :: xH :: xI :: []) S []) →
 Wp cfg (.loop (lpOf (Try.f103.body.getD .skip) 0)) ((.d (zB a)) :: (.d (zB b)) :: (.ref 0 0 0) :: (.ref 1 0 0) :: x4 :: g5 :: g6 :: g7 :: g8 :: g9 :: gH :: gO :: gI :: gD :: gA :: gE :: gF :: gG :: gB :: gC :: gJ :: gK :: gN :: gL :: gM :: gP :: gQ :: gU :: gR :: gS :: gT :: gV :: gW :: gX :: gY :: gZ :: gf :: gg :: gh :: gi :: gj :: gk :: gm :: gn :: gr :: (.d (.sl (a.names.map zJ))) :: (.d (.int .i64 a.names.length)) :: (.d (.int .i64 i)) :: hH :: hJ :: hY :: hZ :: xB :: xC :: xD :: xE :: xF :: xG :: xH :: xI :: []) S [] R := by
 intro k
 induction k with
 | zero =>
  intro i S g5 g6 g7 g8 g9 gH gO gI gD gA gE gF gG gB gC gJ gK gN gL gM gP gQ gU gR gS gT gV gW gX gY gZ gf gg gh gi gj gk gm gn gr hH hJ hY hZ xB xC xD xE xF xG xH xI hk hi h0 h1 hE hR
  have hie : i = a.names.length := by omega
  rw [qL]
  refine zU ?_
  conv => arg 2; whnf
  simp (maxSteps:=1000000) (disch:=first|assumption|omega|rfl) only [↓gp, gc, Nat.reduceAdd]
  exact hE _ _ _ _ _ _ _ _ _ _ _ _ _ _ _ _ _ _ _ _ _ _ _ _ _ _ _ _ _ _ _ _ _ _ _ _ _ _ _ _ _ _ _ _ _ _ _ _ _ _ _ _ _ _ (by rw [hie, List.drop_length, hl, List.drop_length])
 | succ k ih =>
  intro i S g5 g6 g7 g8 g9 gH gO gI gD gA gE gF gG gB gC gJ gK gN gL gM gP gQ gU gR gS gT gV gW gX gY gZ gf gg gh gi gj gk gm gn gr hH hJ hY hZ xB xC xD xE xF xG xH xI hk hi h0 h1 hE hR
  have hlt : i < a.names.length := by omega
  have hlt2 : i < b.names.length := by omega
  have hda : a.names.drop i = a.names[i] :: a.names.drop (i + 1) := List.drop_eq_getElem_cons hlt
  have hdb : b.names.drop i = b.names[i] :: b.names.drop (i + 1) := List.drop_eq_getElem_cons hlt2
  rw [hda, hdb] at hE hR
  rw [qL]
  refine zU ?_
  conv => arg 2; whnf
  generalize hea : a.names[i] = e at *
  generalize heb : b.names[i] = f at *
  have h01 := qS (l := [Ob.row [.d (zJ e)] 88]) h0
  have h11 := qS (l := [Ob.row [.d (zJ e)] 88]) h1
  have h21 := jC (S := S) (o := Ob.row [.d (zJ e)] 88)
  have hr1 := zF h11
  have hr2 := zF h21
  simp (maxSteps:=1000000) (disch:=first|assumption|omega|rfl) only [↓gp, gc, Nat.reduceAdd, hea, z88, zf88, se88, zT, zQ]
  refine qT (is := [0, 1, 2, 3, 4, 5, 6]) (h := 0) (by kernel_rfl) (by kernel_rfl) ?_
  simp (maxSteps:=1000000) (disch:=first|assumption|omega|rfl) only [List.replicate_zero, eq_self, gd, ga, Nat.reduceAdd, ↓gq, List.append_nil, hr1, hr2, heb, le88, q03]
  refine ⟨by kernel_rfl, ?_⟩
  by_cases hc : e = f
  ·subst hc
   simp (maxSteps:=1000000) (disch:=first|assumption|omega|rfl) only [↓gp, gc, Nat.reduceAdd, dne]
   exact ih (i + 1) _ _ _ _ _ _ _ _ _ _ _ _ _ _ _ _ _ _ _ _ _ _ _ _ _ _ _ _ _ _ _ _ _ _ _ _ _ _ _ _ _ _ _ _ _ _ _ _ _ _ _ _ _ (by omega) (by omega) h01 h11 (fun S i' g5 g6 g7 g8 g9 gH gO gI gD gA gE gF gG gB gC gJ gK gN gL gM gP gQ gU gR gS gT gV gW gX gY gZ gf gg gh gi gj gk gm gn gr hH hJ hY hZ xB xC xD xE xF xG xH xI h => hE S i' _ _ _ _ _ _ _ _ _ _ _ _ _ _ _ _ _ _ _ _ _ _ _ _ _ _ _ _ _ _ _ _ _ _ _ _ _ _ _ _ _ _ _ _ _ _ _ _ _ _ _ _ (by rw [h])) (fun S i' g5 g6 g7 g8 g9 gH gO gI gD gA gE gF gG gB gC gJ gK gN gL gM gP gQ gU gR gS gT gV gW gX gY gZ gf gg gh gi gj gk gm gn gr hH hJ hY hZ xB xC xD xE xF xG xH xI h => hR S i' _ _ _ _ _ _ _ _ _ _ _ _ _ _ _ _ _ _ _ _ _ _ _ _ _ _ _ _ _ _ _ _ _ _ _ _ _ _ _ _ _ _ _ _ _ _ _ _ _ _ _ _ (fun hh => h (List.cons.inj hh).2))
  ·simp (maxSteps:=1000000) (disch:=first|assumption|omega|rfl) only [↓gp, gc, Nat.reduceAdd]
   exact hR _ _ _ _ _ _ _ _ _ _ _ _ _ _ _ _ _ _ _ _ _ _ _ _ _ _ _ _ _ _ _ _ _ _ _ _ _ _ _ _ _ _ _ _ _ _ _ _ _ _ _ _ _ _ (fun hh => hc (List.cons.inj hh).1)
theorem zp6 (a b : Node) (hb : a.names.length < 1000000) (hb2 : b.names.length < 1000000) : Ev cfg 103 [zB a, zB b] (.ret (.d (.bool (decide (strip a = strip b))))) := by
 refine kR rfl rfl zsq ?_
 show Wp cfg (Try.f103.body.getD .skip) ((.d (zB a)) :: (.d (zB b)) :: uZ (uZ (uZ (uZ (uZ ((.tup []) :: (.tup []) :: (.tup []) :: (.tup []) :: (.tup []) :: (.tup []) :: (.tup []) :: (.tup []) :: [])))))) [] [] _
 unfold uZ
 conv => arg 2; whnf
 generalize hr : decide (strip a = strip b) = r
 by_cases c1 : a.ino = b.ino
 ·by_cases c2 : a.kind = b.kind
  ·by_cases c3 : a.size = b.size
   ·by_cases c4 : a.data = b.data
    ·have c4n : ¬ (a.data ≠ b.data) := fun h => h c4
     by_cases c5 : (a.names.length : Int) = b.names.length
     ·simp (maxSteps:=1000000) (disch:=first|assumption|omega|rfl) only [↓gp, gc, Nat.reduceAdd, cvB]
      refine zt6 a b (by omega) hb _ _ a.names.length 0 _ _ _ _ _ _ _ _ _ _ _ _ _ _ _ _ _ _ _ _ _ _ _ _ _ _ _ _ _ _ _ _ _ _ _ _ _ _ _ _ _ _ _ _ _ _ _ _ _ _ _ _ _ rfl (by omega) ?_ ?_ ?_ ?_
      ·rfl
      ·rfl
      ·intro S i' g5 g6 g7 g8 g9 gH gO gI gD gA gE gF gG gB gC gJ gK gN gL gM gP gQ gU gR gS gT gV gW gX gY gZ gf gg gh gi gj gk gm gn gr hH hJ hY hZ xB xC xD xE xF xG xH xI h
       simp (maxSteps:=1000000) (disch:=first|assumption|omega|rfl) only [↓gp, gc, Nat.reduceAdd]
       rw [← hr, decide_eq_true (z24.2 ⟨c1, c2, c3, c4, h⟩)]
       exact zM rfl rfl rfl
      ·intro S i' g5 g6 g7 g8 g9 gH gO gI gD gA gE gF gG gB gC gJ gK gN gL gM gP gQ gU gR gS gT gV gW gX gY gZ gf gg gh gi gj gk gm gn gr hH hJ hY hZ xB xC xD xE xF xG xH xI h
       simp (maxSteps:=1000000) (disch:=first|assumption|omega|rfl) only [↓gp, gc, Nat.reduceAdd]
       rw [← hr, decide_eq_false (fun hh => h (z24.1 hh).2.2.2.2)]
       exact zM rfl rfl rfl
     ·rw [← hr, decide_eq_false (fun hh => c5 (by rw [(z24.1 hh).2.2.2.2]))]
      simp (maxSteps:=1000000) (disch:=first|assumption|omega|rfl) only [↓gp, gc, Nat.reduceAdd, cvB]
      exact zM rfl rfl rfl
    ·rw [← hr, decide_eq_false (fun hh => c4 (z24.1 hh).2.2.2.1)]
     simp (maxSteps:=1000000) (disch:=first|assumption|omega|rfl) only [↓gp, gc, Nat.reduceAdd, cvB]
     exact zM rfl rfl rfl
   ·rw [← hr, decide_eq_false (fun hh => c3 (z24.1 hh).2.2.1)]
    simp (maxSteps:=1000000) (disch:=first|assumption|omega|rfl) only [↓gp, gc, Nat.reduceAdd]
    exact zM rfl rfl rfl
  ·rw [← hr, decide_eq_false (fun hh => c2 (z24.1 hh).2.1)]
   simp (maxSteps:=1000000) (disch:=first|assumption|omega|rfl) only [↓gp, gc, Nat.reduceAdd]
   exact zM rfl rfl rfl
 ·rw [← hr, decide_eq_false (fun hh => c1 (z24.1 hh).1)]
  simp (maxSteps:=1000000) (disch:=first|assumption|omega|rfl) only [↓gp, gc, Nat.reduceAdd]
  exact zM rfl rfl rfl
theorem zoy {ops : Array Oper} {F : Dfs} {Q : Post} {K : List Nat → List (Nat × Nat) → List V → zA → Prop} {rd : List Nat} {cs : List (Nat × Nat)} {i : Nat} {dst : Option Tmp} {T : List V} {S : zA} {a b : Node} (ha : a.names.length < 1000000) (hb : b.names.length < 1000000) :
  WpE cfg ops F Q K rd cs i dst T S (some (.enter 103 [.d (zB a), .d (zB b)])) = K (i :: rd) (cs ++ [(i, 1)]) (putT T dst (.d (.bool (decide (strip a = strip b))))) S :=
 z2s (ds := [zB a, zB b]) rfl (zp6 a b ha hb)
theorem zyk : (zC Try.prog 103).isSome = true := by kernel_rfl
theorem zvc (a b : List Node) (hl : a.length = b.length) (hal : a.length < 1000000) (hna : ∀ n ∈ a, n.names.length < 1000000) (hnb : ∀ n ∈ b, n.names.length < 1000000) (R : Post) (x2 x3 x4 : V) : ∀ (k i : Nat) (S : zA) (g5 g6 g7 g8 g9 gH gA gE gF gG gB gC gJ gK gN gL gM gP gQ : V), a.length - i = k → i ≤ a.length →
 (∀ S i' g5 g6 g7 g8 g9 gH gA gE gF gG gB gC gJ gK gN gL gM gP gQ, (a.drop i).map strip = (b.drop i).map strip → R (.exit 0) ((.d (.sl (a.map zB))) :: (.d (.sl (b.map zB))) :: x2 :: x3 :: x4 :: g5 :: g6 :: g7 :: g8 :: g9 :: gH :: (.d (.sl (a.map zB))) :: (.d (.int .i64 a.length)) :: i' :: gA :: gE :: gF :: gG :: gB :: gC :: gJ :: gK :: gN :: gL :: gM :: gP :: gQ :: []) S []) →
 (∀ S i' g5 g6 g7 g8 g9 gH gA gE gF gG gB gC gJ gK gN gL gM gP gQ, (a.drop i).map strip ≠ (b.drop i).map strip → R .ret ((.d (.sl (a.map zB))) :: (.d (.sl (b.map zB))) :: x2 :: x3 :: (.d (.bool false)) :: g5 :: g6 :: g7 :: g8 :: g9 :: gH :: (.d (.sl (a.map zB))) :: (.d (.int .i64 a.length)) :: i' :: gA :: gE :: gF :: gG :: gB :: gC :: gJ :: gK :: gN :: gL :: gM :: gP :: gQ :: []) S []) →
 Wp cfg (.loop (lpOf (Try.f68.body.getD .skip) 0)) ((.d (.sl (a.map zB))) :: (.d (.sl (b.map zB))) :: x2 :: x3 :: x4 :: g5 :: g6 :: g7 :: g8 :: g9 :: gH :: (.d (.sl (a.map zB))) :: (.d (.int .i64 a.length)) :: (.d (.int .i64 i)) :: gA :: gE :: gF :: gG :: gB :: gC :: gJ :: gK :: gN :: gL :: gM :: gP :: gQ :: []) S [] R := by
 intro k
 induction k with
 | zero =>
  intro i S g5 g6 g7 g8 g9 gH gA gE gF gG gB gC gJ gK gN gL gM gP gQ hk hi hE hR
  have hie : i = a.length := by omega
  rw [qL]
  refine zU ?_
  conv => arg 2; whnf
  simp (maxSteps:=1000000) (disch:=first|assumption|omega|rfl) only [↓gp, gc, Nat.reduceAdd]
  exact hE _ _ _ _ _ _ _ _ _ _ _ _ _ _ _ _ _ _ _ _ _ (by rw [hie, List.drop_length, hl, List.drop_length])
 | succ k ih =>
  intro i S g5 g6 g7 g8 g9 gH gA gE gF gG gB gC gJ gK gN gL gM gP gQ hk hi hE hR
  have hlt : i < a.length := by omega
  have hlt2 : i < b.length := by omega
  have hda : a.drop i = a[i] :: a.drop (i + 1) := List.drop_eq_getElem_cons hlt
  have hdb : b.drop i = b[i] :: b.drop (i + 1) := List.drop_eq_getElem_cons hlt2
  have h1 := hna _ (List.getElem_mem hlt)
  have h2 := hnb _ (List.getElem_mem hlt2)
  rw [hda, hdb, List.map_cons, List.map_cons] at hE hR
  rw [qL]
  refine zU ?_
  conv => arg 2; whnf
  generalize hea : a[i] = e at *
  generalize heb : b[i] = f at *
  simp (maxSteps:=1000000) (disch:=first|assumption|omega|rfl) only [↓gp, gc, Nat.reduceAdd]
  refine qT (is := [0, 1, 2, 3, 4, 5, 6, 7, 8, 9]) (h := 0) (by kernel_rfl) (by kernel_rfl) ?_
  simp (maxSteps:=1000000) (disch:=first|assumption|omega|rfl) only [List.replicate_zero, eq_self, gd, ga, Nat.reduceAdd, ↓gq, List.append_nil, hea, heb, zoy h1 h2, zyk, wJ]
  refine ⟨by kernel_rfl, ?_⟩
  by_cases hc : strip e = strip f
  ·simp (maxSteps:=1000000) (disch:=first|assumption|omega|rfl) only [↓gp, gc, Nat.reduceAdd, Bool.not_true]
   exact ih (i + 1) _ _ _ _ _ _ _ _ _ _ _ _ _ _ _ _ _ _ _ _ (by omega) (by omega) (fun S i' g5 g6 g7 g8 g9 gH gA gE gF gG gB gC gJ gK gN gL gM gP gQ h => hE S i' _ _ _ _ _ _ _ _ _ _ _ _ _ _ _ _ _ _ _ (by rw [h, hc])) (fun S i' g5 g6 g7 g8 g9 gH gA gE gF gG gB gC gJ gK gN gL gM gP gQ h => hR S i' _ _ _ _ _ _ _ _ _ _ _ _ _ _ _ _ _ _ _ (fun hh => h (List.cons.inj hh).2))
  ·simp (maxSteps:=1000000) (disch:=first|assumption|omega|rfl) only [↓gp, gc, Nat.reduceAdd, Bool.not_false]
   exact hR _ _ _ _ _ _ _ _ _ _ _ _ _ _ _ _ _ _ _ _ _ (fun hh => hc (List.cons.inj hh).1)
theorem zuf (a b : List Node) (hal : a.length < 1000000) (hbl : b.length < 1000000) (hna : ∀ n ∈ a, n.names.length < 1000000) (hnb : ∀ n ∈ b, n.names.length < 1000000) : Ev cfg 68 [.sl (a.map zB), .sl (b.map zB)] (.ret (.d (.bool (decide (a.map strip = b.map strip))))) := by
 refine kR rfl rfl zyf ?_
 show Wp cfg (Try.f68.body.getD .skip) ((.d (.sl (a.map zB))) :: (.d (.sl (b.map zB))) :: uZ (uZ ((.tup []) :: (.tup []) :: (.tup []) :: (.tup []) :: (.tup []) :: []))) [] [] _
 unfold uZ
 conv => arg 2; whnf
 generalize hr : decide (a.map strip = b.map strip) = r
 by_cases c1 : (a.length : Int) = b.length
 ·simp (maxSteps:=1000000) (disch:=first|assumption|omega|rfl) only [↓gp, gc, Nat.reduceAdd]
  refine zvc a b (by omega) hal hna hnb _ _ _ _ a.length 0 _ _ _ _ _ _ _ _ _ _ _ _ _ _ _ _ _ _ _ _ rfl (by omega) ?_ ?_
  ·intro S i' g5 g6 g7 g8 g9 gH gA gE gF gG gB gC gJ gK gN gL gM gP gQ h
   simp (maxSteps:=1000000) (disch:=first|assumption|omega|rfl) only [↓gp, gc, Nat.reduceAdd]
   rw [← hr, decide_eq_true (show a.map strip = b.map strip from h)]
   exact zM rfl rfl rfl
  ·intro S i' g5 g6 g7 g8 g9 gH gA gE gF gG gB gC gJ gK gN gL gM gP gQ h
   simp (maxSteps:=1000000) (disch:=first|assumption|omega|rfl) only [↓gp, gc, Nat.reduceAdd]
   rw [← hr, decide_eq_false (show a.map strip ≠ b.map strip from h)]
   exact zM rfl rfl rfl
 ·have h : a.map strip ≠ b.map strip := fun hh => c1 (by have := congrArg List.length hh; rw [List.length_map, List.length_map] at this; omega)
  simp (maxSteps:=1000000) (disch:=first|assumption|omega|rfl) only [↓gp, gc, Nat.reduceAdd]
  rw [← hr, decide_eq_false h]
  exact zM rfl rfl rfl
theorem zdb {ops : Array Oper} {dst : Option Tmp} {k : List Oper} {T : List V} {S : zA} {F : Dfs} {Q : Post} {a b : List Node} (hal : a.length < 1000000) (hbl : b.length < 1000000) (hna : ∀ n ∈ a, n.names.length < 1000000) (hnb : ∀ n ∈ b, n.names.length < 1000000) :
  WpR cfg ops dst k T S F Q (some (.enter 68 [.d (.sl (a.map zB)), .d (.sl (b.map zB))])) = WpL cfg ops k (putT T dst (.d (.bool (decide (a.map strip = b.map strip))))) S F Q :=
 zV (ds := [.sl (a.map zB), .sl (b.map zB)]) rfl (zuf a b hal hbl hna hnb)
def lp (n : Node) : Int × Int := (n.links, n.parent)
theorem zd9 {a b : List Node} : a = b ↔ a.map strip = b.map strip ∧ a.map lp = b.map lp := by
 constructor
 ·rintro rfl; exact ⟨rfl, rfl⟩
 ·rintro ⟨h1, h2⟩
  induction a generalizing b with
  | nil => cases b with | nil => rfl | cons y r => cases h1
  | cons x r ih =>
   cases b with
   | nil => cases h1
   | cons y q =>
    simp only [List.map_cons, List.cons.injEq] at h1 h2
    have e1 := z24.1 h1.1
    have e2 : x.links = y.links ∧ x.parent = y.parent := by have := h2.1; simp only [lp, Prod.mk.injEq] at this; exact this
    rw [ih h1.2 h2.2]
    congr 1
    obtain ⟨a1, a2, a3, a4, a5, a6, a7⟩ := x
    obtain ⟨b1, b2, b3, b4, b5, b6, b7⟩ := y
    simp only at e1 e2
    obtain ⟨rfl, rfl, rfl, rfl, rfl⟩ := e1
    obtain ⟨rfl, rfl⟩ := e2
    rfl
theorem zy9 : (zC Try.prog 68).isSome = true := by kernel_rfl
theorem zzt (a b : List Node) (hl : a.length = b.length) (hal : a.length < 1000000) (R : Post) (x2 x3 x4 : V) : ∀ (k i : Nat) (S : zA) (g5 g6 g7 g8 g9 gH gD gA gE gF gG gB gC gJ gK gN gL gM gP gQ gU gR gS gT gV gW gX gY gZ gf gg gh gi : V), a.length - i = k → i ≤ a.length →
 (∀ S i' g5 g6 g7 g8 g9 gH gD gA gE gF gG gB gC gJ gK gN gL gM gP gQ gU gR gS gT gV gW gX gY gZ gf gg gh gi, (a.drop i).map lp = (b.drop i).map lp → R (.exit 0) ((.d (.sl (a.map zB))) :: (.d (.sl (b.map zB))) :: x2 :: x3 :: x4 :: g5 :: g6 :: g7 :: g8 :: g9 :: gH :: (.d (.int .i64 a.length)) :: i' :: gD :: gA :: gE :: gF :: gG :: gB :: gC :: gJ :: gK :: gN :: gL :: gM :: gP :: gQ :: gU :: gR :: gS :: gT :: gV :: gW :: gX :: gY :: gZ :: gf :: gg :: gh :: gi :: []) S []) →
 (∀ S i' g5 g6 g7 g8 g9 gH gD gA gE gF gG gB gC gJ gK gN gL gM gP gQ gU gR gS gT gV gW gX gY gZ gf gg gh gi, (a.drop i).map lp ≠ (b.drop i).map lp → R .ret ((.d (.sl (a.map zB))) :: (.d (.sl (b.map zB))) :: x2 :: x3 :: (.d (.bool false)) :: g5 :: g6 :: g7 :: g8 :: g9 :: gH :: (.d (.int .i64 a.length)) :: i' :: gD :: gA :: gE :: gF :: gG :: gB :: gC :: gJ :: gK :: gN :: gL :: gM :: gP :: gQ :: gU :: gR :: gS :: gT :: gV :: gW :: gX :: gY :: gZ :: gf :: gg :: gh :: gi :: []) S []) →
 Wp cfg (.loop (lpOf (Try.f34.body.getD .skip) 0)) ((.d (.sl (a.map zB))) :: (.d (.sl (b.map zB))) :: x2 :: x3 :: x4 :: g5 :: g6 :: g7 :: g8 :: g9 :: gH :: (.d (.int .i64 a.length)) :: (.d (.int .i64 i)) :: gD :: gA :: gE :: gF :: gG :: gB :: gC :: gJ :: gK :: gN :: gL :: gM :: gP :: gQ :: gU :: gR :: gS :: gT :: gV :: gW :: gX :: gY :: gZ :: gf :: gg :: gh :: gi :: []) S [] R := by
 intro k
 induction k with
 | zero =>
  intro i S g5 g6 g7 g8 g9 gH gD gA gE gF gG gB gC gJ gK gN gL gM gP gQ gU gR gS gT gV gW gX gY gZ gf gg gh gi hk hi hE hR
  have hie : i = a.length := by omega
  rw [qL]
  refine zU ?_
  conv => arg 2; whnf
  simp (maxSteps:=1000000) (disch:=first|assumption|omega|rfl) only [↓gp, gc, Nat.reduceAdd]
  exact hE _ _ _ _ _ _ _ _ _ _ _ _ _ _ _ _ _ _ _ _ _ _ _ _ _ _ _ _ _ _ _ _ _ _ _ (by rw [hie, List.drop_length, hl, List.drop_length])
 | succ k ih =>
  intro i S g5 g6 g7 g8 g9 gH gD gA gE gF gG gB gC gJ gK gN gL gM gP gQ gU gR gS gT gV gW gX gY gZ gf gg gh gi hk hi hE hR
  have hlt : i < a.length := by omega
  have hlt2 : i < b.length := by omega
  have hda : a.drop i = a[i] :: a.drop (i + 1) := List.drop_eq_getElem_cons hlt
  have hdb : b.drop i = b[i] :: b.drop (i + 1) := List.drop_eq_getElem_cons hlt2
  rw [hda, hdb, List.map_cons, List.map_cons] at hE hR
  rw [qL]
  refine zU ?_
  conv => arg 2; whnf
  generalize hea : a[i] = e at *
  generalize heb : b[i] = f at *
  simp (maxSteps:=1000000) (disch:=first|assumption|omega|rfl) only [↓gp, gc, Nat.reduceAdd]
  refine qT (is := [0, 1, 2, 3, 4, 5, 6, 7, 8, 9, 10, 11, 12, 13, 14, 15, 16, 17, 18, 19, 20, 21, 22, 23]) (h := 0) (by kernel_rfl) (by kernel_rfl) ?_
  by_cases c1 : e.links = f.links
  ·by_cases c2 : e.parent = f.parent
   ·have hc : lp e = lp f := by unfold lp; rw [c1, c2]
    simp (maxSteps:=1000000) (disch:=first|assumption|omega|rfl) only [List.replicate_zero, eq_self, gd, ga, Nat.reduceAdd, ↓gq, List.append_nil, hea, heb]
    refine ⟨by kernel_rfl, ?_⟩
    simp (maxSteps:=1000000) (disch:=first|assumption|omega|rfl) only [↓gp, gc, Nat.reduceAdd]
    exact ih (i + 1) _ _ _ _ _ _ _ _ _ _ _ _ _ _ _ _ _ _ _ _ _ _ _ _ _ _ _ _ _ _ _ _ _ _ (by omega) (by omega) (fun S i' g5 g6 g7 g8 g9 gH gD gA gE gF gG gB gC gJ gK gN gL gM gP gQ gU gR gS gT gV gW gX gY gZ gf gg gh gi h => hE S i' _ _ _ _ _ _ _ _ _ _ _ _ _ _ _ _ _ _ _ _ _ _ _ _ _ _ _ _ _ _ _ _ _ (by rw [h, hc])) (fun S i' g5 g6 g7 g8 g9 gH gD gA gE gF gG gB gC gJ gK gN gL gM gP gQ gU gR gS gT gV gW gX gY gZ gf gg gh gi h => hR S i' _ _ _ _ _ _ _ _ _ _ _ _ _ _ _ _ _ _ _ _ _ _ _ _ _ _ _ _ _ _ _ _ _ (fun hh => h (List.cons.inj hh).2))
   ·simp (maxSteps:=1000000) (disch:=first|assumption|omega|rfl) only [List.replicate_zero, eq_self, gd, ga, Nat.reduceAdd, ↓gq, List.append_nil, hea, heb]
    refine ⟨by kernel_rfl, ?_⟩
    simp (maxSteps:=1000000) (disch:=first|assumption|omega|rfl) only [↓gp, gc, Nat.reduceAdd]
    exact hR _ _ _ _ _ _ _ _ _ _ _ _ _ _ _ _ _ _ _ _ _ _ _ _ _ _ _ _ _ _ _ _ _ _ _ (fun hh => c2 (Prod.mk.inj (List.cons.inj hh).1).2)
  ·simp (maxSteps:=1000000) (disch:=first|assumption|omega|rfl) only [List.replicate_zero, eq_self, gd, ga, Nat.reduceAdd, ↓gq, List.append_nil, hea, heb]
   refine ⟨by kernel_rfl, ?_⟩
   simp (maxSteps:=1000000) (disch:=first|assumption|omega|rfl) only [↓gp, gc, Nat.reduceAdd]
   exact hR _ _ _ _ _ _ _ _ _ _ _ _ _ _ _ _ _ _ _ _ _ _ _ _ _ _ _ _ _ _ _ _ _ _ _ (fun hh => c1 (Prod.mk.inj (List.cons.inj hh).1).1)
theorem zul (a b : List Node) (hal : a.length < 1000000) (hbl : b.length < 1000000) (hna : ∀ n ∈ a, n.names.length < 1000000) (hnb : ∀ n ∈ b, n.names.length < 1000000) : Ev cfg 34 [.sl (a.map zB), .sl (b.map zB)] (.ret (.d (.bool (decide (a = b))))) := by
 refine kR rfl rfl zyl ?_
 show Wp cfg (Try.f34.body.getD .skip) ((.d (.sl (a.map zB))) :: (.d (.sl (b.map zB))) :: uZ (uZ (uZ ((.tup []) :: (.tup []) :: (.tup []) :: (.tup []) :: (.tup []) :: (.tup []) :: (.tup []) :: (.tup []) :: [])))) [] [] _
 unfold uZ
 conv => arg 2; whnf
 generalize hr : decide (a = b) = r
 by_cases c1 : a.map strip = b.map strip
 ·have hl : a.length = b.length := by have := congrArg List.length c1; rw [List.length_map, List.length_map] at this; exact this
  simp (maxSteps:=1000000) (disch:=first|assumption|omega|rfl) only [↓gp, gc, Nat.reduceAdd, zdb hal hbl hna hnb, zy9, wJ, Bool.not_true]
  refine zzt a b hl hal _ _ _ _ a.length 0 _ _ _ _ _ _ _ _ _ _ _ _ _ _ _ _ _ _ _ _ _ _ _ _ _ _ _ _ _ _ _ _ _ _ rfl (by omega) ?_ ?_
  ·intro S i' g5 g6 g7 g8 g9 gH gD gA gE gF gG gB gC gJ gK gN gL gM gP gQ gU gR gS gT gV gW gX gY gZ gf gg gh gi h
   simp (maxSteps:=1000000) (disch:=first|assumption|omega|rfl) only [↓gp, gc, Nat.reduceAdd]
   rw [← hr, decide_eq_true (show a = b from zd9.2 ⟨c1, h⟩)]
   exact zM rfl rfl rfl
  ·intro S i' g5 g6 g7 g8 g9 gH gD gA gE gF gG gB gC gJ gK gN gL gM gP gQ gU gR gS gT gV gW gX gY gZ gf gg gh gi h
   simp (maxSteps:=1000000) (disch:=first|assumption|omega|rfl) only [↓gp, gc, Nat.reduceAdd]
   rw [← hr, decide_eq_false (fun hh : a = b => h (zd9.1 hh).2)]
   exact zM rfl rfl rfl
 ·simp (maxSteps:=1000000) (disch:=first|assumption|omega|rfl) only [↓gp, gc, Nat.reduceAdd, zdb hal hbl hna hnb, zy9, wJ, Bool.not_false]
  rw [← hr, decide_eq_false (fun hh : a = b => c1 (zd9.1 hh).1)]
  exact zM rfl rfl rfl
end Go.Proofs.Ytghllhghboaagaa
end
