/- For the statements of the model: model.New, the call as the program has it, numbers of nodes. -/
import Derived.Test.YtghllhghboaagaaD09
set_option linter.unusedVariables false
set_option linter.unusedSimpArgs false
set_option maxRecDepth 100000
set_option maxHeartbeats 4000000
set_option linter.defProp false
section
namespace Go.Proofs.Ytghllhghboaagaa
open Go.Vm
theorem zvq {S : zA} : bs1 Try.prog S 25 (.agg [.d (.int .i64 1), .d (.int .i64 2), .d (.int .i64 1), .d (.int .i64 1), .d (.int .i64 0), .ts [], .ts []]) = some (.val (.ts (newN.map zB)) S 0) := by kernel_rfl
theorem zw9 : z1q Try.prog 32 [(0, .d (.int .i64 1)), (1, .d (.int .i64 2)), (2, .d (.int .i64 1)), (3, .d (.int .i64 1))] = some (.agg [.d (.int .i64 1), .d (.int .i64 2), .d (.int .i64 1), .d (.int .i64 1), .d (.int .i64 0), .ts [], .ts []]) := by kernel_rfl
theorem zpt : Ev cfg 17 [] (.ret (.d (.sl (newN.map zB)))) := by
 refine z2l rfl rfl zt4 ?_
 show Wp cfg (Try.f17.body.getD .skip) ((.tup []) :: (.tup []) :: (.tup []) :: []) [] [] _
 conv => arg 2; whnf
 simp (maxSteps:=1000000) (disch:=first|assumption|omega|rfl) only [↓gp, gc, Nat.reduceAdd, ↓vbs, zw9, zvq]
 exact jT rfl rfl rfl
theorem bd48 {S : zA} {a d e : Int} {b c : List UInt8} {v : V} {xs : List V} (h : OwnS S v 5 xs) : z1q Try.prog 48 [(0, .d (.int .i64 a)), (1, .d (.str b)), (2, .d (.str c)), (3, .d (.int .i64 d)), (4, .d (.int .i64 e)), (5, v)] = some (.agg [.d (.int .i64 a), .d (.str b), .d (.str c), .d (.int .i64 d), .d (.int .i64 e), v]) := by
 rcases h with ⟨rfl, _⟩ | ⟨id, rfl, _⟩ <;> kernel_rfl
theorem sv48 {x0 x1 x2 x3 x4 x5 y0 y1 y2 y3 y4 y5 : V} : jG Try.prog 48 0 (.agg [x0, x1, x2, x3, x4, x5]) (.agg [y0, y1, y2, y3, y4, y5]) = some (.agg [x0, x1, x2, x3, x4, x5]) := by kernel_rfl
theorem lv48 {x0 x1 x2 x3 x4 x5 : V} : kX Try.prog 48 0 (some (.agg [x0, x1, x2, x3, x4, x5])) = some (.agg [x0, x1, x2, x3, x4, x5]) := by kernel_rfl
theorem zdg {x : List UInt8} : z2k (.d (.str x)) (.d (.str x)) = true := by simp [z2k, kY, kZ, z37, jS]
theorem zp9 (o : Opn) (hl : o.data.length < 900000) : Ev cfg 20 [encOpn o] (.ret (.d (encOpn o))) := by
 refine z2l rfl rfl zso ?_
 show Wp cfg (Try.f20.body.getD .skip) ((.d (encOpn o)) :: uZ ((.tup []) :: (.tup []) :: (.tup []) :: (.tup []) :: (.tup []) :: (.tup []) :: (.tup []) :: [])) [] [] _
 unfold uZ
 conv => arg 2; whnf
 simp (maxSteps:=1000000) (disch:=first|assumption|omega|rfl) only [↓gp, gc, Nat.reduceAdd, z48, zf48]
 obtain ⟨v5, S1, c, ha, hO, hK⟩ := zjq (S := [.row [.d (encOpn o)] 50, .row [.agg [.d (.int .i64 0), .d (.str []), .d (.str []), .d (.int .i64 0), .d (.int .i64 0), .ts []]] 48]) (v := .d (encB o.data)) (l := o.data) zqb hl
 have h0 := hK 0 _ rfl
 have h1 := hK 1 _ rfl
 have hr0 := zD h0
 have hr1 := zD h1
 have hp1 := fun y => zX (y := y) h1
 have hl0 : ∀ (t : TypeId) (f : Nat) (y : V), kX Try.prog t f (some (.d (encOpn o))) = some y → (jW Try.prog S1 t (.ref 0 0 f)).map (fun v => Rs.val v S1 1) = some (.val y S1 1) := fun t f y h => ld1 ((jC hr0).trans h)
 have hc : c = 1 ∧ S1 = [.row [.d (encOpn o)] 50, .row [.agg [.d (.int .i64 0), .d (.str []), .d (.str []), .d (.int .i64 0), .d (.int .i64 0), .ts []]] 48] ∨ c = 2 := by
  cases hd : o.data with
  | nil =>
   rw [hd] at ha
   left
   have e : qD Try.prog [.row [.d (encOpn o)] 50, .row [.agg [.d (.int .i64 0), .d (.str []), .d (.str []), .d (.int .i64 0), .d (.int .i64 0), .ts []]] 48] 29 29 (.ts []) (.d (encB [])) = some (.ts [], [.row [.d (encOpn o)] 50, .row [.agg [.d (.int .i64 0), .d (.str []), .d (.str []), .d (.int .i64 0), .d (.int .i64 0), .ts []]] 48], 1) := by kernel_rfl
   rw [e] at ha
   cases ha
   exact ⟨rfl, rfl⟩
  | cons b r =>
   right
   rw [hd] at ha
   have hs := zqb (S := [.row [.d (encOpn o)] 50, .row [.agg [.d (.int .i64 0), .d (.str []), .d (.str []), .d (.int .i64 0), .d (.int .i64 0), .ts []]] 48]) (l := b :: r)
   rw [List.map_cons] at hs
   simp only [qD, Try.underlying29, hs, zok5, if_true] at ha
   split at ha
   ·simp only [Option.some.injEq, Prod.mk.injEq] at ha
    exact ha.2.2.symm
   ·cases ha
 have fin : ∀ T : List V, T.getD 2 (.tup []) = .ref 1 0 0 → RetQ cfg.P #[.cell 2 48] (.ret (.d (encOpn o))) .ret T (S1.set 1 (.row [.agg [.d (.int .i64 o.does), .d (.str o.a), .d (.str o.b), .d (.int .i64 o.off), .d (.int .i64 o.n), v5]] 48)) [] := fun T hT => by
  have h5 : frz (S1.set 1 (.row [.agg [.d (.int .i64 o.does), .d (.str o.a), .d (.str o.b), .d (.int .i64 o.off), .d (.int .i64 o.n), v5]] 48)) 11 v5 = some (encB o.data) := zgb (vF hO (z1p hO h1 (by decide)))
  refine zk2 hT ((jC (zD (jP h1))).trans lv48) rfl ?_
  show (match allO (frz _ 11) [.d (.int .i64 o.does), .d (.str o.a), .d (.str o.b), .d (.int .i64 o.off), .d (.int .i64 o.n), v5] with | some ds => if ds.any D.isAgg then none else some (D.agg ds) | none => none) = _
  have h2 : ∀ (S : zA) (x : D), frz S 11 (.d x) = some x := fun _ _ => rfl
  simp only [allO, h5, h2]
  rfl
 refine wR (is := [0, 1, 2, 3, 4, 5, 6, 7, 8, 9, 10, 11, 12, 13, 14, 15]) (h := 0) (by kernel_rfl) (by kernel_rfl) ?_
 rcases hc with ⟨rfl, rfl⟩ | rfl
 ·simp (maxSteps:=1000000) (disch:=first|assumption|omega|rfl) only [List.replicate_zero, eq_self, gw, ga, Nat.reduceAdd, ↓gq, List.append_nil, zde, ha, hr0, hr1, bd48 hO, sv48, hp1]
  refine ⟨zE (by kernel_rfl) (zE (by kernel_rfl) (zE (by kernel_rfl) (zE (by kernel_rfl) (zE (by kernel_rfl) (zE (by kernel_rfl) (zE (by kernel_rfl) qM)))))), by kernel_rfl, ?_⟩
  simp (maxSteps:=1000000) (disch:=first|assumption|omega|rfl) only [↓gp, gc, Nat.reduceAdd]
  exact fin _ rfl
 ·simp (maxSteps:=1000000) (disch:=first|assumption|omega|rfl) only [List.replicate_zero, eq_self, gw, ga, Nat.reduceAdd, ↓gq, List.append_nil, zde, ha, hr0, hr1, bd48 hO, sv48, hp1]
  refine ⟨zE (by kernel_rfl) (jI rfl (by kernel_rfl) rfl (hl0 3 4 _ znp) wY (jI rfl (by kernel_rfl) rfl (hl0 3 3 _ znr) wY (jI rfl (by kernel_rfl) rfl (hl0 9 2 _ znj) zdg (jI rfl (by kernel_rfl) rfl (hl0 9 1 _ zo1) zdg (jI rfl (by kernel_rfl) rfl (hl0 3 0 _ zny) wY qM))))), ?_⟩
  refine ⟨zE (by kernel_rfl) (zE (by kernel_rfl) (zE (by kernel_rfl) (zE (by kernel_rfl) (zE (by kernel_rfl) (zE (by kernel_rfl) qM))))), by kernel_rfl, ?_⟩
  simp (maxSteps:=1000000) (disch:=first|assumption|omega|rfl) only [↓gp, gc, Nat.reduceAdd]
  exact fin _ rfl
def zmn : Nat := 4398012431360
noncomputable def cfgT : Cfg := { P := Try.prog, mixed := by kernel_rfl, shared := fun _ => false, ext := fun f => match Nat.beq f 19 with | true => some (evx cfgS f) | false => match Nat.testBit zmn f with | true => some (evx cfg f) | false => Option.none, catch_ := fun _ => Option.none }
theorem hPT : cfgT.P = Try.prog := rfl
theorem zkm {f : FuncId} {ds : List D} {o : Out} (h9 : Nat.beq f 19 = false) (hm : Nat.testBit zmn f = true) (h : Ev cfg f ds o) : Ev cfgT f ds o := by
 refine ⟨0, ?_⟩
 have hx : cfgT.ext f = some (evx cfg f) := by
  show (match Nat.beq f 19 with | true => some (evx cfgS f) | false => match Nat.testBit zmn f with | true => some (evx cfg f) | false => Option.none) = _
  rw [h9, hm]
 unfold runD answer
 simp only [hx]
 exact zig h
theorem stepT {ds : List D} {o : Out} (h : Ev cfgS 19 ds o) : Ev cfgT 19 ds o := by
 refine ⟨0, ?_⟩
 have hx : cfgT.ext 19 = some (evx cfgS 19) := rfl
 unfold runD answer
 simp only [hx]
 exact zig h
theorem extT : z2u cfgT := by
 intro f g h
 have h : (match Nat.beq f 19 with | true => some (evx cfgS f) | false => match Nat.testBit zmn f with | true => some (evx cfg f) | false => Option.none) = some g := h
 split at h
 ·cases h
  intro ds o ho
  obtain ⟨n, hn⟩ := zio ho
  exact z4h extS zuf n f ds o hn
 ·split at h
  ·cases h
   intro ds o ho
   obtain ⟨n, hn⟩ := zio ho
   exact z4h extC znk n f ds o hn
  ·cases h
theorem catchT : z34 cfgT := fun f post h => by cases h
def Num (t : List Node) : Prop := ∀ n ∈ t, 0 ≤ n.ino ∧ n.ino ≤ 128
theorem Num.get {t : List Node} (h : Num t) (x : Int) : 0 ≤ (getN t x).ino ∧ (getN t x).ino ≤ 128 := by
 rcases qV t x with ⟨h1, _⟩ | ⟨h1, _⟩
 ·rw [h1]; exact ⟨by decide, by decide⟩
 ·exact h _ h1
theorem Num.with {t : List Node} {n : Node} (h : Num t) (hn : 0 ≤ n.ino ∧ n.ino ≤ 128) : Num (qS t n) := fun m hm => by
 rcases wB.1 hm with rfl | ⟨h1, _⟩
 ·exact hn
 ·exact h m h1
theorem Num.drop {t : List Node} {d : Int} {s : List UInt8} (h : Num t) : Num (zR t d s) := h.with (h.get d)
theorem Num.put {t : List Node} {d i : Int} {s : List UInt8} (h : Num t) : Num (putN t d s i) := h.with (h.get d)
theorem Num.loses {t : List Node} {i : Int} (h : Num t) : Num (kF t i) := by
 unfold kF
 split
 ·exact fun n hn => h n (List.mem_filter.1 hn).1
 ·exact h.with (h.get i)
theorem Num.step {t : List Node} {o : Opn} (h : Num t) (hl : t.length ≤ 120) : Num (jH t o).1 := by
 have hnx := (z07 t).2
 have mk : Num (z3a t o).1 := by
  unfold z3a
  split
  ·exact h
  split
  ·exact h
  refine Num.put (h.with ?_)
  unfold qC
  split <;> exact ⟨by show 0 ≤ qX t; omega, by show qX t ≤ 128; omega⟩
 have lk : Num (z2w t o).1 := by
  unfold z2w
  split
  ·exact h
  split
  ·exact h
  split
  ·exact h
  split
  ·exact h
  exact Num.put (h.with (h.get _))
 have rm : Num (wZ t o).1 := by
  unfold wZ
  repeat' split
  all_goals first | exact h | exact h.drop.loses
 have rn : Num (wO t o).1 := by
  unfold wO
  split
  ·exact h
  split
  ·exact h
  split
  ·exact h
  unfold z35
  split
  ·exact h
  split
  ·exact h
  split
  ·exact h
  split
  ·exact h
  unfold renamed
  have h1 : Num (if 0 ≤ qO (getN t (zO t o.b).1).names (zO t o.b).2.1 then kF (zR t (zO t o.b).1 (zO t o.b).2.1) (qO (getN t (zO t o.b).1).names (zO t o.b).2.1) else t) := by
   split
   ·exact h.drop.loses
   ·exact h
  have h2 := (h1.drop (d := (zO t o.a).1) (s := (zO t o.a).2.1)).put (d := (zO t o.b).1) (s := (zO t o.b).2.1) (i := qO (getN t (zO t o.a).1).names (zO t o.a).2.1)
  simp only
  split
  ·exact h2.with (h2.get _)
  ·exact h2
 have bt : Num (wX t o).1 := by
  unfold wX
  split
  ·exact h
  unfold z3o
  have hg := h.get (zK t o.a).1
  repeat' split
  all_goals first | exact h | exact h.with hg
 unfold jH
 split
 ·exact h
 split
 ·exact mk
 split
 ·exact lk
 split
 ·exact rm
 split
 ·exact rn
 split
 ·exact bt
 split
 ·exact h
 ·exact h
theorem Num.new : Num newN := fun n hn => by
 simp only [newN, List.mem_singleton] at hn
 subst hn
 exact ⟨by decide, by decide⟩
structure At (k : Nat) (t : List Node) : Prop where
 g : Good (1 + 5 * k) t
 num : Num t
theorem At.new : At 0 newN := ⟨⟨Small.new, LJ.new, TInv.new⟩, Num.new⟩
theorem At.step {k : Nat} {t : List Node} {o : Opn} (h : At k t) (hk : k ≤ 23) : At (k + 1) (jH t o).1 := by
 refine ⟨⟨?_, h.g.lj.step h.g.ti, h.g.ti.step⟩, h.num.step (Nat.le_trans h.g.sm.len (by omega))⟩
 have := h.g.sm.step (o := o)
 rw [show 1 + 5 * (k + 1) = 1 + 5 * k + 5 by omega]
 exact this
section
variable {ops : Array Oper} {dst : Option Tmp} {k : List Oper} {T : List V} {S : zA} {F : Dfs} {Q : Post}
theorem zqj {n : Nat} {t : List Node} {o : Opn} (h : At n t) (hn : n ≤ 23) (hl : o.a.length < 900000) (hlb : o.b.length < 900000) :
  WpR cfgT ops dst k T S F Q (some (.enter 19 [.d (.sl (t.map zB)), .d (encOpn o)])) = WpL cfgT ops k (putT T dst (.tup [.d (.sl ((jH t o).1.map zB)), .d (z9o (jH t o).2)])) S F Q :=
 jY (ds := [.sl (t.map zB), encOpn o]) rfl (stepT (zw5 t _ (by omega) h.g o hl hlb h.num (h.step hn).num))
theorem zkj {l : List Opn} {m : Int} (hm : m ≤ 1000) : WpR cfgT ops dst k T S F Q (some (.enter 10 [.d (.sl (l.map encOpn)), .d (.int .i64 m)])) = WpL cfgT ops k (putT T dst (.d (.bool (zfa l m)))) S F Q :=
 jY (ds := [.sl (l.map encOpn), .int .i64 m]) rfl (zkm rfl rfl (zoj l m hm))
theorem zas : WpR cfgT ops dst k T S F Q (some (.enter 16 [])) = WpL cfgT ops k (putT T dst (.d (.bool true))) S F Q :=
 jY (ds := []) rfl (zkm rfl rfl zgq)
theorem zoe {o : Opn} (hl : o.data.length < 900000) : WpR cfgT ops dst k T S F Q (some (.enter 20 [.d (encOpn o)])) = WpL cfgT ops k (putT T dst (.d (encOpn o))) S F Q :=
 jY (ds := [encOpn o]) rfl (zkm rfl rfl (zp9 o hl))
theorem zog : WpR cfgT ops dst k T S F Q (some (.enter 17 [])) = WpL cfgT ops k (putT T dst (.d (.sl (newN.map zB)))) S F Q :=
 jY (ds := []) rfl (zkm rfl rfl zpt)
end
end Go.Proofs.Ytghllhghboaagaa
end
section
namespace Go.Proofs.Ytghllhghboaagaa

end Go.Proofs.Ytghllhghboaagaa
end
section
namespace Go.Proofs.Ytghllhghboaagaa
open Go.Vm
section
variable {ops : Array Oper} {dst : Option Tmp} {k : List Oper} {T : List V} {S : zA} {F : Dfs} {Q : Post}
end

end Go.Proofs.Ytghllhghboaagaa
end
section
namespace Go.Proofs.Ytghllhghboaagaa
theorem zbf {u : List Node} {d y i : Int} {s : List UInt8} (hu : Uniq u) (hd : (getN u d).kind = 2) : getN (putN u d s i) y = if y = d then { getN u d with names := putA s i false (getN u d).names } else getN u y := by
 unfold putN
 rw [qR hu]
 unfold upd
 have hi : ({ getN u d with names := putA s i false (getN u d).names } : Node).ino = d := qW hd
 rw [hi]
theorem zdw {t : List Node} {s : List UInt8} (h : (zO t s).2.2 = 0) : ∃ p, (zT s).2 = 0 ∧ (zT s).1 = p ++ [(zO t s).2.1] ∧ goN t p 1 = ((zO t s).1, 0) := by
 unfold zO at h ⊢
 by_cases h1 : (zT s).2 ≠ 0
 ·rw [if_pos h1] at h; exact absurd h h1
 rw [if_neg h1] at h ⊢
 by_cases h2 : (zT s).1.length = 0
 ·rw [if_pos h2] at h; exact absurd (show (15 : Int) = 0 from h) (by decide)
 rw [if_neg h2] at h ⊢
 by_cases h3 : (goN t ((zT s).1.take ((zT s).1.length - 1)) 1).2 ≠ 0
 ·rw [if_pos h3] at h; exact absurd h h3
 rw [if_neg h3] at h ⊢
 by_cases h4 : (getN t (goN t ((zT s).1.take ((zT s).1.length - 1)) 1).1).kind ≠ 2
 ·rw [if_pos h4] at h; exact absurd (show (6 : Int) = 0 from h) (by decide)
 rw [if_neg h4]
 refine ⟨(zT s).1.take ((zT s).1.length - 1), by simpa using h1, ?_, ?_⟩
 ·have hlt : (zT s).1.length - 1 < (zT s).1.length := by omega
  have := List.take_succ_eq_append_getElem hlt
  rw [show (zT s).1.length - 1 + 1 = (zT s).1.length by omega, List.take_length] at this
  show (zT s).1 = _ ++ [(zT s).1.getD ((zT s).1.length - 1) []]
  rw [List.getD_eq_getElem?_getD, List.getElem?_eq_getElem hlt]
  exact this
 ·show _ = ((goN t ((zT s).1.take ((zT s).1.length - 1)) 1).1, (0 : Int))
  have : (goN t ((zT s).1.take ((zT s).1.length - 1)) 1).2 = 0 := by simpa using h3
  rw [← this]
end Go.Proofs.Ytghllhghboaagaa
end
section
namespace Go.Proofs.Ytghllhghboaagaa
open Go.Vm
section
variable {ops : Array Oper} {dst : Option Tmp} {k : List Oper} {T : List V} {S : zA} {F : Dfs} {Q : Post}
end
end Go.Proofs.Ytghllhghboaagaa
end
section
namespace Go.Proofs.Ytghllhghboaagaa
structure RN (n : Node) : Prop where
 k : n.kind = 0 ∨ n.kind = 1 ∨ n.kind = 2
 f : n.kind = 1 → n.parent = 0
 d : n.kind = 2 → n.size = 0 ∧ n.data = []
 nm : ∀ e ∈ n.names, z0p e.name = true
 l : n.kind ≠ 0 → 1 ≤ n.links
 r : n.kind ≠ 0 → n.ino = 1 → n.parent = 1
def RInv (t : List Node) : Prop := ∀ n ∈ t, RN n
theorem RN.zero : RN zJ := ⟨.inl rfl, fun h => absurd h (by decide), fun h => absurd h (by decide), fun e he => (by cases he), fun h => absurd rfl h, fun h => absurd rfl h⟩
theorem RInv.get {t : List Node} (h : RInv t) (x : Int) : RN (getN t x) := by
 rcases qV t x with ⟨h1, _⟩ | ⟨h1, _⟩
 ·rw [h1]; exact RN.zero
 ·exact h _ h1
theorem RInv.with {t : List Node} {n : Node} (h : RInv t) (hn : RN n) : RInv (qS t n) := fun m hm => by
 rcases wB.1 hm with rfl | ⟨h1, _⟩
 ·exact hn
 ·exact h m h1
theorem RInv.drop {t : List Node} {d : Int} {s : List UInt8} (h : RInv t) : RInv (zR t d s) := by
 have hg := h.get d
 exact h.with ⟨hg.k, hg.f, hg.d, fun e he => hg.nm e (List.mem_filter.1 he).1, hg.l, hg.r⟩
theorem RInv.put {t : List Node} {d i : Int} {s : List UInt8} (h : RInv t) (hs : z0p s = true) : RInv (putN t d s i) := by
 have hg := h.get d
 refine h.with ⟨hg.k, hg.f, hg.d, fun e he => ?_, hg.l, hg.r⟩
 rcases mem_putA.1 he with ⟨_, rfl⟩ | he
 ·exact hs
 ·exact hg.nm e he
theorem RInv.loses {t : List Node} {i : Int} (h : RInv t) : RInv (kF t i) := by
 unfold kF
 split
 ·exact fun n hn => h n (List.mem_filter.1 hn).1
 ·rename_i hl
  have hg := h.get i
  exact h.with ⟨hg.k, hg.f, hg.d, hg.nm, fun _ => (by show 1 ≤ (getN t i).links - 1; omega), hg.r⟩
theorem z4g {t : List Node} {s : List UInt8} (h : (zO t s).2.2 = 0) : z0p (zO t s).2.1 = true := by
 obtain ⟨p, h1, h2, _⟩ := zdw h
 exact zac s _ (by rw [h2]; simp)
theorem RInv.new : RInv newN := fun n hn => by
 simp only [newN, List.mem_singleton] at hn
 subst hn
 exact ⟨.inr (.inr rfl), fun h => absurd h (by decide), fun _ => ⟨rfl, rfl⟩, fun e he => (by cases he), fun _ => (by decide), fun _ _ => rfl⟩
theorem RInv.rename {t : List Node} {n : Nat} {o : Opn} (h0 : RInv t) (hA : At n t) : RInv (wO t o).1 := by
 have hG := hA.g
 have h := hG.lj
 have hT := hG.ti
 unfold wO
 split
 ·exact h0
 rename_i c1
 split
 ·exact h0
 rename_i c2
 split
 ·exact h0
 rename_i c3
 have hf := jD (t := t) (s := o.a) (by simpa using c1)
 have hd := jD (t := t) (s := o.b) (by simpa using c3)
 have hri := z4g (t := t) (s := o.b) (by simpa using c3)
 generalize zO t o.a = w at *
 generalize zO t o.b = v at *
 obtain ⟨f, old, _⟩ := w
 obtain ⟨d, s, _⟩ := v
 simp only at *
 obtain ⟨e0, he0, hs0, hi0⟩ := wN (l := (getN t f).names) (s := old) (by omega)
 have hge : 2 ≤ qO (getN t f).names old := by rw [← hi0]; exact hT.inv.ge2 _ e0 he0
 generalize hino : qO (getN t f).names old = ino at *
 generalize hwas : qO (getN t d).names s = was at *
 unfold z35
 split
 ·exact h0
 rename_i c4
 split
 ·exact h0
 split
 ·exact h0
 rename_i c6
 split
 ·exact h0
 rename_i c7
 have hkw : (getN t was).kind ≠ 2 := by
  by_cases hw : 0 ≤ was
  ·exact fun hh => c7 ⟨hw, hh⟩
  ·intro hh
   have := hT.inv.pos was hh
   omega
 show RInv (renamed t f old d s ino was (getN t ino).kind)
 have main : ∀ w : List Node, RInv w → Uniq w → (getN w f).kind = 2 → (getN w d).kind = 2 → ((getN t ino).kind = 2 → (getN w ino).kind = 2) → RInv (if (getN t ino).kind = 2 then qS (putN (zR w f old) d s ino) (moved (getN (putN (zR w f old) d s ino) ino) d) else putN (zR w f old) d s ino) := fun w hw hu kf kd ki => by
  have h2 : RInv (putN (zR w f old) d s ino) := hw.drop.put hri
  split
  ·rename_i hk
   have kdD : (getN (zR w f old) d).kind = 2 := by rw [(qK hu kf).1]; exact kd
   have huD : Uniq (zR w f old) := vJ hu
   have e : (getN (putN (zR w f old) d s ino) ino).kind = 2 := by
    rw [zbf huD kdD]
    split
    ·exact kdD
    ·rw [(qK hu kf).1]; exact ki hk
   have hg := h2.get ino
   refine h2.with ⟨hg.k, fun hh => absurd (hh.symm.trans e) (by decide), hg.d, hg.nm, hg.l, fun _ hh => ?_⟩
   have := vA (t := putN (zR w f old) d s ino) (x := ino) (by rw [e]; decide)
   have hh : (getN (putN (zR w f old) d s ino) ino).ino = 1 := hh
   omega
  ·exact h2
 unfold renamed
 by_cases hw : 0 ≤ was
 ·simp only [if_pos hw]
  have hM := zgg (k := 1 + 5 * n) (f := f) (d := d) (old := old) (s := s) (ino := ino) h hT hG.sm hf hd e0 he0 hs0 hi0 (by rw [hwas]; exact c4) (by rw [hwas]; exact hw) (by rw [hwas]; exact hkw)
  rw [hwas] at hM
  have hDu : Uniq (zR t d s) := vJ h.srt.uniq
  refine main _ h0.drop.loses hM.lj.srt.uniq hM.kf hM.kd fun hk => ?_
  rw [vO hDu (fun hh => c4 hh.symm), (qK h.srt.uniq hd).1]
  exact hk
 ·simp only [if_neg hw]
  exact main t h0 h.srt.uniq hf hd fun hk => hk
theorem RInv.step {t : List Node} {n : Nat} {o : Opn} (h : RInv t) (hA : At n t) : RInv (jH t o).1 := by
 have hnx := (z07 t).2
 have mk : RInv (z3a t o).1 := by
  unfold z3a
  split
  ·exact h
  rename_i c1
  split
  ·exact h
  refine RInv.put (h.with ?_) (z4g (by simpa using c1))
  unfold qC
  split
  ·exact ⟨.inr (.inr rfl), fun h => absurd (show (2 : Int) = 1 from h) (by decide), fun _ => ⟨rfl, rfl⟩, fun e he => (by cases he), fun _ => Int.le_refl 1, fun _ hh => absurd (show qX t = 1 from hh) (by omega)⟩
  ·exact ⟨.inr (.inl rfl), fun _ => rfl, fun h => absurd (show (1 : Int) = 2 from h) (by decide), fun e he => (by cases he), fun _ => Int.le_refl 1, fun _ hh => absurd (show qX t = 1 from hh) (by omega)⟩
 have lk : RInv (z2w t o).1 := by
  unfold z2w
  split
  ·exact h
  split
  ·exact h
  split
  ·exact h
  rename_i c3
  split
  ·exact h
  have hg := h.get (zK t o.a).1
  exact RInv.put (h.with ⟨hg.k, hg.f, hg.d, hg.nm, fun hk => (by have := hg.l hk; show 1 ≤ (getN t (zK t o.a).1).links + 1; omega), hg.r⟩) (z4g (by simpa using c3))
 have rm : RInv (wZ t o).1 := by
  unfold wZ
  repeat' split
  all_goals first | exact h | exact h.drop.loses
 have rn : RInv (wO t o).1 := h.rename hA
 have bt : RInv (wX t o).1 := by
  unfold wX
  split
  ·exact h
  have hg := h.get (zK t o.a).1
  generalize getN t (zK t o.a).1 = m at *
  unfold z3o
  split
  ·exact h
  rename_i hk
  repeat' split
  all_goals first | exact h | exact h.with ⟨hg.k, hg.f, fun hh => absurd hh hk, hg.nm, hg.l, hg.r⟩
 unfold jH
 split
 ·exact h
 split
 ·exact mk
 split
 ·exact lk
 split
 ·exact rm
 split
 ·exact rn
 split
 ·exact bt
 split
 ·exact h
 ·exact h
end Go.Proofs.Ytghllhghboaagaa
end
section
namespace Go.Proofs.Ytghllhghboaagaa
open Go.Vm
def getI : List (Int × Int) → Int → Int
 | [], _ => 0
 | p :: r, k => if k = p.1 then p.2 else getI r k
def updI : List (Int × Int) → Int → Int → List (Int × Int)
 | [], k, v => [(k, v)]
 | p :: r, k, v => if k = p.1 then (k, v) :: r else p :: updI r k v
theorem zbg {M : List (Int × Int)} {k v x : Int} : getI (updI M k v) x = if x = k then v else getI M x := by
 induction M with
 | nil => simp only [updI, getI]
 | cons p r ih =>
  simp only [updI]
  by_cases h : k = p.1
  ·rw [if_pos h]
   simp only [getI]
   by_cases hx : x = k
   ·rw [if_pos hx, if_pos hx]
   ·rw [if_neg hx, if_neg hx, if_neg (by rw [← h]; exact hx)]
  ·rw [if_neg h]
   simp only [getI]
   by_cases hx : x = p.1
   ·rw [if_pos hx, if_pos hx, if_neg (by rw [hx]; exact fun hh => h hh.symm)]
   ·rw [if_neg hx, if_neg hx, ih]
def t1 (M : List (Int × Int)) (l : List Ent) : List (Int × Int) := l.foldl (fun M e => updI M e.ino (getI M e.ino + 1)) M
def t2 (d : Int) (M : List (Int × Int)) (l : List Ent) : List (Int × Int) := l.foldl (fun M e => updI M e.ino d) M
def tM1 (M : List (Int × Int)) (t : List Node) : List (Int × Int) := t.foldl (fun M n => t1 M n.names) M
def tM2 (M : List (Int × Int)) (t : List Node) : List (Int × Int) := t.foldl (fun M n => t2 n.ino M n.names) M
theorem zpu {l : List Ent} {x : Int} : ∀ {M : List (Int × Int)}, getI (t1 M l) x = getI M x + cp l x := by
 induction l with
 | nil => intro M; simp [t1, zg4]
 | cons e r ih =>
  intro M
  show getI (t1 (updI M e.ino (getI M e.ino + 1)) r) x = _
  rw [ih, zbg, z4l]
  by_cases h : x = e.ino
  ·rw [if_pos h, if_pos h.symm, h]; omega
  ·rw [if_neg h, if_neg (fun hh => h hh.symm)]; omega
theorem zat {t : List Node} {x : Int} : ∀ {M : List (Int × Int)}, getI (tM1 M t) x = getI M x + cnt t x := by
 induction t with
 | nil => intro M; simp [tM1, zbb]
 | cons n r ih =>
  intro M
  show getI (tM1 (t1 M n.names) r) x = _
  rw [ih, zpu, vM]
  omega
theorem zpg {d : Int} {l : List Ent} {x : Int} : ∀ {M : List (Int × Int)}, getI (t2 d M l) x = if cp l x ≠ 0 then d else getI M x := by
 induction l with
 | nil => intro M; simp [t2, zg4]
 | cons e r ih =>
  intro M
  show getI (t2 d (updI M e.ino d) r) x = _
  rw [ih, zbg, z4l]
  by_cases h : x = e.ino
  ·rw [if_pos h, if_pos h.symm]
   rw [if_pos (show cp r x + 1 ≠ 0 by omega)]
   split <;> rfl
  ·have h' : ¬ e.ino = x := fun hh => h hh.symm
   simp only [if_neg h, if_neg h', Nat.add_zero]
theorem zmv {t : List Node} {x : Int} : ∀ {M : List (Int × Int)}, (cnt t x = 0 ∧ getI (tM2 M t) x = getI M x) ∨ ∃ n ∈ t, cp n.names x ≠ 0 ∧ getI (tM2 M t) x = n.ino := by
 induction t with
 | nil => intro M; exact .inl ⟨zbb x, rfl⟩
 | cons n r ih =>
  intro M
  have e : tM2 M (n :: r) = tM2 (t2 n.ino M n.names) r := rfl
  rw [e]
  rcases ih (M := t2 n.ino M n.names) with ⟨h1, h2⟩ | ⟨m, h1, h2, h3⟩
  ·rw [h2, zpg]
   by_cases hc : cp n.names x ≠ 0
   ·exact .inr ⟨n, by simp, hc, by rw [if_pos hc]⟩
   ·exact .inl ⟨by rw [vM, h1]; omega, by rw [if_neg hc]⟩
  ·exact .inr ⟨m, by simp [h1], h2, h3⟩
def encM (M : List (Int × Int)) : List (D × D) := M.map fun p => (.int .i64 p.1, .int .i64 p.2)
def MapI (S : zA) (i : Nat) (M : List (Int × Int)) : Prop := ∃ es c, S[i]? = some (.mp es c) ∧ es.map (fun e => (e.1, e.2.1)) = M.map fun p => (D.int .i64 p.1, V.d (.int .i64 p.2))
theorem MapI.keep {S S' : zA} {i : Nat} {M : List (Int × Int)} (h : MapI S i M) (hk : S'[i]? = S[i]?) : MapI S' i M := by
 obtain ⟨es, c, h1, h2⟩ := h
 exact ⟨es, c, by rw [hk]; exact h1, h2⟩
theorem MapI.app {S l : zA} {i : Nat} {M : List (Int × Int)} (h : MapI S i M) : MapI (S ++ l) i M := by
 obtain ⟨es, c, h1, h2⟩ := h
 exact ⟨es, c, qJ h1, h2⟩
theorem zhc {M : List (Int × Int)} {k : Int} : ∀ {i : Nat}, (findD Try.prog 3 (.d (.int .i64 k)) (M.map fun p => (D.int .i64 p.1, V.d (.int .i64 p.2))) i = some none ∧ getI M k = 0) ∨ ∃ j, findD Try.prog 3 (.d (.int .i64 k)) (M.map fun p => (D.int .i64 p.1, V.d (.int .i64 p.2))) i = some (some (j, .d (.int .i64 (getI M k)))) := by
 induction M with
 | nil => exact fun {i} => .inl ⟨rfl, rfl⟩
 | cons p r ih =>
  intro i
  by_cases h : k = p.1
  ·refine .inr ⟨i, ?_⟩
   simp only [List.map_cons, findD, eqI, getI, if_pos h]
   rw [h, beq_self_eq_true]
  ·have h1 : (k == p.1) = false := by rw [beq_eq_false_iff_ne]; exact h
   simp only [List.map_cons, findD, eqI, h1, getI, if_neg h]
   exact ih
theorem zju {S : zA} {v : V} {M : List (Int × Int)} {k : Int} (h : kC S v = some (M.map fun p => (D.int .i64 p.1, V.d (.int .i64 p.2)))) : kP Try.prog S 92 v (.d (.int .i64 k)) false = some (.d (.int .i64 (getI M k))) := by
 rcases zhc (M := M) (k := k) (i := 0) with ⟨h2, h3⟩ | ⟨j, h2⟩
 ·simp only [kP, Try.underlying92, keyI, if_true, h, z3, h2, h3, Bool.false_eq_true, if_false]
 ·simp only [kP, Try.underlying92, keyI, if_true, h, z3, h2, Bool.false_eq_true, if_false]
theorem zt3 {S : zA} {i : Nat} {M : List (Int × Int)} {k : Int} (h : MapI S i M) : kP Try.prog S 92 (.mr i) (.d (.int .i64 k)) false = some (.d (.int .i64 (getI M k))) := by
 obtain ⟨es, c, h1, h2⟩ := h
 refine zju ?_
 simp only [kC, h1, h2]
theorem zjg {S : zA} {M : List (Int × Int)} {k : Int} : kP Try.prog S 92 (.d (.map (encM M))) (.d (.int .i64 k)) false = some (.d (.int .i64 (getI M k))) := by
 refine zju ?_
 simp only [kC, encM, List.map_map, Function.comp_def]
theorem zj4 {k v : Int} : ∀ {M : List (Int × Int)} {es : List (D × V × Nat)} {i : Nat}, es.map (fun e => (e.1, e.2.1)) = M.map (fun p => (D.int .i64 p.1, V.d (.int .i64 p.2))) →
  (findD Try.prog 3 (.d (.int .i64 k)) es i = some none ∧ updI M k v = M ++ [(k, v)]) ∨ ∃ j u e, findD Try.prog 3 (.d (.int .i64 k)) es i = some (some (i + j, u)) ∧ es[j]? = some e ∧ e.1 = .int .i64 k ∧ ∀ c : Nat, (es.set j (.int .i64 k, .d (.int .i64 v), c)).map (fun e => (e.1, e.2.1)) = (updI M k v).map fun p => (D.int .i64 p.1, V.d (.int .i64 p.2))
 | [], [], i, _ => .inl ⟨rfl, rfl⟩
 | [], _ :: _, _, h => by cases h
 | _ :: _, [], _, h => by cases h
 | p :: r, e :: es, i, h => by
  rw [List.map_cons, List.map_cons] at h
  obtain ⟨h1, h2⟩ := List.cons.inj h
  obtain ⟨h3, h4⟩ := Prod.mk.inj h1
  have h3 : e.1 = .int .i64 p.1 := h3
  by_cases hk : k = p.1
  ·refine .inr ⟨0, e.2, e, ?_, rfl, by rw [h3, hk], fun c => ?_⟩
   ·simp only [findD, h3, eqI]
    rw [hk, beq_self_eq_true]
    rfl
   ·simp only [updI, if_pos hk, List.set_cons_zero, List.map_cons, h2]
  ·have h5 : (k == p.1) = false := by rw [beq_eq_false_iff_ne]; exact hk
   rcases zj4 (k := k) (v := v) (i := i + 1) h2 with ⟨h6, h7⟩ | ⟨j, u, e', h6, h7, h8, h9⟩
   ·refine .inl ⟨?_, ?_⟩
    ·simp only [findD, h3, eqI, h5]; exact h6
    ·simp only [updI, if_neg hk, h7, List.cons_append]
   ·refine .inr ⟨j + 1, u, e', ?_, h7, h8, fun c => ?_⟩
    ·simp only [findD, h3, eqI, h5]; rw [h6]; congr 3; omega
    ·simp only [updI, if_neg hk, List.set_cons_succ, List.map_cons, h9, h1]
theorem zqy {S : zA} {i : Nat} {M : List (Int × Int)} {k v : Int} (h : MapI S i M) : ∃ S', qU Try.prog S 92 (.mr i) (.d (.int .i64 k)) (.d (.int .i64 v)) = some S' ∧ MapI S' i (updI M k v) ∧ ∀ j, j ≠ i → S'[j]? = S[j]? := by
 obtain ⟨es, c, h1, h2⟩ := h
 have hil : i < S.length := qG h1
 have ha : asD (.d (.int .i64 k)) = some (.int .i64 k) := rfl
 have ho : V.one (.d (.int .i64 v)) = true := rfl
 rcases zj4 (k := k) (v := v) (i := 0) h2 with ⟨h6, h7⟩ | ⟨j, u, e', h6, h7, h8, h9⟩
 ·refine ⟨_, by simp only [qU, Try.underlying92, keyI, ho, Bool.and_self, if_true, ha, h1, h6]; rfl, ⟨_, _, List.getElem?_set_self hil, ?_⟩, fun j hj => List.getElem?_set_ne (fun hh => hj hh.symm)⟩
  rw [h7, List.map_append, List.map_append, h2]
  rfl
 ·rw [Nat.zero_add] at h6
  have hs : zaw e'.1 (.int .i64 k) = true := by rw [h8]; simp [zaw, z37, jS]
  refine ⟨_, by simp only [qU, Try.underlying92, keyI, ho, Bool.and_self, if_true, ha, h1, h6, h7, hs]; rfl, ⟨_, _, List.getElem?_set_self hil, h9 _⟩, fun j hj => List.getElem?_set_ne (fun hh => hj hh.symm)⟩
theorem zsy {S : zA} {i : Nat} {M : List (Int × Int)} (h : MapI S i M) : frz S zS (.mr i) = some (.map (encM M)) := by
 obtain ⟨es, c, h1, h2⟩ := h
 have hg : ∀ {M : List (Int × Int)} {es : List (D × V × Nat)}, es.map (fun e => (e.1, e.2.1)) = M.map (fun p => (D.int .i64 p.1, V.d (.int .i64 p.2))) → allO (fun (e : D × V × Nat) => (frz S 11 e.2.1).map fun x => (e.1, x)) es = some (encM M) := fun {M} => by
  induction M with
  | nil => intro es h; cases es with | nil => rfl | cons _ _ => cases h
  | cons p r ih =>
   intro es h
   cases es with
   | nil => cases h
   | cons e es =>
    rw [List.map_cons, List.map_cons] at h
    obtain ⟨h3, h4⟩ := List.cons.inj h
    obtain ⟨h5, h6⟩ := Prod.mk.inj h3
    have h5 : e.1 = .int .i64 p.1 := h5
    have h6 : e.2.1 = .d (.int .i64 p.2) := h6
    have h7 : frz S 11 (.d (.int .i64 p.2)) = some (.int .i64 p.2) := rfl
    simp only [allO, h6, h7, Option.map_some, ih h4, h5]
    rfl
 show (match S[i]? with | some (.mp es _) => (allO (fun (e : D × V × Nat) => (frz S 11 e.2.1).map fun x => (e.1, x)) es).map D.map | some (.fm es) => some (.map es) | _ => none) = _
 rw [h1]
 simp only [hg h2, Option.map_some]
theorem zoo (t : List Node) (ino : Int) (k0 : Nat) (hk0 : k0 < 300000) (hS : Small k0 t) (R : Post) (z : V) (hz : z = .agg [.d (.int .i64 0), .d (.int .i64 0), .d (.int .i64 0), .d (.int .i64 0), .d (.int .i64 0), .ts [], .ts []]) (g2 g3 g6 : V) : ∀ (k i : Nat) (S : zA) (v7 gF gA gB gC gH gI gJ gD gE gL gG gO gM gN gP gT gV gQ gR gS : V), t.length - i = k → i ≤ t.length → S[0]? = some (.row [z] 32) →
 (∀ S v7 i' gF gA gB gC gH gI gJ gD gE gL gG gO gM gN gP gT gV gQ gR gS, (t.drop i).find? (fun n => decide (n.ino = ino)) = none → S[0]? = some (.row [z] 32) → R (.exit 0) ((.d (.sl (t.map zB))) :: (.d (.int .i64 ino)) :: g2 :: g3 :: (.ref 0 0 0) :: (.d (.bool false)) :: g6 :: v7 :: (.d (.sl (t.map zB))) :: (.d (.int .i64 t.length)) :: i' :: gF :: gA :: gB :: gC :: gH :: gI :: gJ :: gD :: gE :: gL :: gG :: gO :: gM :: gN :: gP :: gT :: gV :: gQ :: gR :: gS :: []) S []) →
 (∀ S v7 i' n v1 v2 gF gA gB gC gH gI gJ gD gE gL gG gO gM gN gP gT gV gQ gR gS, (t.drop i).find? (fun n => decide (n.ino = ino)) = some n → S[0]? = some (.row [zC n v1 v2] 32) → OwnS S v1 5 (n.data.map fun b => .d (.int .u8 b.toNat)) → OwnS S v2 88 (n.names.map fun x => .d (zL x)) → R .ret ((.d (.sl (t.map zB))) :: (.d (.int .i64 ino)) :: g2 :: g3 :: (.ref 0 0 0) :: (.d (.bool true)) :: g6 :: v7 :: (.d (.sl (t.map zB))) :: (.d (.int .i64 t.length)) :: i' :: gF :: gA :: gB :: gC :: gH :: gI :: gJ :: gD :: gE :: gL :: gG :: gO :: gM :: gN :: gP :: gT :: gV :: gQ :: gR :: gS :: []) S []) →
 Wp cfg (.loop (lpOf (Try.f15.body.getD .skip) 0)) ((.d (.sl (t.map zB))) :: (.d (.int .i64 ino)) :: g2 :: g3 :: (.ref 0 0 0) :: (.d (.bool false)) :: g6 :: v7 :: (.d (.sl (t.map zB))) :: (.d (.int .i64 t.length)) :: (.d (.int .i64 i)) :: gF :: gA :: gB :: gC :: gH :: gI :: gJ :: gD :: gE :: gL :: gG :: gO :: gM :: gN :: gP :: gT :: gV :: gQ :: gR :: gS :: []) S [] R := by
 subst hz
 have hlt0 : t.length < 400000 := Nat.lt_of_le_of_lt hS.len (by omega)
 intro k
 induction k with
 | zero =>
  intro i S v7 gF gA gB gC gH gI gJ gD gE gL gG gO gM gN gP gT gV gQ gR gS hk hi hb hE hR
  have hie : i = t.length := by omega
  rw [qP]
  refine qE ?_
  conv => arg 2; whnf
  simp (maxSteps:=1000000) (disch:=first|assumption|omega|rfl) only [↓gp, gc, Nat.reduceAdd]
  exact hE _ _ _ _ _ _ _ _ _ _ _ _ _ _ _ _ _ _ _ _ _ _ _ (by rw [hie, List.drop_length]; rfl) hb
 | succ k ih =>
  intro i S v7 gF gA gB gC gH gI gJ gD gE gL gG gO gM gN gP gT gV gQ gR gS hk hi hb hE hR
  have hlt : i < t.length := by omega
  have hdr : t.drop i = t[i] :: t.drop (i + 1) := List.drop_eq_getElem_cons hlt
  rw [hdr, List.find?_cons] at hE hR
  have hmem := List.getElem_mem hlt
  have h0 : 0 < S.length := qG hb
  have hb1 : ∀ x : Ob, (S ++ [x])[0]? = some (.row [.agg [.d (.int .i64 0), .d (.int .i64 0), .d (.int .i64 0), .d (.int .i64 0), .d (.int .i64 0), .ts [], .ts []]] 32) := fun x => by rw [List.getElem?_append_left h0]; exact hb
  rw [qP]
  refine qE ?_
  conv => arg 2; whnf
  by_cases hc : t[i].ino = ino
  ·simp only [hc, decide_true] at hR
   have hd := hS.siz _ hmem
   have hn := hS.nms _ hmem
   generalize hN : t[i] = n at *
   obtain ⟨v1, S1, c1, ha1, ho1, hf1, hl1⟩ := apB (S := S ++ [.row [.d (zB n)] 32]) (l := n.data) (by omega)
   have hbS : (S ++ [.row [.d (zB n)] 32])[S.length]? = some (.row [.d (zB n)] 32) := by simp
   have hb2 : S1[S.length]? = some (.row [.d (zB n)] 32) := (hf1 S.length _ hbS).1
   have hr2 := zD hb2
   have hst1 := znv (a := n) (v := v1) (z55 ho1 (by kernel_rfl) (by kernel_rfl)) (z2n ho1)
   have hpr1 := fun y => zX (y := y) hb2
   have hb3 : ∀ y : V, (S1.set S.length (.row [y] 32))[S.length]? = some (.row [y] 32) := fun y => jP hb2
   have hr3 : ∀ y, rowE (S1.set S.length (.row [y] 32)) S.length 0 = some y := fun y => zD (hb3 y)
   obtain ⟨v2, S2, c2, ha2, ho2, hf2, hl2⟩ := apE (S := S1.set S.length (.row [zC n v1 (.d (.sl (n.names.map zL)))] 32)) (l := n.names) (by omega)
   have hb4 : S2[S.length]? = some (.row [zC n v1 (.d (.sl (n.names.map zL)))] 32) := (hf2 S.length _ (hb3 _)).1
   have hr4 := zD hb4
   have hst2 := fun (x0 x1 x2 x3 x4 x5 x6 : V) => zdv (x0 := x0) (x1 := x1) (x2 := x2) (x3 := x3) (x4 := x4) (x5 := x5) (x6 := x6) (v := v2) (z55 ho2 (by kernel_rfl) (by kernel_rfl)) (z2n ho2)
   have hpr2 := fun y => zX (y := y) hb4
   have hr5 : ∀ y, rowE (S2.set S.length (.row [y] 32)) S.length 0 = some y := fun y => zD (jP hb4)
   have k0' : ∀ o, (S ++ [.row [.d (zB n)] 32])[0]? = some o → o = .row [.agg [.d (.int .i64 0), .d (.int .i64 0), .d (.int .i64 0), .d (.int .i64 0), .d (.int .i64 0), .ts [], .ts []]] 32 := fun o ho => by rw [hb1] at ho; exact (Option.some.inj ho).symm
   have hz1 : S1[0]? = some (.row [.agg [.d (.int .i64 0), .d (.int .i64 0), .d (.int .i64 0), .d (.int .i64 0), .d (.int .i64 0), .ts [], .ts []]] 32) := (hf1 0 _ (hb1 _)).1
   have hne : S.length ≠ 0 := by omega
   have hz2 : (S1.set S.length (.row [zC n v1 (.d (.sl (n.names.map zL)))] 32))[0]? = some (.row [.agg [.d (.int .i64 0), .d (.int .i64 0), .d (.int .i64 0), .d (.int .i64 0), .d (.int .i64 0), .ts [], .ts []]] 32) := by rw [List.getElem?_set_ne hne]; exact hz1
   have hz3 : S2[0]? = some (.row [.agg [.d (.int .i64 0), .d (.int .i64 0), .d (.int .i64 0), .d (.int .i64 0), .d (.int .i64 0), .ts [], .ts []]] 32) := (hf2 0 _ hz2).1
   have hz4 : ∀ y, (S2.set S.length (.row [y] 32))[0]? = some (.row [.agg [.d (.int .i64 0), .d (.int .i64 0), .d (.int .i64 0), .d (.int .i64 0), .d (.int .i64 0), .ts [], .ts []]] 32) := fun y => by rw [List.getElem?_set_ne hne]; exact hz3
   have hr6 : ∀ y, rowE (S2.set S.length (.row [y] 32)) 0 0 = some (.agg [.d (.int .i64 0), .d (.int .i64 0), .d (.int .i64 0), .d (.int .i64 0), .d (.int .i64 0), .ts [], .ts []]) := fun y => zD (hz4 y)
   have hpr3 := fun y x => zX (y := y) (hz4 x)
   unfold zC at ha2 hr4 hpr2
   simp (maxSteps:=1000000) (disch:=first|assumption|omega|rfl) only [↓gp, gc, Nat.reduceAdd, ↓vbs, hN, zM, zI, zde, zo0, ha1, hr2, hst1, hpr1, hr3, ha2, hr4, hst2, hpr2, hr5, hr6, hpr3]
   exact hR _ _ _ n v1 v2 _ _ _ _ _ _ _ _ _ _ _ _ _ _ _ _ _ _ _ _ rfl (jP (hz4 _))
    (vF (vF (z1c (vF ho1 (hf1 S.length _ hbS).2) (fun j o hj => (hf2 j o hj).1)) (hf1 S.length _ hbS).2) (hf1 0 _ (hb1 _)).2)
    (vF (vF ho2 (hf2 S.length _ (hb3 _)).2) (hf2 0 _ hz2).2)
  ·simp only [hc, decide_false] at hE hR
   simp (maxSteps:=1000000) (disch:=first|assumption|omega|rfl) only [↓gp, gc, Nat.reduceAdd, zM, zI]
   exact ih (i + 1) _ _ _ _ _ _ _ _ _ _ _ _ _ _ _ _ _ _ _ _ _ _ (by omega) (by omega) (hb1 _) hE hR
theorem zlv (t : List Node) (ino : Int) (k0 : Nat) (hk0 : k0 < 300000) (hS : Small k0 t) : Ev cfg 15 [.sl (t.map zB), .int .i64 ino] (.ret (.tup [.d (zB (getN t ino)), .d (.bool (hasN t ino))])) := by
 refine z2l rfl rfl zrc ?_
 show Wp cfg (Try.f15.body.getD .skip) ((.d (.sl (t.map zB))) :: (.d (.int .i64 ino)) :: uZ (uZ ((.tup []) :: (.tup []) :: (.tup []) :: (.tup []) :: (.tup []) :: (.tup []) :: (.tup []) :: (.tup []) :: (.tup []) :: []))) [] [] _
 unfold uZ
 conv => arg 2; whnf
 simp (maxSteps:=1000000) (disch:=first|assumption|omega|rfl) only [↓gp, gc, Nat.reduceAdd]
 refine zoo t ino k0 hk0 hS _ _ rfl _ _ _ t.length 0 _ _ _ _ _ _ _ _ _ _ _ _ _ _ _ _ _ _ _ _ _ _ rfl (by omega) rfl ?_ ?_
 ·intro S v7 i' gF gA gB gC gH gI gJ gD gE gL gG gO gM gN gP gT gV gQ gR gS h hb
  rw [List.drop_zero] at h
  have hr := zD hb
  have hpr := fun y => zX (y := y) hb
  simp (maxSteps:=1000000) (disch:=first|assumption|omega|rfl) only [↓gp, gc, Nat.reduceAdd, zr6, hr, hpr]
  simp only [getN, hasN, h, Option.getD_none, Option.isSome_none]
  have hld : jW Try.prog (S.set 0 (.row [.agg [.d (.int .i64 0), .d (.int .i64 0), .d (.int .i64 0), .d (.int .i64 0), .d (.int .i64 0), .ts [], .ts []]] 32)) 32 (.ref 0 0 0) = some (.agg [.d (.int .i64 0), .d (.int .i64 0), .d (.int .i64 0), .d (.int .i64 0), .d (.int .i64 0), .ts [], .ts []]) := by rw [jC (zD (jP hb))]; kernel_rfl
  exact zj9 rfl rfl hld rfl rfl rfl rfl
 ·intro S v7 i' n v1 v2 gF gA gB gC gH gI gJ gD gE gL gG gO gM gN gP gT gV gQ gR gS h hb h1 h2
  rw [List.drop_zero] at h
  simp (maxSteps:=1000000) (disch:=first|assumption|omega|rfl) only [↓gp, gc, Nat.reduceAdd]
  simp only [getN, hasN, h, Option.getD_some, Option.isSome_some]
  have hld : jW Try.prog S 32 (.ref 0 0 0) = some (zC n v1 v2) := by rw [jC (zD hb)]; kernel_rfl
  exact zj9 rfl rfl hld rfl rfl rfl (z8f (k := 9) h1 h2)
theorem z9l {ops : Array Oper} {dst : Option Tmp} {k : List Oper} {T : List V} {S : zA} {F : Dfs} {Q : Post} {t : List Node} {ino : Int} {k0 : Nat} (hS : Small k0 t) (hk0 : k0 < 300000) :
  WpR cfg ops dst k T S F Q (some (.enter 15 [.d (.sl (t.map zB)), .d (.int .i64 ino)])) = WpL cfg ops k (putT T dst (.tup [.d (zB (getN t ino)), .d (.bool (hasN t ino))])) S F Q :=
 jY (ds := [.sl (t.map zB), .int .i64 ino]) rfl (zlv t ino k0 hk0 hS)
theorem zok (t : List Node) (k0 : Nat) (hk0 : k0 < 300000) (hS : Small k0 t) (n : Node) (hn : n.names.length ≤ 1000) (hh : ∀ e ∈ n.names, hasN t e.ino = true) (m : Nat) (hm : 2 ≤ m) (b : Nat) (hb : b ≤ 1000000000) (R : Post) (x1 x2 x3 x4 x16 x17 : V) : ∀ (k j : Nat) (S : zA) (M1 M2 : List (Int × Int)) (g7 g9 gK gF gA gB gC gD gE gL gG gP gT gV gQ gR gS gU gW gX gY gZ gj gf gg gh gi gk gm gn gr gz hC hY hZ hH hJ : V), n.names.length - j = k → j ≤ n.names.length → MapI S 0 M1 → MapI S 1 M2 → S[m]? = some (.row [.d (zB n)] 32) → (∀ x, 0 ≤ getI M1 x ∧ getI M1 x ≤ ((b + j : Nat) : Int)) →
 (∀ S j' g7 g9 gK gF gA gB gC gD gE gL gG gP gT gV gQ gR gS gU gW gX gY gZ gj gf gg gh gi gk gm gn gr gz hC hY hZ hH hJ, MapI S 0 (t1 M1 (n.names.drop j)) → MapI S 1 (t2 n.ino M2 (n.names.drop j)) → R (.exit 2) ((.d (.sl (t.map zB))) :: x1 :: x2 :: x3 :: x4 :: (.mr 0) :: (.mr 1) :: g7 :: (.ref m 0 0) :: g9 :: gK :: gF :: gA :: gB :: gC :: (.d (.sl (t.map zB))) :: x16 :: x17 :: gD :: gE :: gL :: gG :: (.d (.sl (n.names.map zL))) :: (.d (.int .i64 n.names.length)) :: j' :: gP :: gT :: gV :: gQ :: gR :: gS :: gU :: gW :: gX :: gY :: gZ :: gj :: gf :: gg :: gh :: gi :: gk :: gm :: gn :: gr :: gz :: hC :: hY :: hZ :: hH :: hJ :: []) S []) →
 Wp cfg (.loop (lpOf (Try.f56.body.getD .skip) 2)) ((.d (.sl (t.map zB))) :: x1 :: x2 :: x3 :: x4 :: (.mr 0) :: (.mr 1) :: g7 :: (.ref m 0 0) :: g9 :: gK :: gF :: gA :: gB :: gC :: (.d (.sl (t.map zB))) :: x16 :: x17 :: gD :: gE :: gL :: gG :: (.d (.sl (n.names.map zL))) :: (.d (.int .i64 n.names.length)) :: (.d (.int .i64 j)) :: gP :: gT :: gV :: gQ :: gR :: gS :: gU :: gW :: gX :: gY :: gZ :: gj :: gf :: gg :: gh :: gi :: gk :: gm :: gn :: gr :: gz :: hC :: hY :: hZ :: hH :: hJ :: []) S [] R := by
 intro k
 induction k with
 | zero =>
  intro j S M1 M2 g7 g9 gK gF gA gB gC gD gE gL gG gP gT gV gQ gR gS gU gW gX gY gZ gj gf gg gh gi gk gm gn gr gz hC hY hZ hH hJ hk hj h1 h2 h3 hbd hR
  have hje : j = n.names.length := by omega
  rw [hje, List.drop_length] at hR
  rw [qP]
  refine qE ?_
  conv => arg 2; whnf
  simp (maxSteps:=1000000) (disch:=first|assumption|omega|rfl) only [↓gp, gc, Nat.reduceAdd]
  exact hR _ _ _ _ _ _ _ _ _ _ _ _ _ _ _ _ _ _ _ _ _ _ _ _ _ _ _ _ _ _ _ _ _ _ _ _ _ _ _ h1 h2
 | succ k ih =>
  intro j S M1 M2 g7 g9 gK gF gA gB gC gD gE gL gG gP gT gV gQ gR gS gU gW gX gY gZ gj gf gg gh gi gk gm gn gr gz hC hY hZ hH hJ hk hj h1 h2 h3 hbd hR
  have hlt : j < n.names.length := by omega
  have hd : n.names.drop j = n.names[j] :: n.names.drop (j + 1) := List.drop_eq_getElem_cons hlt
  have hhe := hh _ (List.getElem_mem hlt)
  rw [hd] at hR
  generalize hee : n.names[j] = e at *
  obtain ⟨hb1, hb2⟩ := hbd e.ino
  obtain ⟨S3, u1, m1, r1⟩ := zqy (k := e.ino) (v := getI M1 e.ino + 1) (MapI.app (l := [Ob.row [.d (zB (getN t e.ino))] 32]) (MapI.app (l := [Ob.row [.d (zL e)] 88]) h1))
  have m2 := (MapI.app (l := [Ob.row [.d (zB (getN t e.ino))] 32]) (MapI.app (l := [Ob.row [.d (zL e)] 88]) h2)).keep (S' := S3) (r1 1 (by decide))
  obtain ⟨S4, u2, m3, r2⟩ := zqy (k := e.ino) (v := n.ino) m2
  have m4 := m1.keep (S' := S4) (r2 0 (by decide))
  have l0 := zt3 (k := e.ino) (MapI.app (l := [Ob.row [.d (zB (getN t e.ino))] 32]) (MapI.app (l := [Ob.row [.d (zL e)] 88]) h1))
  have hl2 : 2 ≤ S.length := by
   have := qG h3
   omega
  have c1 : (S ++ [Ob.row [.d (zL e)] 88] ++ [Ob.row [.d (zB (getN t e.ino))] 32])[S.length]? = some (.row [.d (zL e)] 88) := qJ qI
  have c2 : (S ++ [Ob.row [.d (zL e)] 88] ++ [Ob.row [.d (zB (getN t e.ino))] 32])[m]? = some (.row [.d (zB n)] 32) := qJ (qJ h3)
  have q1 := zD c1
  have q2 := zD ((r1 S.length (by omega)).trans c1)
  have q3 := zD ((r1 m (by omega)).trans c2)
  have c4 : S4[m]? = some (.row [.d (zB n)] 32) := (r2 m (by omega)).trans ((r1 m (by omega)).trans c2)
  rw [qP]
  refine qE ?_
  conv => arg 2; whnf
  simp (maxSteps:=1000000) (disch:=first|assumption|omega|rfl) only [↓gp, gc, Nat.reduceAdd, hee, z88, zf88, z32, zf32, zM, zI, z9l hS hk0, bo15, hhe, z19, Bool.not_true, q1, q2, q3, l0, u1, u2, Option.map_some]
  refine ih (j + 1) S4 _ _ _ _ _ _ _ _ _ _ _ _ _ _ _ _ _ _ _ _ _ _ _ _ _ _ _ _ _ _ _ _ _ _ _ _ _ _ _ (by omega) (by omega) m4 m3 c4 (fun x => ?_) hR
  have := hbd x
  rw [zbg]
  split <;> omega
theorem zol {t : List Node} {i : Nat} (h : i < t.length) : tM1 [] (t.take (i + 1)) = t1 (tM1 [] (t.take i)) t[i].names := by
 rw [List.take_add_one, List.getElem?_eq_getElem h]
 show (t.take i ++ [t[i]]).foldl _ _ = _
 rw [List.foldl_append]
 rfl
theorem zps {t : List Node} {i : Nat} (h : i < t.length) : tM2 [] (t.take (i + 1)) = t2 t[i].ino (tM2 [] (t.take i)) t[i].names := by
 rw [List.take_add_one, List.getElem?_eq_getElem h]
 show (t.take i ++ [t[i]]).foldl _ _ = _
 rw [List.foldl_append]
 rfl
theorem zcc {x : Int} : ∀ {t : List Node}, (∀ n ∈ t, n.names.length ≤ 1000) → cnt t x ≤ 1000 * t.length
 | [], _ => Nat.zero_le _
 | n :: r, h => by
  rw [vM, List.length_cons]
  have h1 : cp n.names x ≤ n.names.length := List.countP_le_length
  have h2 := h n (by simp)
  have h3 := zcc (x := x) (t := r) (fun m hm => h m (by simp [hm]))
  omega
theorem zlw (t : List Node) (k0 : Nat) (hk0 : k0 < 300000) (hS : Small k0 t) (hl : t.length ≤ 1000) (hn : ∀ n ∈ t, n.names.length ≤ 1000) (hh : ∀ n ∈ t, ∀ e ∈ n.names, hasN t e.ino = true) (R : Post) (x1 x2 x3 x4 : V) : ∀ (k i : Nat) (S : zA) (g7 g8 g9 gK gF gA gB gC gD gE gL gG gO gM gN gP gT gV gQ gR gS gU gW gX gY gZ gj gf gg gh gi gk gm gn gr gz hC hY hZ hH hJ : V), t.length - i = k → i ≤ t.length → MapI S 0 (tM1 [] (t.take i)) → MapI S 1 (tM2 [] (t.take i)) →
 (∀ S i' g7 g8 g9 gK gF gA gB gC gD gE gL gG gO gM gN gP gT gV gQ gR gS gU gW gX gY gZ gj gf gg gh gi gk gm gn gr gz hC hY hZ hH hJ, MapI S 0 (tM1 [] t) → MapI S 1 (tM2 [] t) → R (.exit 0) ((.d (.sl (t.map zB))) :: x1 :: x2 :: x3 :: x4 :: (.mr 0) :: (.mr 1) :: g7 :: g8 :: g9 :: gK :: gF :: gA :: gB :: gC :: (.d (.sl (t.map zB))) :: (.d (.int .i64 t.length)) :: i' :: gD :: gE :: gL :: gG :: gO :: gM :: gN :: gP :: gT :: gV :: gQ :: gR :: gS :: gU :: gW :: gX :: gY :: gZ :: gj :: gf :: gg :: gh :: gi :: gk :: gm :: gn :: gr :: gz :: hC :: hY :: hZ :: hH :: hJ :: []) S []) →
 Wp cfg (.loop (lpOf (Try.f56.body.getD .skip) 0)) ((.d (.sl (t.map zB))) :: x1 :: x2 :: x3 :: x4 :: (.mr 0) :: (.mr 1) :: g7 :: g8 :: g9 :: gK :: gF :: gA :: gB :: gC :: (.d (.sl (t.map zB))) :: (.d (.int .i64 t.length)) :: (.d (.int .i64 i)) :: gD :: gE :: gL :: gG :: gO :: gM :: gN :: gP :: gT :: gV :: gQ :: gR :: gS :: gU :: gW :: gX :: gY :: gZ :: gj :: gf :: gg :: gh :: gi :: gk :: gm :: gn :: gr :: gz :: hC :: hY :: hZ :: hH :: hJ :: []) S [] R := by
 intro k
 induction k with
 | zero =>
  intro i S g7 g8 g9 gK gF gA gB gC gD gE gL gG gO gM gN gP gT gV gQ gR gS gU gW gX gY gZ gj gf gg gh gi gk gm gn gr gz hC hY hZ hH hJ hk hi h1 h2 hR
  have hie : i = t.length := by omega
  rw [hie, List.take_length] at h1 h2
  rw [qP]
  refine qE ?_
  conv => arg 2; whnf
  simp (maxSteps:=1000000) (disch:=first|assumption|omega|rfl) only [↓gp, gc, Nat.reduceAdd]
  exact hR _ _ _ _ _ _ _ _ _ _ _ _ _ _ _ _ _ _ _ _ _ _ _ _ _ _ _ _ _ _ _ _ _ _ _ _ _ _ _ _ _ _ _ h1 h2
 | succ k ih =>
  intro i S g7 g8 g9 gK gF gA gB gC gD gE gL gG gO gM gN gP gT gV gQ gR gS gU gW gX gY gZ gj gf gg gh gi gk gm gn gr gz hC hY hZ hH hJ hk hi h1 h2 hR
  have hlt : i < t.length := by omega
  have hni := hn _ (List.getElem_mem hlt)
  have hhi := hh _ (List.getElem_mem hlt)
  have s1 := zol hlt
  have s2 := zps hlt
  have hbd : ∀ x, 0 ≤ getI (tM1 [] (t.take i)) x ∧ getI (tM1 [] (t.take i)) x ≤ ((1000 * 1000 + 0 : Nat) : Int) := fun x => by
   rw [zat]
   have := zcc (x := x) (t := t.take i) (fun n hm => hn n (List.mem_of_mem_take hm))
   rw [List.length_take] at this
   show 0 ≤ (0 : Int) + _ ∧ (0 : Int) + _ ≤ _
   omega
  have hl2 : 2 ≤ S.length := by
   obtain ⟨es, c, h3, _⟩ := h2
   have := qG h3
   omega
  rw [qP]
  refine qE ?_
  conv => arg 2; whnf
  generalize hee : t[i] = n at *
  simp (maxSteps:=1000000) (disch:=first|assumption|omega|rfl) only [↓gp, gc, Nat.reduceAdd, hee, z32, zf32, zM, zI]
  refine zok t k0 hk0 hS n hni hhi S.length hl2 (1000 * 1000) (by decide) _ _ _ _ _ _ _ n.names.length 0 _ _ _ _ _ _ _ _ _ _ _ _ _ _ _ _ _ _ _ _ _ _ _ _ _ _ _ _ _ _ _ _ _ _ _ _ _ _ _ _ rfl (by omega) h1.app h2.app qI hbd ?_
  intro S j' g7 g9 gK gF gA gB gC gD gE gL gG gP gT gV gQ gR gS gU gW gX gY gZ gj gf gg gh gi gk gm gn gr gz hC hY hZ hH hJ m1 m2
  rw [List.drop_zero, ← s1] at m1
  rw [List.drop_zero, ← s2] at m2
  simp (maxSteps:=1000000) (disch:=first|assumption|omega|rfl) only [↓gp, gc, Nat.reduceAdd]
  exact ih (i + 1) S _ _ _ _ _ _ _ _ _ _ _ _ _ _ _ _ _ _ _ _ _ _ _ _ _ _ _ _ _ _ _ _ _ _ _ _ _ _ _ _ _ (by omega) (by omega) m1 m2 hR
theorem zpf (t : List Node) (k0 : Nat) (hk0 : k0 < 300000) (hS : Small k0 t) (hl : t.length ≤ 1000) (hn : ∀ n ∈ t, n.names.length ≤ 1000) (hh : ∀ n ∈ t, ∀ e ∈ n.names, hasN t e.ino = true) : Ev cfg 56 [.sl (t.map zB)] (.ret (.tup [.d (.map (encM (tM1 [] t))), .d (.map (encM (tM2 [] t))), .d (.bool true)])) := by
 refine z2l rfl rfl ztr ?_
 show Wp cfg (Try.f56.body.getD .skip) ((.d (.sl (t.map zB))) :: uZ (uZ (uZ (uZ (uZ []))))) [] [] _
 unfold uZ
 conv => arg 2; whnf
 simp (maxSteps:=1000000) (disch:=first|assumption|omega|rfl) only [↓gp, gc, Nat.reduceAdd, ↓za5]
 refine zlw t k0 hk0 hS hl hn hh _ _ _ _ _ t.length 0 _ _ _ _ _ _ _ _ _ _ _ _ _ _ _ _ _ _ _ _ _ _ _ _ _ _ _ _ _ _ _ _ _ _ _ _ _ _ _ _ _ _ rfl (by omega) ⟨[], 0, rfl, rfl⟩ ⟨[], 0, rfl, rfl⟩ ?_
 intro S i' g7 g8 g9 gK gF gA gB gC gD gE gL gG gO gM gN gP gT gV gQ gR gS gU gW gX gY gZ gj gf gg gh gi gk gm gn gr gz hC hY hZ hH hJ m1 m2
 simp (maxSteps:=1000000) (disch:=first|assumption|omega|rfl) only [↓gp, gc, Nat.reduceAdd]
 exact z3d rfl rfl rfl rfl rfl rfl (zsy m1) (zsy m2) rfl
end Go.Proofs.Ytghllhghboaagaa
end
section
namespace Go.Proofs.Ytghllhghboaagaa
theorem zqn {l : List Ent} {x : Int} (h : cp l x ≠ 0) : ∃ e ∈ l, e.ino = x := by
 obtain ⟨e, h1, h2⟩ := List.countP_pos_iff.1 (Nat.pos_of_ne_zero h)
 exact ⟨e, h1, by simpa using h2⟩
theorem zjf {x : Int} : ∀ {t : List Node}, cnt t x ≠ 0 → ∃ n ∈ t, cp n.names x ≠ 0
 | [], h => absurd (zbb x) h
 | n :: r, h => by
  by_cases hc : cp n.names x = 0
  ·rw [vM, hc, Nat.zero_add] at h
   obtain ⟨m, h1, h2⟩ := zjf h
   exact ⟨m, by simp [h1], h2⟩
  ·exact ⟨n, by simp, hc⟩
structure Good2 (k : Nat) (t : List Node) : Prop where
 a : At k t
 r : RInv t
theorem Good2.new : Good2 0 newN := ⟨At.new, RInv.new⟩
theorem Good2.step {k : Nat} {t : List Node} {o : Opn} (h : Good2 k t) (hk : k ≤ 23) : Good2 (k + 1) (jH t o).1 := ⟨h.a.step hk, h.r.step h.a⟩
section
variable {k : Nat} {t : List Node}
theorem Good2.kind {n : Node} (h : Good2 k t) (hn : n ∈ t) : n.kind = 1 ∨ n.kind = 2 := by
 have := h.a.g.lj.knd n hn
 rcases (h.r n hn).k with h1 | h1 | h1
 ·exact absurd h1 this
 ·exact .inl h1
 ·exact .inr h1
theorem Good2.self {n : Node} (h : Good2 k t) (hn : n ∈ t) : getN t n.ino = n := z23 h.a.g.lj.srt.uniq hn
theorem Good2.lnk {n : Node} (h : Good2 k t) (hn : n ∈ t) (h1 : n.ino ≠ 1) : n.links = cnt t n.ino := by
 have := h.a.g.lj.lnk n.ino (by rw [h.self hn]; exact h.a.g.lj.knd n hn) h1
 rw [h.self hn] at this
 omega
theorem Good2.cn {n : Node} (h : Good2 k t) (hn : n ∈ t) (h1 : n.ino ≠ 1) : cnt t n.ino ≠ 0 := by
 have h2 := (h.r n hn).l (h.a.g.lj.knd n hn)
 have h3 := h.lnk hn h1
 omega
theorem Good2.two {n : Node} (h : Good2 k t) (hn : n ∈ t) (h1 : n.ino ≠ 1) : 2 ≤ n.ino := by
 obtain ⟨m, hm, hc⟩ := zjf (h.cn hn h1)
 obtain ⟨e, he, hi⟩ := zqn hc
 have := h.a.g.ti.inv.ge2 m.ino e (by rw [h.self hm]; exact he)
 omega
theorem Good2.by {n : Node} (h : Good2 k t) (hn : n ∈ t) (h1 : n.ino ≠ 1) (h2 : n.kind = 2) : n.parent = getI (tM2 [] t) n.ino := by
 rcases zmv (t := t) (x := n.ino) (M := []) with ⟨h3, _⟩ | ⟨m, hm, hc, h4⟩
 ·exact absurd h3 (h.cn hn h1)
 ·rw [h4]
  obtain ⟨e, he, hi⟩ := zqn hc
  have := z7y h.a.g.lj h.a.g.ti (f := m.ino) (e := e) (by rw [h.self hm]; exact he) (by rw [hi, h.self hn]; exact h2)
  rw [hi, h.self hn] at this
  exact this
theorem Good2.many {n : Node} (h : Good2 k t) (hn : n ∈ t) (h1 : n.ino ≠ 1) : n.links = getI (tM1 [] t) n.ino := by
 rw [zat, h.lnk hn h1]
 show _ = (0 : Int) + _
 omega
theorem Good2.root (h : Good2 k t) : getI (tM1 [] t) 1 = 0 := by
 rw [zat]
 have : cnt t 1 = 0 := Classical.byContradiction fun hh => by
  obtain ⟨m, hm, hc⟩ := zjf hh
  obtain ⟨e, he, hi⟩ := zqn hc
  have := h.a.g.ti.inv.ge2 m.ino e (by rw [h.self hm]; exact he)
  omega
 rw [this]
 rfl
theorem Good2.first (h : Good2 k t) : ∃ n r, t = n :: r ∧ n.ino = 1 ∧ n.kind = 2 ∧ n.links = 1 ∧ n.parent = 1 := by
 have hr := h.a.g.ti.inv.root
 rcases qV t 1 with ⟨h1, _⟩ | ⟨h1, h2⟩
 ·rw [h1] at hr; exact absurd hr (by decide)
 ·cases t with
  | nil => cases h1
  | cons n r =>
   have hs := (Srt.cons.1 h.a.g.lj.srt).1
   have hi : n.ino = 1 := Classical.byContradiction fun hh => by
    have h3 := h.two (n := n) (by simp) hh
    rcases List.mem_cons.1 h1 with h4 | h4
    ·rw [h4] at h2; exact hh h2
    ·have := hs _ h4; omega
   have hg := h.self (n := n) (by simp)
   rw [hi] at hg
   rw [hg] at hr
   have hk0 : n.kind ≠ 0 := by rw [hr]; decide
   exact ⟨n, r, rfl, hi, hr, by have := h.a.g.ti.inv.ln 1 (by rw [hg]; exact hr); rw [hg] at this; exact this, (h.r n (by simp)).r hk0 hi⟩
theorem Good2.tld (h : Good2 k t) : ∀ n ∈ t, ∀ e ∈ n.names, hasN t e.ino = true := fun n hn e he => by
 refine zfk (h.a.g.lj.has e.ino fun hc => ?_)
 have := zgh hn e.ino
 have := zl0 he
 omega
end
end Go.Proofs.Ytghllhghboaagaa
end
section
namespace Go.Proofs.Ytghllhghboaagaa
open Go.Vm
theorem zlj {s : List UInt8} (h : z0p s = true) : s ≠ [] := by
 rintro rfl
 exact absurd h (by decide)
theorem zqi {a b : List UInt8} (h : wC b a = true) : binV Try.prog .leq 9 (.d (.str a)) (.d (.str b)) = some (.d (.bool false)) := by
 have e : binV Try.prog .leq 9 (.d (.str a)) (.d (.str b)) = some (.d (.bool (Op.bytesLess a b || a == b))) := by kernel_rfl
 have h2 := z7d (a := a) (b := b)
 rw [h] at h2
 rw [e, z5v]
 cases hh : (wC a b || a == b) with
 | false => rfl
 | true => rw [hh] at h2; cases h2
theorem zrn (n : Node) (hl : n.names.length < 1000000) (hr : ∀ e ∈ n.names, z0p e.name = true) (ho : Ord n.names) (R : Post) (x1 x2 : V) : ∀ (k j : Nat) (w : List UInt8) (S : zA) (g4 g5 g6 g7 g8 g9 gK gF gA gB gC gH gI gJ gD gE gL gG gO gM gN gP gT gV gQ gR gS gU gW gX gY gZ gj gf gg gh gi gk gm gn gr gz hH hJ xA xB xC xD xM xN xE xF xG xH xI xJ xK xL : V), n.names.length - j = k → j ≤ n.names.length → (∀ e ∈ n.names.drop j, wC w e.name = true) →
 (∀ S w j' g4 g5 g6 g7 g8 g9 gK gF gA gB gC gH gI gJ gD gE gL gG gO gM gN gP gT gV gQ gR gS gU gW gX gY gZ gj gf gg gh gi gk gm gn gr gz hH hJ xA xB xC xD xM xN xE xF xG xH xI xJ xK xL, R (.exit 0) ((.d (zB n)) :: x1 :: x2 :: w :: g4 :: g5 :: g6 :: g7 :: g8 :: g9 :: gK :: gF :: gA :: gB :: gC :: gH :: gI :: gJ :: gD :: gE :: gL :: gG :: gO :: gM :: gN :: gP :: gT :: gV :: gQ :: gR :: gS :: gU :: gW :: gX :: gY :: gZ :: gj :: gf :: gg :: gh :: gi :: gk :: gm :: gn :: gr :: gz :: (.d (.sl (n.names.map zL))) :: (.d (.int .i64 n.names.length)) :: j' :: hH :: hJ :: xA :: xB :: xC :: xD :: xM :: xN :: xE :: xF :: xG :: xH :: xI :: xJ :: xK :: xL :: []) S []) →
 Wp cfg (.loop (lpOf (Try.f57.body.getD .skip) 0)) ((.d (zB n)) :: x1 :: x2 :: (.d (.str w)) :: g4 :: g5 :: g6 :: g7 :: g8 :: g9 :: gK :: gF :: gA :: gB :: gC :: gH :: gI :: gJ :: gD :: gE :: gL :: gG :: gO :: gM :: gN :: gP :: gT :: gV :: gQ :: gR :: gS :: gU :: gW :: gX :: gY :: gZ :: gj :: gf :: gg :: gh :: gi :: gk :: gm :: gn :: gr :: gz :: (.d (.sl (n.names.map zL))) :: (.d (.int .i64 n.names.length)) :: (.d (.int .i64 j)) :: hH :: hJ :: xA :: xB :: xC :: xD :: xM :: xN :: xE :: xF :: xG :: xH :: xI :: xJ :: xK :: xL :: []) S [] R := by
 intro k
 induction k with
 | zero =>
  intro j w S g4 g5 g6 g7 g8 g9 gK gF gA gB gC gH gI gJ gD gE gL gG gO gM gN gP gT gV gQ gR gS gU gW gX gY gZ gj gf gg gh gi gk gm gn gr gz hH hJ xA xB xC xD xM xN xE xF xG xH xI xJ xK xL hk hj hw hR
  have hje : j = n.names.length := by omega
  rw [qP]
  refine qE ?_
  conv => arg 2; whnf
  simp (maxSteps:=1000000) (disch:=first|assumption|omega|rfl) only [↓gp, gc, Nat.reduceAdd]
  exact hR _ _ _ _ _ _ _ _ _ _ _ _ _ _ _ _ _ _ _ _ _ _ _ _ _ _ _ _ _ _ _ _ _ _ _ _ _ _ _ _ _ _ _ _ _ _ _ _ _ _ _ _ _ _ _ _ _ _ _ _ _
 | succ k ih =>
  intro j w S g4 g5 g6 g7 g8 g9 gK gF gA gB gC gH gI gJ gD gE gL gG gO gM gN gP gT gV gQ gR gS gU gW gX gY gZ gj gf gg gh gi gk gm gn gr gz hH hJ xA xB xC xD xM xN xE xF xG xH xI xJ xK xL hk hj hw hR
  have hlt : j < n.names.length := by omega
  have hd : n.names.drop j = n.names[j] :: n.names.drop (j + 1) := List.drop_eq_getElem_cons hlt
  have hre := hr _ (List.getElem_mem hlt)
  have hod : ∀ e ∈ n.names.drop (j + 1), wC n.names[j].name e.name = true := by
   have h1 : Ord (n.names.drop j) := by
    unfold Ord at ho ⊢
    exact ho.sublist ((List.drop_sublist j n.names).map _)
   rw [hd] at h1
   unfold Ord at h1
   rw [List.map_cons, List.pairwise_cons] at h1
   exact fun e he => h1.1 _ (List.mem_map_of_mem he)
  rw [hd] at hw
  generalize hee : n.names[j] = e at *
  have hwe := hw e (by simp)
  have hle := zqi hwe
  have hel : e.name.length < 1000000 := by have := z9u hre; omega
  have hce : z2j e.name = 0 := by unfold z2j; rw [if_pos hre]
  rw [qP]
  refine qE ?_
  conv => arg 2; whnf
  simp (maxSteps:=1000000) (disch:=first|assumption|omega|rfl) only [↓gp, gc, Nat.reduceAdd, hee, z88, zf88, zM, zI, z5t hel, hce, bo96, hle]
  exact ih (j + 1) e.name _ _ _ _ _ _ _ _ _ _ _ _ _ _ _ _ _ _ _ _ _ _ _ _ _ _ _ _ _ _ _ _ _ _ _ _ _ _ _ _ _ _ _ _ _ _ _ _ _ _ _ _ _ _ _ _ _ _ _ (by omega) (by omega) hod hR
theorem zq7 (n : Node) (hr : RN n) (hk : n.kind = 1 ∨ n.kind = 2) (hl : n.names.length < 1000000) (hf : n.kind = 1 → n.names = []) (hs : n.data.length = n.size) (hz : n.size ≤ 34304) (ho : Ord n.names) : Ev cfg 57 [zB n] (.ret (.d (.bool true))) := by
 refine z2l rfl rfl ztw ?_
 show Wp cfg (Try.f57.body.getD .skip) ((.d (zB n)) :: uZ (uZ (uZ (uZ (uZ (uZ ((.tup []) :: (.tup []) :: (.tup []) :: (.tup []) :: []))))))) [] [] _
 unfold uZ
 conv => arg 2; whnf
 rcases hk with hk | hk
 ·have h1 := hr.f hk
  have h2 : (n.names.length : Int) = 0 := by rw [hf hk]; rfl
  have h3 : n.size = (n.data.length : Int) := by omega
  simp (maxSteps:=1000000) (disch:=first|assumption|omega|rfl) only [↓gp, gc, Nat.reduceAdd, lenB]
  exact jT rfl rfl rfl
 ·have h1 := (hr.d hk).1
  have h2 : (n.data.length : Int) = 0 := by rw [(hr.d hk).2]; rfl
  have hk1 : ¬ n.kind = 1 := by omega
  have hkn : ¬ n.kind ≠ 2 := fun h => h hk
  have h1n : ¬ n.size ≠ 0 := fun h => h h1
  have h2n : ¬ (n.data.length : Int) ≠ 0 := fun h => h h2
  simp (maxSteps:=1000000) (disch:=first|assumption|omega|rfl) only [↓gp, gc, Nat.reduceAdd, lenB]
  refine zrn n hl hr.nm ho _ _ _ n.names.length 0 [] _ _ _ _ _ _ _ _ _ _ _ _ _ _ _ _ _ _ _ _ _ _ _ _ _ _ _ _ _ _ _ _ _ _ _ _ _ _ _ _ _ _ _ _ _ _ _ _ _ _ _ _ _ _ _ _ _ _ _ rfl (by omega) ?_ ?_
  ·intro e he
   rw [List.drop_zero] at he
   have := zlj (hr.nm e he)
   cases hn : e.name with
   | nil => exact absurd hn this
   | cons a r => rfl
  ·intro S w j' g4 g5 g6 g7 g8 g9 gK gF gA gB gC gH gI gJ gD gE gL gG gO gM gN gP gT gV gQ gR gS gU gW gX gY gZ gj gf gg gh gi gk gm gn gr gz hH hJ xA xB xC xD xM xN xE xF xG xH xI xJ xK xL
   simp (maxSteps:=1000000) (disch:=first|assumption|omega|rfl) only [↓gp, gc, Nat.reduceAdd]
   exact jT rfl rfl rfl
theorem zoz (t : List Node) (n : Node) (hk : n.kind ≠ 2) (m : Nat) (R : Post) (x1 x2 x7 x8 x9 : V) (S : zA) (i : Int) (g3 g4 gK gF gA gB gC gH gI gJ gD gE gL gG gO gM gN gP gT gV gQ gR gS gU gW gX gY gZ : V) (h3 : S[m]? = some (.row [.d (zB n)] 32))
 (hR : ∀ S i' v5 g3 g4 gK gF gA gB gC gH gI gJ gD gE gL gG gO gM gN gP gT gV gQ gR gS gU gW gX gY gZ, R (.exit 2) ((.d (.sl (t.map zB))) :: x1 :: x2 :: g3 :: g4 :: v5 :: i' :: x7 :: x8 :: x9 :: gK :: gF :: gA :: gB :: gC :: gH :: gI :: gJ :: gD :: gE :: gL :: gG :: gO :: gM :: gN :: gP :: gT :: gV :: gQ :: gR :: gS :: gU :: gW :: gX :: gY :: gZ :: []) S []) :
 Wp cfg (.loop (lpOf (Try.f58.body.getD .skip) 2)) ((.d (.sl (t.map zB))) :: x1 :: x2 :: g3 :: g4 :: (.ref m 0 0) :: (.d (.int .i64 i)) :: x7 :: x8 :: x9 :: gK :: gF :: gA :: gB :: gC :: gH :: gI :: gJ :: gD :: gE :: gL :: gG :: gO :: gM :: gN :: gP :: gT :: gV :: gQ :: gR :: gS :: gU :: gW :: gX :: gY :: gZ :: []) S [] R := by
 have q := zD h3
 rw [qP]
 refine qE ?_
 conv => arg 2; whnf
 simp (maxSteps:=1000000) (disch:=first|assumption|omega|rfl) only [↓gp, gc, Nat.reduceAdd, q]
 exact hR _ _ _ _ _ _ _ _ _ _ _ _ _ _ _ _ _ _ _ _ _ _ _ _ _ _ _ _ _ _ _
theorem zp0 (t : List Node) (hlm : t.length < 1000000) (k0 : Nat) (hk0 : k0 < 300000) (hS : Small k0 t) (m : Nat) (R : Post) (x1 x2 x7 x8 x9 : V) : ∀ (c : List Int) (x : Int) (i : Nat) (S : zA) (g3 g4 gK gF gA gB gC gH gI gJ gD gE gL gG gO gM gN gP gT gV gQ gR gS gU gW gX gY gZ : V), z71 t (x :: c) → (∀ y ∈ x :: c, (getN t y).kind = 2) → i + c.length ≤ t.length → S[m]? = some (.row [.d (zB (getN t x))] 32) →
 (∀ S i' v5 g3 g4 gK gF gA gB gC gH gI gJ gD gE gL gG gO gM gN gP gT gV gQ gR gS gU gW gX gY gZ, R (.exit 2) ((.d (.sl (t.map zB))) :: x1 :: x2 :: g3 :: g4 :: v5 :: i' :: x7 :: x8 :: x9 :: gK :: gF :: gA :: gB :: gC :: gH :: gI :: gJ :: gD :: gE :: gL :: gG :: gO :: gM :: gN :: gP :: gT :: gV :: gQ :: gR :: gS :: gU :: gW :: gX :: gY :: gZ :: []) S []) →
 Wp cfg (.loop (lpOf (Try.f58.body.getD .skip) 2)) ((.d (.sl (t.map zB))) :: x1 :: x2 :: g3 :: g4 :: (.ref m 0 0) :: (.d (.int .i64 i)) :: x7 :: x8 :: x9 :: gK :: gF :: gA :: gB :: gC :: gH :: gI :: gJ :: gD :: gE :: gL :: gG :: gO :: gM :: gN :: gP :: gT :: gV :: gQ :: gR :: gS :: gU :: gW :: gX :: gY :: gZ :: []) S [] R := by
 intro c
 induction c with
 | nil =>
  intro x i S g3 g4 gK gF gA gB gC gH gI gJ gD gE gL gG gO gM gN gP gT gV gQ gR gS gU gW gX gY gZ hc hy hi h3 hR
  have hx : x = 1 := hc.2
  have hkx := hy x (by simp)
  have hix : (getN t x).ino = 1 := by rw [vA (by rw [hkx]; decide)]; exact hx
  have hne : ¬ (getN t x).ino ≠ 1 := fun h => h hix
  have q := zD h3
  rw [qP]
  refine qE ?_
  conv => arg 2; whnf
  simp (maxSteps:=1000000) (disch:=first|assumption|omega|rfl) only [↓gp, gc, Nat.reduceAdd, q]
  exact hR _ _ _ _ _ _ _ _ _ _ _ _ _ _ _ _ _ _ _ _ _ _ _ _ _ _ _ _ _ _ _
 | cons j r ih =>
  intro x i S g3 g4 gK gF gA gB gC gH gI gJ gD gE gL gG gO gM gN gP gT gV gQ gR gS gU gW gX gY gZ hc hy hi h3 hR
  obtain ⟨hhas, hx1, hpar, hcr⟩ := hc
  have hkx := hy x (by simp)
  have hix : (getN t x).ino ≠ 1 := by rw [vA (by rw [hkx]; decide)]; exact hx1
  rw [List.length_cons] at hi
  have hgt : ¬ ((i : Int) > (t.length : Int)) := by omega
  have q := zD h3
  have q2 := fun y => zX (y := y) h3
  rw [qP]
  refine qE ?_
  conv => arg 2; whnf
  simp (maxSteps:=1000000) (disch:=first|assumption|omega|rfl) only [↓gp, gc, Nat.reduceAdd, q, q2, z9l hS hk0, bo15, hpar]
  exact ih j (i + 1) _ _ _ _ _ _ _ _ _ _ _ _ _ _ _ _ _ _ _ _ _ _ _ _ _ _ _ _ _ hcr (fun y hyy => hy y (by simp [hyy])) (by omega) (jP h3) hR
theorem zm1 (t : List Node) (hlm : t.length < 1000000) (k0 : Nat) (hk0 : k0 < 300000) (hS : Small k0 t) (hr : (getN t 1).kind = 2) (hw : ∀ x, (getN t x).kind = 2 → Up (getN t) 0 x) (hu : Uniq t) (R : Post) (x1 x2 : V) : ∀ (k i : Nat) (S : zA) (g3 g4 g5 g6 gK gF gA gB gC gH gI gJ gD gE gL gG gO gM gN gP gT gV gQ gR gS gU gW gX gY gZ : V), t.length - i = k → i ≤ t.length →
 (∀ S i' g3 g4 g5 g6 gK gF gA gB gC gH gI gJ gD gE gL gG gO gM gN gP gT gV gQ gR gS gU gW gX gY gZ, R (.exit 0) ((.d (.sl (t.map zB))) :: x1 :: x2 :: g3 :: g4 :: g5 :: g6 :: (.d (.sl (t.map zB))) :: (.d (.int .i64 t.length)) :: i' :: gK :: gF :: gA :: gB :: gC :: gH :: gI :: gJ :: gD :: gE :: gL :: gG :: gO :: gM :: gN :: gP :: gT :: gV :: gQ :: gR :: gS :: gU :: gW :: gX :: gY :: gZ :: []) S []) →
 Wp cfg (.loop (lpOf (Try.f58.body.getD .skip) 0)) ((.d (.sl (t.map zB))) :: x1 :: x2 :: g3 :: g4 :: g5 :: g6 :: (.d (.sl (t.map zB))) :: (.d (.int .i64 t.length)) :: (.d (.int .i64 i)) :: gK :: gF :: gA :: gB :: gC :: gH :: gI :: gJ :: gD :: gE :: gL :: gG :: gO :: gM :: gN :: gP :: gT :: gV :: gQ :: gR :: gS :: gU :: gW :: gX :: gY :: gZ :: []) S [] R := by
 intro k
 induction k with
 | zero =>
  intro i S g3 g4 g5 g6 gK gF gA gB gC gH gI gJ gD gE gL gG gO gM gN gP gT gV gQ gR gS gU gW gX gY gZ hk hi hR
  have hie : i = t.length := by omega
  rw [qP]
  refine qE ?_
  conv => arg 2; whnf
  simp (maxSteps:=1000000) (disch:=first|assumption|omega|rfl) only [↓gp, gc, Nat.reduceAdd]
  exact hR _ _ _ _ _ _ _ _ _ _ _ _ _ _ _ _ _ _ _ _ _ _ _ _ _ _ _ _ _ _ _ _
 | succ k ih =>
  intro i S g3 g4 g5 g6 gK gF gA gB gC gH gI gJ gD gE gL gG gO gM gN gP gT gV gQ gR gS gU gW gX gY gZ hk hi hR
  have hlt : i < t.length := by omega
  have hself := z23 hu (List.getElem_mem hlt)
  rw [qP]
  refine qE ?_
  conv => arg 2; whnf
  generalize hee : t[i] = n at *
  have q1 := zD (qI (S := S) (o := Ob.row [.d (zB n)] 32))
  simp (maxSteps:=1000000) (disch:=first|assumption|omega|rfl) only [↓gp, gc, Nat.reduceAdd, hee, z32, zf32, zM, zI]
  by_cases hkn : n.kind = 2
  ·obtain ⟨c, h1, h2⟩ := zb2 hr (hw n.ino (by rw [hself]; exact hkn))
   have h4 := zd2 h1
   rw [List.length_cons] at h4
   refine zp0 t hlm k0 hk0 hS _ _ _ _ _ _ _ c n.ino 0 _ _ _ _ _ _ _ _ _ _ _ _ _ _ _ _ _ _ _ _ _ _ _ _ _ _ _ _ _ h1 h2 (by omega) (by rw [hself]; exact qI) ?_
   intro S i' v5 g3 g4 gK gF gA gB gC gH gI gJ gD gE gL gG gO gM gN gP gT gV gQ gR gS gU gW gX gY gZ
   simp (maxSteps:=1000000) (disch:=first|assumption|omega|rfl) only [↓gp, gc, Nat.reduceAdd]
   exact ih (i + 1) S _ _ _ _ _ _ _ _ _ _ _ _ _ _ _ _ _ _ _ _ _ _ _ _ _ _ _ _ _ _ (by omega) (by omega) hR
  ·refine zoz t n hkn _ _ _ _ _ _ _ _ _ _ _ _ _ _ _ _ _ _ _ _ _ _ _ _ _ _ _ _ _ _ _ _ _ _ _ _ _ qI ?_
   intro S i' v5 g3 g4 gK gF gA gB gC gH gI gJ gD gE gL gG gO gM gN gP gT gV gQ gR gS gU gW gX gY gZ
   simp (maxSteps:=1000000) (disch:=first|assumption|omega|rfl) only [↓gp, gc, Nat.reduceAdd]
   exact ih (i + 1) S _ _ _ _ _ _ _ _ _ _ _ _ _ _ _ _ _ _ _ _ _ _ _ _ _ _ _ _ _ _ (by omega) (by omega) hR
theorem zk0 (t : List Node) (k0 : Nat) (hk0 : k0 < 300000) (hS : Small k0 t) (hr : (getN t 1).kind = 2) (hw : ∀ x, (getN t x).kind = 2 → Up (getN t) 0 x) (hu : Uniq t) (hl : t.length < 1000000) : Ev cfg 58 [.sl (t.map zB)] (.ret (.d (.bool true))) := by
 refine z2l rfl rfl zt9 ?_
 show Wp cfg (Try.f58.body.getD .skip) ((.d (.sl (t.map zB))) :: uZ (uZ (uZ ((.tup []) :: (.tup []) :: (.tup []) :: (.tup []) :: (.tup []) :: [])))) [] [] _
 unfold uZ
 conv => arg 2; whnf
 simp (maxSteps:=1000000) (disch:=first|assumption|omega|rfl) only [↓gp, gc, Nat.reduceAdd]
 refine zm1 t hl k0 hk0 hS hr hw hu _ _ _ t.length 0 _ _ _ _ _ _ _ _ _ _ _ _ _ _ _ _ _ _ _ _ _ _ _ _ _ _ _ _ _ _ _ rfl (by omega) ?_
 intro S i' g3 g4 g5 g6 gK gF gA gB gC gH gI gJ gD gE gL gG gO gM gN gP gT gV gQ gR gS gU gW gX gY gZ
 simp (maxSteps:=1000000) (disch:=first|assumption|omega|rfl) only [↓gp, gc, Nat.reduceAdd]
 exact jT rfl rfl rfl
theorem Good2.fine {k : Nat} {t : List Node} {n : Node} (h : Good2 k t) (hk : k ≤ 24) (hn : n ∈ t) : Ev cfg 57 [zB n] (.ret (.d (.bool true))) := by
 have hs := h.a.g.sm.siz n hn
 have hg := h.self hn
 refine zq7 n (h.r n hn) (h.kind hn) (by have := h.a.g.sm.nms n hn; omega) (fun hk1 => ?_) hs.2.2 hs.2.1 ?_
 ·have := h.a.g.lj.fil n.ino (by rw [hg, hk1]; decide)
  rw [hg] at this
  exact this
 ·have := h.a.g.lj.nod n.ino
  rw [hg] at this
  exact this
theorem zkv {ops : Array Oper} {F : Dfs} {Q : Post} {K : List Nat → List (Nat × Nat) → List V → zA → Prop} {rd : List Nat} {cs : List (Nat × Nat)} {i : Nat} {dst : Option Tmp} {T : List V} {S : zA} {k : Nat} {t : List Node} {n : Node} (h : Good2 k t) (hk : k ≤ 24) (hn : n ∈ t) :
  WpE cfg ops F Q K rd cs i dst T S (some (.enter 57 [.d (zB n)])) = K (i :: rd) (cs ++ [(i, 1)]) (putT T dst (.d (.bool true))) S :=
 zjw (ds := [zB n]) rfl (h.fine hk hn)
theorem zu9 {t : List Node} (h : Srt t) {i j : Nat} (hij : i < j) (hj : j < t.length) : (t[i]'(by omega)).ino < t[j].ino := by
 have := List.pairwise_iff_getElem.1 h i j (by rw [List.length_map]; omega) (by rw [List.length_map]; omega) hij
 simpa using this
theorem zt0 : (zH Try.prog 57).isSome = true := by kernel_rfl
theorem zn2 (t : List Node) (k0 : Nat) (hk0 : k0 ≤ 24) (h : Good2 k0 t) (R : Post) (x1 x2 : V) : ∀ (k i : Nat) (S : zA) (g5 g6 g7 g8 g9 gK gF gA gB gC gH gI gJ gD gE gL gG gO gM gN gP gT gV gQ gR gS gU gW gX gY gZ gj gf gg gh gi gk gm gn gr gz hC hY hZ hH hJ xA xB xC xE xF xG xH xI xJ xK xL xO xP xQ xR xS xT xU xV xW xX xY xZ g77 g78 g79 g80 g81 g82 g83 g84 g85 g86 g87 g88 g89 g90 g91 g92 g93 g94 g95 g96 g97 g98 g99 g100 g101 g102 g103 g104 g105 g106 g107 g108 g109 g110 g111 g112 g113 g114 g115 g116 g117 g118 g119 : V), t.length - i = k → i ≤ t.length →
 (∀ S i' g5 g6 g7 g8 g9 gK gF gA gB gC gH gI gJ gD gE gL gG gO gM gN gP gT gV gQ gR gS gU gW gX gY gZ gj gf gg gh gi gk gm gn gr gz hC hY hZ hH hJ xA xB xC xE xF xG xH xI xJ xK xL xO xP xQ xR xS xT xU xV xW xX xY xZ g77 g78 g79 g80 g81 g82 g83 g84 g85 g86 g87 g88 g89 g90 g91 g92 g93 g94 g95 g96 g97 g98 g99 g100 g101 g102 g103 g104 g105 g106 g107 g108 g109 g110 g111 g112 g113 g114 g115 g116 g117 g118 g119, R (.exit 0) ((.d (.sl (t.map zB))) :: x1 :: x2 :: (.d (.map (encM (tM1 [] t)))) :: (.d (.map (encM (tM2 [] t)))) :: g5 :: g6 :: g7 :: g8 :: g9 :: gK :: gF :: gA :: gB :: gC :: gH :: gI :: gJ :: gD :: gE :: gL :: gG :: gO :: gM :: gN :: gP :: gT :: gV :: gQ :: gR :: gS :: gU :: gW :: gX :: gY :: gZ :: gj :: gf :: gg :: gh :: gi :: gk :: gm :: gn :: gr :: gz :: hC :: hY :: hZ :: hH :: hJ :: xA :: xB :: xC :: (.d (.sl (t.map zB))) :: (.d (.int .i64 t.length)) :: i' :: xE :: xF :: xG :: xH :: xI :: xJ :: xK :: xL :: xO :: xP :: xQ :: xR :: xS :: xT :: xU :: xV :: xW :: xX :: xY :: xZ :: g77 :: g78 :: g79 :: g80 :: g81 :: g82 :: g83 :: g84 :: g85 :: g86 :: g87 :: g88 :: g89 :: g90 :: g91 :: g92 :: g93 :: g94 :: g95 :: g96 :: g97 :: g98 :: g99 :: g100 :: g101 :: g102 :: g103 :: g104 :: g105 :: g106 :: g107 :: g108 :: g109 :: g110 :: g111 :: g112 :: g113 :: g114 :: g115 :: g116 :: g117 :: g118 :: g119 :: []) S []) →
 Wp cfg (.loop (lpOf (Try.f26.body.getD .skip) 0)) ((.d (.sl (t.map zB))) :: x1 :: x2 :: (.d (.map (encM (tM1 [] t)))) :: (.d (.map (encM (tM2 [] t)))) :: g5 :: g6 :: g7 :: g8 :: g9 :: gK :: gF :: gA :: gB :: gC :: gH :: gI :: gJ :: gD :: gE :: gL :: gG :: gO :: gM :: gN :: gP :: gT :: gV :: gQ :: gR :: gS :: gU :: gW :: gX :: gY :: gZ :: gj :: gf :: gg :: gh :: gi :: gk :: gm :: gn :: gr :: gz :: hC :: hY :: hZ :: hH :: hJ :: xA :: xB :: xC :: (.d (.sl (t.map zB))) :: (.d (.int .i64 t.length)) :: (.d (.int .i64 i)) :: xE :: xF :: xG :: xH :: xI :: xJ :: xK :: xL :: xO :: xP :: xQ :: xR :: xS :: xT :: xU :: xV :: xW :: xX :: xY :: xZ :: g77 :: g78 :: g79 :: g80 :: g81 :: g82 :: g83 :: g84 :: g85 :: g86 :: g87 :: g88 :: g89 :: g90 :: g91 :: g92 :: g93 :: g94 :: g95 :: g96 :: g97 :: g98 :: g99 :: g100 :: g101 :: g102 :: g103 :: g104 :: g105 :: g106 :: g107 :: g108 :: g109 :: g110 :: g111 :: g112 :: g113 :: g114 :: g115 :: g116 :: g117 :: g118 :: g119 :: []) S [] R := by
 have hlm : t.length < 1000000 := by have := h.a.g.sm.len; omega
 intro k
 induction k with
 | zero =>
  intro i S g5 g6 g7 g8 g9 gK gF gA gB gC gH gI gJ gD gE gL gG gO gM gN gP gT gV gQ gR gS gU gW gX gY gZ gj gf gg gh gi gk gm gn gr gz hC hY hZ hH hJ xA xB xC xE xF xG xH xI xJ xK xL xO xP xQ xR xS xT xU xV xW xX xY xZ g77 g78 g79 g80 g81 g82 g83 g84 g85 g86 g87 g88 g89 g90 g91 g92 g93 g94 g95 g96 g97 g98 g99 g100 g101 g102 g103 g104 g105 g106 g107 g108 g109 g110 g111 g112 g113 g114 g115 g116 g117 g118 g119 hk hi hR
  have hie : i = t.length := by omega
  rw [qP]
  refine qE ?_
  conv => arg 2; whnf
  simp (maxSteps:=1000000) (disch:=first|assumption|omega|rfl) only [↓gp, gc, Nat.reduceAdd]
  exact hR _ _ _ _ _ _ _ _ _ _ _ _ _ _ _ _ _ _ _ _ _ _ _ _ _ _ _ _ _ _ _ _ _ _ _ _ _ _ _ _ _ _ _ _ _ _ _ _ _ _ _ _ _ _ _ _ _ _ _ _ _ _ _ _ _ _ _ _ _ _ _ _ _ _ _ _ _ _ _ _ _ _ _ _ _ _ _ _ _ _ _ _ _ _ _ _ _ _ _ _ _ _ _ _ _ _ _ _ _ _ _ _ _ _
 | succ k ih =>
  intro i S g5 g6 g7 g8 g9 gK gF gA gB gC gH gI gJ gD gE gL gG gO gM gN gP gT gV gQ gR gS gU gW gX gY gZ gj gf gg gh gi gk gm gn gr gz hC hY hZ hH hJ xA xB xC xE xF xG xH xI xJ xK xL xO xP xQ xR xS xT xU xV xW xX xY xZ g77 g78 g79 g80 g81 g82 g83 g84 g85 g86 g87 g88 g89 g90 g91 g92 g93 g94 g95 g96 g97 g98 g99 g100 g101 g102 g103 g104 g105 g106 g107 g108 g109 g110 g111 g112 g113 g114 g115 g116 g117 g118 g119 hk hi hR
  have hlt : i < t.length := by omega
  have hn := List.getElem_mem hlt
  have h128 := (h.a.num _ hn).2
  have hno : ¬ t[i].ino > 128 := by omega
  by_cases h0 : i = 0
  ·have h0a : ¬ (i : Int) > 0 := by omega
   have h0b : (i : Int) = 0 := by omega
   rw [qP]
   refine qE ?_
   conv => arg 2; whnf
   generalize hee : t[i] = n at *
   have q1 := zD (qI (S := S) (o := Ob.row [.d (zB n)] 32))
   simp (maxSteps:=1000000) (disch:=first|assumption|omega|rfl) only [↓gp, gc, Nat.reduceAdd, hee, z32, zf32, zM, zI]
   refine kM (is := [0, 1, 2, 3, 4, 5, 6, 7, 8, 9, 10, 11, 12, 13, 14, 15, 16, 17, 18, 19, 20, 21, 22]) (h := 0) (by kernel_rfl) (by kernel_rfl) ?_
   simp (maxSteps:=1000000) (disch:=first|assumption|omega|rfl) only [List.replicate_zero, eq_self, gd, ga, Nat.reduceAdd, ↓gq, List.append_nil, q1, zkv h hk0 hn, zt0, z19, Bool.not_true]
   refine ⟨by kernel_rfl, ?_⟩
   simp (maxSteps:=1000000) (disch:=first|assumption|omega|rfl) only [↓gp, gc, Nat.reduceAdd]
   exact ih (i + 1) _ _ _ _ _ _ _ _ _ _ _ _ _ _ _ _ _ _ _ _ _ _ _ _ _ _ _ _ _ _ _ _ _ _ _ _ _ _ _ _ _ _ _ _ _ _ _ _ _ _ _ _ _ _ _ _ _ _ _ _ _ _ _ _ _ _ _ _ _ _ _ _ _ _ _ _ _ _ _ _ _ _ _ _ _ _ _ _ _ _ _ _ _ _ _ _ _ _ _ _ _ _ _ _ _ _ _ _ _ _ _ _ _ (by omega) (by omega) hR
  ·have h0a : (i : Int) > 0 := by omega
   have h0b : ¬ (i : Int) = 0 := by omega
   have hi1 : i - 1 < t.length := by omega
   have hlt2 := zu9 h.a.g.lj.srt (i := i - 1) (j := i) (by omega) hlt
   have hp := List.getElem_mem hi1
   have hp1 : 1 ≤ (t[i - 1]).ino := by
    by_cases e : (t[i - 1]).ino = 1
    ·omega
    ·have := h.two hp e; omega
   have hix : ∀ S, qL Try.prog S 25 (.d (.sl (t.map zB))) (.d (.int .i64 ((i : Int) - 1))) = some (.d (.ptr (zB (t[i - 1])))) := fun S => by
    rw [show (i : Int) - 1 = ((i - 1 : Nat) : Int) by omega]
    exact ix25 hi1
   have hn1 : t[i].ino ≠ 1 := by omega
   have hleq : ¬ t[i].ino ≤ (t[i - 1]).ino := by omega
   have hm := h.many hn hn1
   have hl1 := (h.r _ hn).l (h.a.g.lj.knd _ hn)
   have hkd := h.kind hn
   have hby := h.by hn hn1
   have hln := fun hk2 : t[i].kind = 2 => by
    have := h.a.g.ti.inv.ln t[i].ino (by rw [h.self hn]; exact hk2)
    rw [h.self hn] at this
    exact this
   rw [qP]
   refine qE ?_
   conv => arg 2; whnf
   generalize t[i - 1] = p at *
   generalize hee : t[i] = n at *
   have hlk : ¬ n.links < 1 := by omega
   have q1 := zD (qI (S := S) (o := Ob.row [.d (zB n)] 32))
   simp (maxSteps:=1000000) (disch:=first|assumption|omega|rfl) only [↓gp, gc, Nat.reduceAdd, hee, z32, zf32, zM, zI]
   refine kM (is := [0, 1, 2, 3, 4, 5, 6, 7, 8, 9, 10, 11, 12, 13, 14, 15, 16, 17, 18, 19, 20, 21, 22]) (h := 0) (by kernel_rfl) (by kernel_rfl) ?_
   simp (maxSteps:=1000000) (disch:=first|assumption|omega|rfl) only [List.replicate_zero, eq_self, gd, ga, Nat.reduceAdd, ↓gq, List.append_nil, q1, hix, zkv h hk0 hn, zt0, z19, Bool.not_true]
   refine ⟨by kernel_rfl, ?_⟩
   rcases hkd with hk1 | hk2
   ·have hk1' : ¬ n.kind = 2 := by omega
    simp (maxSteps:=1000000) (disch:=first|assumption|omega|rfl) only [↓gp, gc, Nat.reduceAdd, q1, zjg, ← hm, z2b]
    exact ih (i + 1) _ _ _ _ _ _ _ _ _ _ _ _ _ _ _ _ _ _ _ _ _ _ _ _ _ _ _ _ _ _ _ _ _ _ _ _ _ _ _ _ _ _ _ _ _ _ _ _ _ _ _ _ _ _ _ _ _ _ _ _ _ _ _ _ _ _ _ _ _ _ _ _ _ _ _ _ _ _ _ _ _ _ _ _ _ _ _ _ _ _ _ _ _ _ _ _ _ _ _ _ _ _ _ _ _ _ _ _ _ _ _ _ _ (by omega) (by omega) hR
   ·have hby' := hby hk2
    have hln' := hln hk2
    have hln2 : ¬ n.links ≠ 1 := fun hh => hh hln'
    simp (maxSteps:=1000000) (disch:=first|assumption|omega|rfl) only [↓gp, gc, Nat.reduceAdd, q1, zjg, ← hm, ← hby', z2b]
    exact ih (i + 1) _ _ _ _ _ _ _ _ _ _ _ _ _ _ _ _ _ _ _ _ _ _ _ _ _ _ _ _ _ _ _ _ _ _ _ _ _ _ _ _ _ _ _ _ _ _ _ _ _ _ _ _ _ _ _ _ _ _ _ _ _ _ _ _ _ _ _ _ _ _ _ _ _ _ _ _ _ _ _ _ _ _ _ _ _ _ _ _ _ _ _ _ _ _ _ _ _ _ _ _ _ _ _ _ _ _ _ _ _ _ _ _ _ (by omega) (by omega) hR
section
variable {ops : Array Oper} {dst : Option Tmp} {k : List Oper} {T : List V} {S : zA} {F : Dfs} {Q : Post}
theorem zjn {n : Nat} {t : List Node} (h : Good2 n t) (hn : n ≤ 24) : WpR cfg ops dst k T S F Q (some (.enter 56 [.d (.sl (t.map zB))])) = WpL cfg ops k (putT T dst (.tup [.d (.map (encM (tM1 [] t))), .d (.map (encM (tM2 [] t))), .d (.bool true)])) S F Q :=
 jY (ds := [.sl (t.map zB)]) rfl (zpf t _ (by omega) h.a.g.sm (by have := h.a.g.sm.len; omega) (fun x hx => by have := h.a.g.sm.nms x hx; omega) h.tld)
theorem zem {n : Nat} {t : List Node} (h : Good2 n t) (hn : n ≤ 24) : WpR cfg ops dst k T S F Q (some (.enter 58 [.d (.sl (t.map zB))])) = WpL cfg ops k (putT T dst (.d (.bool true))) S F Q :=
 jY (ds := [.sl (t.map zB)]) rfl (zk0 t _ (by omega) h.a.g.sm h.a.g.ti.inv.root h.a.g.ti.inv.way h.a.g.lj.srt.uniq (by have := h.a.g.sm.len; omega))
end
theorem zvt : (zH Try.prog 56).isSome = true := by kernel_rfl
theorem zvk : (zH Try.prog 58).isSome = true := by kernel_rfl
theorem zk7 (t : List Node) (k0 : Nat) (hk0 : k0 ≤ 24) (h : Good2 k0 t) : Ev cfg 26 [.sl (t.map zB)] (.ret (.d (.bool true))) := by
 refine z2l rfl rfl ztl ?_
 show Wp cfg (Try.f26.body.getD .skip) ((.d (.sl (t.map zB))) :: uZ (uZ (uZ (uZ (uZ (uZ (uZ (uZ (uZ (uZ (uZ ((.tup []) :: (.tup []) :: (.tup []) :: (.tup []) :: (.tup []) :: (.tup []) :: (.tup []) :: (.tup []) :: (.tup []) :: [])))))))))))) [] [] _
 unfold uZ
 conv => arg 2; whnf
 obtain ⟨n, r, hr, h1, h2, h3, h4⟩ := h.first
 have hix : ∀ S, qL Try.prog S 25 (.d (.sl (t.map zB))) (.d (.int .i64 0)) = some (.d (.ptr (zB n))) := fun S => by
  subst hr
  exact ix25 (i := 0) (by simp)
 have hl0 : ¬ (t.length : Int) = 0 := by rw [hr, List.length_cons]; omega
 have g1 : ¬ n.ino ≠ 1 := fun hh => hh h1
 have g2 : ¬ n.kind ≠ 2 := fun hh => hh h2
 have g3 : ¬ n.links ≠ 1 := fun hh => hh h3
 have g4 : ¬ n.parent ≠ 1 := fun hh => hh h4
 have g0 : ∀ S, kP Try.prog S 92 (.d (.map (encM (tM1 [] t)))) (.d (.int .i64 1)) false = some (.d (.int .i64 0)) := fun S => by rw [zjg, h.root]
 simp (maxSteps:=1000000) (disch:=first|assumption|omega|rfl) only [↓gp, gc, Nat.reduceAdd, zjn h hk0, zvt, z19, Bool.not_true, hix, g0, z2b]
 refine zn2 t k0 hk0 h _ _ _ t.length 0 _ _ _ _ _ _ _ _ _ _ _ _ _ _ _ _ _ _ _ _ _ _ _ _ _ _ _ _ _ _ _ _ _ _ _ _ _ _ _ _ _ _ _ _ _ _ _ _ _ _ _ _ _ _ _ _ _ _ _ _ _ _ _ _ _ _ _ _ _ _ _ _ _ _ _ _ _ _ _ _ _ _ _ _ _ _ _ _ _ _ _ _ _ _ _ _ _ _ _ _ _ _ _ _ _ _ _ _ _ _ _ _ _ rfl (by omega) ?_
 intro S i' g5 g6 g7 g8 g9 gK gF gA gB gC gH gI gJ gD gE gL gG gO gM gN gP gT gV gQ gR gS gU gW gX gY gZ gj gf gg gh gi gk gm gn gr gz hC hY hZ hH hJ xA xB xC xE xF xG xH xI xJ xK xL xO xP xQ xR xS xT xU xV xW xX xY xZ g77 g78 g79 g80 g81 g82 g83 g84 g85 g86 g87 g88 g89 g90 g91 g92 g93 g94 g95 g96 g97 g98 g99 g100 g101 g102 g103 g104 g105 g106 g107 g108 g109 g110 g111 g112 g113 g114 g115 g116 g117 g118 g119
 simp (maxSteps:=1000000) (disch:=first|assumption|omega|rfl) only [↓gp, gc, Nat.reduceAdd, zem h hk0, zvk]
 exact jT rfl rfl rfl
section
variable {ops : Array Oper} {dst : Option Tmp} {k : List Oper} {T : List V} {S : zA} {F : Dfs} {Q : Post}
theorem zmx {n : Nat} {t : List Node} (h : Good2 n t) (hn : n ≤ 24) : WpR cfgT ops dst k T S F Q (some (.enter 26 [.d (.sl (t.map zB))])) = WpL cfgT ops k (putT T dst (.d (.bool true))) S F Q :=
 jY (ds := [.sl (t.map zB)]) rfl (zkm rfl rfl (zk7 t n hn h))
end
theorem zwa : (zH Try.prog 26).isSome = true := by kernel_rfl
theorem zwp : (zH Try.prog 17).isSome = true := by kernel_rfl
theorem zwl : (zH Try.prog 20).isSome = true := by kernel_rfl
theorem zll (l : List Opn) (hl : l.length ≤ 24) (hs : ∀ o ∈ l, o.a.length < 900000 ∧ o.b.length < 900000 ∧ o.data.length < 900000) (R : Post) (x1 x2 : V) : ∀ (k i : Nat) (t : List Node) (S : zA) (g5 g6 g7 g8 g9 gK gF gA gB gC gH gI gJ gD gE gL gG gO gM gN gP gT gV gQ gR gS gU : V), l.length - i = k → i ≤ l.length → Good2 i t →
 (∀ S t' i' g5 g6 g7 g8 g9 gK gF gA gB gC gH gI gJ gD gE gL gG gO gM gN gP gT gV gQ gR gS gU, R (.exit 0) ((.d (.sl (l.map encOpn))) :: x1 :: x2 :: t' :: i' :: g5 :: g6 :: g7 :: g8 :: g9 :: gK :: gF :: gA :: gB :: gC :: gH :: gI :: gJ :: gD :: gE :: gL :: gG :: gO :: gM :: gN :: gP :: gT :: gV :: gQ :: gR :: gS :: gU :: []) S []) →
 Wp cfgT (.loop (lpOf (Try.f5.body.getD .skip) 0)) ((.d (.sl (l.map encOpn))) :: x1 :: x2 :: (.d (.sl (t.map zB))) :: (.d (.int .i64 i)) :: g5 :: g6 :: g7 :: g8 :: g9 :: gK :: gF :: gA :: gB :: gC :: gH :: gI :: gJ :: gD :: gE :: gL :: gG :: gO :: gM :: gN :: gP :: gT :: gV :: gQ :: gR :: gS :: gU :: []) S [] R := by
 intro k
 induction k with
 | zero =>
  intro i t S g5 g6 g7 g8 g9 gK gF gA gB gC gH gI gJ gD gE gL gG gO gM gN gP gT gV gQ gR gS gU hk hi hA hR
  have hie : i = l.length := by omega
  rw [qP]
  refine qE ?_
  conv => arg 2; whnf
  simp (maxSteps:=1000000) (disch:=first|assumption|omega|rfl) only [↓gp, gc, Nat.reduceAdd, hPT]
  exact hR _ _ _ _ _ _ _ _ _ _ _ _ _ _ _ _ _ _ _ _ _ _ _ _ _ _ _ _ _ _
 | succ k ih =>
  intro i t S g5 g6 g7 g8 g9 gK gF gA gB gC gH gI gJ gD gE gL gG gO gM gN gP gT gV gQ gR gS gU hk hi hA hR
  have hlt : i < l.length := by omega
  have h23 : i ≤ 23 := by omega
  have h24 : i + 1 ≤ 24 := by omega
  obtain ⟨hla, hlb, hld⟩ := hs _ (List.getElem_mem hlt)
  have hAu := hA.step (o := l[i]) h23
  rw [qP]
  refine qE ?_
  conv => arg 2; whnf
  generalize heo : l[i] = o at *
  simp (maxSteps:=1000000) (disch:=first|assumption|omega|rfl) only [↓gp, gc, Nat.reduceAdd, ↓vbs, hPT, heo, z44, zf44, zM, zI, zqj hA.a h23 hla hlb, zoe hld, zwl, bo19, zmx hAu h24, zwa, z19, Bool.not_true]
  exact ih (i + 1) _ _ _ _ _ _ _ _ _ _ _ _ _ _ _ _ _ _ _ _ _ _ _ _ _ _ _ _ _ (by omega) (by omega) hAu hR
theorem lright_ok (l : List Opn) : Ev cfgT 5 [.sl (l.map encOpn)] (.ret (.d (.bool true))) := by
 refine z2l rfl rfl zwj ?_
 show Wp cfgT (Try.f5.body.getD .skip) ((.d (.sl (l.map encOpn))) :: uZ (uZ (uZ ((.tup []) :: [])))) [] [] _
 unfold uZ
 conv => arg 2; whnf
 have h12 : (24 : Int) ≤ 1000 := by omega
 cases hm : zfa l 24 with
 | true =>
  simp (maxSteps:=1000000) (disch:=first|assumption|omega|rfl) only [↓gp, gc, Nat.reduceAdd, hPT, zkj h12, hm, zas, bo16]
  exact jT rfl rfl rfl
 | false =>
 have hsc := zhr h12 hm
 have hll : l.length ≤ 24 := by
  unfold zfa at hm
  rw [Bool.or_eq_false_iff] at hm
  have := of_decide_eq_false hm.1
  omega
 have hs : ∀ o ∈ l, o.a.length < 900000 ∧ o.b.length < 900000 ∧ o.data.length < 900000 := fun o ho => ⟨by have := hsc.a o ho; omega, by have := hsc.b o ho; omega, by have := hsc.data o ho; omega⟩
 simp (maxSteps:=1000000) (disch:=first|assumption|omega|rfl) only [↓gp, gc, Nat.reduceAdd, hPT, zkj h12, hm, zas, bo16, zwp, zog]
 refine zll l hll hs _ _ _ l.length 0 newN _ _ _ _ _ _ _ _ _ _ _ _ _ _ _ _ _ _ _ _ _ _ _ _ _ _ _ _ rfl (by omega) Good2.new ?_
 intro S t' i' g5 g6 g7 g8 g9 gK gF gA gB gC gH gI gJ gD gE gL gG gO gM gN gP gT gV gQ gR gS gU
 simp (maxSteps:=1000000) (disch:=first|assumption|omega|rfl) only [↓gp, gc, Nat.reduceAdd, hPT, zas, bo16]
 exact jT rfl rfl rfl
end Go.Proofs.Ytghllhghboaagaa
end
