/- For the statements of the model: model.New, the call as the program has it, numbers of nodes. -/
import Derived.Test.YtghllhghboaagaaS09
set_option linter.unusedVariables false
set_option linter.unusedSimpArgs false
set_option maxRecDepth 100000
set_option maxHeartbeats 4000000
set_option linter.defProp false
section
namespace Go.Proofs.Ytghllhghboaagaa
open Go.Vm
theorem q26 {S : zA} : bs1 Try.prog S 25 (.agg [.d (.int .i64 1), .d (.int .i64 2), .d (.int .i64 1), .d (.int .i64 1), .d (.int .i64 0), .ts [], .ts []]) = some (.val (.ts (newN.map zB)) S 0) := by kernel_rfl
theorem q1b : z1j Try.prog 32 [(0, .d (.int .i64 1)), (1, .d (.int .i64 2)), (2, .d (.int .i64 1)), (3, .d (.int .i64 1))] = some (.agg [.d (.int .i64 1), .d (.int .i64 2), .d (.int .i64 1), .d (.int .i64 1), .d (.int .i64 0), .ts [], .ts []]) := by kernel_rfl
theorem zti : Ev cfg 17 [] (.ret (.d (.sl (newN.map zB)))) := by
 refine z1r rfl rfl zzk ?_
 show Wp cfg (Try.f17.body.getD .skip) ((.tup []) :: (.tup []) :: (.tup []) :: []) [] [] _
 conv => arg 2; whnf
 simp (maxSteps:=1000000) (disch:=first|assumption|omega|rfl) only [↓gp, gc, Nat.reduceAdd, ↓vbs, q1b, q26]
 exact qN rfl rfl rfl
theorem bd48 {S : zA} {a d e : Int} {b c : List UInt8} {v : V} {xs : List V} (h : OwnS S v 5 xs) : z1j Try.prog 48 [(0, .d (.int .i64 a)), (1, .d (.str b)), (2, .d (.str c)), (3, .d (.int .i64 d)), (4, .d (.int .i64 e)), (5, v)] = some (.agg [.d (.int .i64 a), .d (.str b), .d (.str c), .d (.int .i64 d), .d (.int .i64 e), v]) := by
 rcases h with ⟨rfl, _⟩ | ⟨id, rfl, _⟩ <;> kernel_rfl
theorem sv48 {x0 x1 x2 x3 x4 x5 y0 y1 y2 y3 y4 y5 : V} : qL Try.prog 48 0 (.agg [x0, x1, x2, x3, x4, x5]) (.agg [y0, y1, y2, y3, y4, y5]) = some (.agg [x0, x1, x2, x3, x4, x5]) := by kernel_rfl
theorem lv48 {x0 x1 x2 x3 x4 x5 : V} : kE Try.prog 48 0 (some (.agg [x0, x1, x2, x3, x4, x5])) = some (.agg [x0, x1, x2, x3, x4, x5]) := by kernel_rfl
theorem zdz {x : List UInt8} : z24 (.d (.str x)) (.d (.str x)) = true := by simp [z24, kY, kX, z3d, jY]
theorem ztu (o : Opn) (hl : o.data.length < 900000) : Ev cfg 20 [encOpn o] (.ret (.d (encOpn o))) := by
 refine z1r rfl rfl zze ?_
 show Wp cfg (Try.f20.body.getD .skip) ((.d (encOpn o)) :: uZ ((.tup []) :: (.tup []) :: (.tup []) :: (.tup []) :: (.tup []) :: (.tup []) :: (.tup []) :: [])) [] [] _
 unfold uZ
 conv => arg 2; whnf
 simp (maxSteps:=1000000) (disch:=first|assumption|omega|rfl) only [↓gp, gc, Nat.reduceAdd, z48, zf48]
 obtain ⟨v5, S1, c, ha, hO, hK⟩ := zlf (S := [.row [.d (encOpn o)] 50, .row [.agg [.d (.int .i64 0), .d (.str []), .d (.str []), .d (.int .i64 0), .d (.int .i64 0), .ts []]] 48]) (v := .d (encB o.data)) (l := o.data) zs5 hl
 have h0 := hK 0 _ rfl
 have h1 := hK 1 _ rfl
 have hr0 := zC h0
 have hr1 := zC h1
 have hp1 := fun y => qG (y := y) h1
 have hl0 : ∀ (t : TypeId) (f : Nat) (y : V), kE Try.prog t f (some (.d (encOpn o))) = some y → (jP Try.prog S1 t (.ref 0 0 f)).map (fun v => Rs.val v S1 1) = some (.val y S1 1) := fun t f y h => ld1 ((jN hr0).trans h)
 have hc : c = 1 ∧ S1 = [.row [.d (encOpn o)] 50, .row [.agg [.d (.int .i64 0), .d (.str []), .d (.str []), .d (.int .i64 0), .d (.int .i64 0), .ts []]] 48] ∨ c = 2 := by
  cases hd : o.data with
  | nil =>
   rw [hd] at ha
   left
   have e : zW Try.prog [.row [.d (encOpn o)] 50, .row [.agg [.d (.int .i64 0), .d (.str []), .d (.str []), .d (.int .i64 0), .d (.int .i64 0), .ts []]] 48] 29 29 (.ts []) (.d (encB [])) = some (.ts [], [.row [.d (encOpn o)] 50, .row [.agg [.d (.int .i64 0), .d (.str []), .d (.str []), .d (.int .i64 0), .d (.int .i64 0), .ts []]] 48], 1) := by kernel_rfl
   rw [e] at ha
   cases ha
   exact ⟨rfl, rfl⟩
  | cons b r =>
   right
   rw [hd] at ha
   have hs := zs5 (S := [.row [.d (encOpn o)] 50, .row [.agg [.d (.int .i64 0), .d (.str []), .d (.str []), .d (.int .i64 0), .d (.int .i64 0), .ts []]] 48]) (l := b :: r)
   rw [List.map_cons] at hs
   simp only [zW, Try.underlying29, hs, zok5, if_true] at ha
   split at ha
   ·simp only [Option.some.injEq, Prod.mk.injEq] at ha
    exact ha.2.2.symm
   ·cases ha
 have fin : ∀ T : List V, T.getD 2 (.tup []) = .ref 1 0 0 → RetQ cfg.P #[.cell 2 48] (.ret (.d (encOpn o))) .ret T (S1.set 1 (.row [.agg [.d (.int .i64 o.does), .d (.str o.a), .d (.str o.b), .d (.int .i64 o.off), .d (.int .i64 o.n), v5]] 48)) [] := fun T hT => by
  have h5 : frz (S1.set 1 (.row [.agg [.d (.int .i64 o.does), .d (.str o.a), .d (.str o.b), .d (.int .i64 o.off), .d (.int .i64 o.n), v5]] 48)) 11 v5 = some (encB o.data) := zit (vM hO (z2o hO h1 (by decide)))
  refine zdc hT ((jN (zC (kD h1))).trans lv48) rfl ?_
  show (match allO (frz _ 11) [.d (.int .i64 o.does), .d (.str o.a), .d (.str o.b), .d (.int .i64 o.off), .d (.int .i64 o.n), v5] with | some ds => if ds.any D.isAgg then none else some (D.agg ds) | none => none) = _
  have h2 : ∀ (S : zA) (x : D), frz S 11 (.d x) = some x := fun _ _ => rfl
  simp only [allO, h5, h2]
  rfl
 refine kK (is := [0, 1, 2, 3, 4, 5, 6, 7, 8, 9, 10, 11, 12, 13, 14, 15]) (h := 0) (by kernel_rfl) (by kernel_rfl) ?_
 rcases hc with ⟨rfl, rfl⟩ | rfl
 ·simp (maxSteps:=1000000) (disch:=first|assumption|omega|rfl) only [List.replicate_zero, eq_self, gw, ga, Nat.reduceAdd, ↓gq, List.append_nil, zfw, ha, hr0, hr1, bd48 hO, sv48, hp1]
  refine ⟨zE (by kernel_rfl) (zE (by kernel_rfl) (zE (by kernel_rfl) (zE (by kernel_rfl) (zE (by kernel_rfl) (zE (by kernel_rfl) (zE (by kernel_rfl) qO)))))), by kernel_rfl, ?_⟩
  simp (maxSteps:=1000000) (disch:=first|assumption|omega|rfl) only [↓gp, gc, Nat.reduceAdd]
  exact fin _ rfl
 ·simp (maxSteps:=1000000) (disch:=first|assumption|omega|rfl) only [List.replicate_zero, eq_self, gw, ga, Nat.reduceAdd, ↓gq, List.append_nil, zfw, ha, hr0, hr1, bd48 hO, sv48, hp1]
  refine ⟨zE (by kernel_rfl) (jJ rfl (by kernel_rfl) rfl (hl0 3 4 _ zrm) vD (jJ rfl (by kernel_rfl) rfl (hl0 3 3 _ zrs) vD (jJ rfl (by kernel_rfl) rfl (hl0 9 2 _ zr8) zdz (jJ rfl (by kernel_rfl) rfl (hl0 9 1 _ zr7) zdz (jJ rfl (by kernel_rfl) rfl (hl0 3 0 _ zr4) vD qO))))), ?_⟩
  refine ⟨zE (by kernel_rfl) (zE (by kernel_rfl) (zE (by kernel_rfl) (zE (by kernel_rfl) (zE (by kernel_rfl) (zE (by kernel_rfl) qO))))), by kernel_rfl, ?_⟩
  simp (maxSteps:=1000000) (disch:=first|assumption|omega|rfl) only [↓gp, gc, Nat.reduceAdd]
  exact fin _ rfl
def Num (t : List Node) : Prop := ∀ n ∈ t, 0 ≤ n.ino ∧ n.ino ≤ 128
theorem Num.get {t : List Node} (h : Num t) (x : Int) : 0 ≤ (getN t x).ino ∧ (getN t x).ino ≤ 128 := by
 rcases jH t x with ⟨h1, _⟩ | ⟨h1, _⟩
 ·rw [h1]; exact ⟨by decide, by decide⟩
 ·exact h _ h1
theorem Num.with {t : List Node} {n : Node} (h : Num t) (hn : 0 ≤ n.ino ∧ n.ino ≤ 128) : Num (qY t n) := fun m hm => by
 rcases wI.1 hm with rfl | ⟨h1, _⟩
 ·exact hn
 ·exact h m h1
theorem Num.drop {t : List Node} {d : Int} {s : List UInt8} (h : Num t) : Num (zU t d s) := h.with (h.get d)
theorem Num.put {t : List Node} {d i : Int} {s : List UInt8} (h : Num t) : Num (putN t d s i) := h.with (h.get d)
theorem Num.loses {t : List Node} {i : Int} (h : Num t) : Num (kO t i) := by
 unfold kO
 split
 ·exact fun n hn => h n (List.mem_filter.1 hn).1
 ·exact h.with (h.get i)
theorem Num.step {t : List Node} {o : Opn} (h : Num t) (hl : t.length ≤ 120) : Num (jL t o).1 := by
 have hnx := (z0g t).2
 have mk : Num (z3j t o).1 := by
  unfold z3j
  split
  ·exact h
  split
  ·exact h
  refine Num.put (h.with ?_)
  unfold qM
  split <;> exact ⟨by show 0 ≤ jE t; omega, by show jE t ≤ 128; omega⟩
 have lk : Num (z3v t o).1 := by
  unfold z3v
  split
  ·exact h
  split
  ·exact h
  split
  ·exact h
  split
  ·exact h
  exact Num.put (h.with (h.get _))
 have rm : Num (vF t o).1 := by
  unfold vF
  repeat' split
  all_goals first | exact h | exact h.drop.loses
 have rn : Num (wY t o).1 := by
  unfold wY
  split
  ·exact h
  split
  ·exact h
  split
  ·exact h
  unfold z3e
  split
  ·exact h
  split
  ·exact h
  split
  ·exact h
  split
  ·exact h
  unfold renamed
  have h1 : Num (if 0 ≤ qV (getN t (zQ t o.b).1).names (zQ t o.b).2.1 then kO (zU t (zQ t o.b).1 (zQ t o.b).2.1) (qV (getN t (zQ t o.b).1).names (zQ t o.b).2.1) else t) := by
   split
   ·exact h.drop.loses
   ·exact h
  have h2 := (h1.drop (d := (zQ t o.a).1) (s := (zQ t o.a).2.1)).put (d := (zQ t o.b).1) (s := (zQ t o.b).2.1) (i := qV (getN t (zQ t o.a).1).names (zQ t o.a).2.1)
  simp only
  split
  ·exact h2.with (h2.get _)
  ·exact h2
 have bt : Num (vG t o).1 := by
  unfold vG
  split
  ·exact h
  unfold z4v
  have hg := h.get (zN t o.a).1
  repeat' split
  all_goals first | exact h | exact h.with hg
 unfold jL
 split
 ·exact h
 split
 ·exact mk
 split
 ·exact lk
 split
 ·exact rm
 split
 ·exact rn
 split
 ·exact bt
 split
 ·exact h
 ·exact h
theorem Num.new : Num newN := fun n hn => by
 simp only [newN, List.mem_singleton] at hn
 subst hn
 exact ⟨by decide, by decide⟩
structure At (k : Nat) (t : List Node) : Prop where
 g : Good (1 + 5 * k) t
 num : Num t
theorem At.new : At 0 newN := ⟨⟨Small.new, LJ.new, TInv.new⟩, Num.new⟩
theorem At.step {k : Nat} {t : List Node} {o : Opn} (h : At k t) (hk : k ≤ 23) : At (k + 1) (jL t o).1 := by
 refine ⟨⟨?_, h.g.lj.step h.g.ti, h.g.ti.step⟩, h.num.step (Nat.le_trans h.g.sm.len (by omega))⟩
 have := h.g.sm.step (o := o)
 rw [show 1 + 5 * (k + 1) = 1 + 5 * k + 5 by omega]
 exact this
section
variable {ops : Array Oper} {dst : Option Tmp} {k : List Oper} {T : List V} {S : zA} {F : Dfs} {Q : Post}
end
end Go.Proofs.Ytghllhghboaagaa
end
section
namespace Go.Proofs.Ytghllhghboaagaa

end Go.Proofs.Ytghllhghboaagaa
end
section
namespace Go.Proofs.Ytghllhghboaagaa
open Go.Vm
theorem zom {l : List UInt8} : z89 (l.map fun b => V.d (.int .u8 b.toNat)) = some l := by
 induction l with
 | nil => rfl
 | cons b r ih =>
  simp only [List.map_cons, z89, ih]
  rw [Int.toNat_natCast, UInt8.ofNat_toNat]
theorem cvB {S : zA} {l : List UInt8} : jQ Try.prog S 29 9 (.d (encB l)) = some (.d (.str l), 1) := by
 have h : kU S (.d (encB l)) = some (l.map fun b => V.d (.int .u8 b.toNat)) := by simp only [encB, kU, List.map_map, Function.comp_def]
 have hu : Try.prog.underlying 9 = some .string := by kernel_rfl
 have h5 : Try.prog.underlying 5 = some (.int .u8) := by kernel_rfl
 unfold encB at h ⊢
 simp only [jQ, Try.underlying29, hu, h5, h, zom, Option.map_some]
section
variable {ops : Array Oper} {dst : Option Tmp} {k : List Oper} {T : List V} {S : zA} {F : Dfs} {Q : Post}
end
theorem dne {α : Type} {a : α} {i : Decidable (a ≠ a)} : @decide (a ≠ a) i = false := decide_eq_false (fun h => h rfl)
def strip (n : Node) : Node := ⟨n.ino, n.kind, 0, 0, n.size, n.data, n.names⟩
theorem z1z {a b : Node} : strip a = strip b ↔ a.ino = b.ino ∧ a.kind = b.kind ∧ a.size = b.size ∧ a.data = b.data ∧ a.names = b.names := by
 unfold strip
 simp only [Node.mk.injEq, true_and]
theorem zrx {e f : Ent} : eqV Try.prog 88 (.d (zJ e)) (.d (zJ f)) = (match some (e.name == f.name) with | some true => (match some (e.ino == f.ino) with | some true => some true | some false => some false | none => none) | some false => some false | none => none) := by kernel_rfl
theorem zvq {e f : Ent} : binV Try.prog .neq 88 (.d (zJ e)) (.d (zJ f)) = some (.d (.bool (decide (e ≠ f)))) := by
 have h0 : binV Try.prog .neq 88 (.d (zJ e)) (.d (zJ f)) = (eqV Try.prog 88 (.d (zJ e)) (.d (zJ f))).map fun b => .d (.bool (!b)) := rfl
 rw [h0, zrx]
 obtain ⟨n, i⟩ := e
 obtain ⟨m, j⟩ := f
 by_cases h1 : n = m
 ·subst h1
  by_cases h2 : i = j
  ·subst h2
   simp
  ·have : (i == j) = false := by rw [beq_eq_false_iff_ne]; exact h2
   simp [this, h2]
 ·have : (n == m) = false := by rw [beq_eq_false_iff_ne]; exact h1
  simp [this, h1]
theorem ztc (a b : Node) (hl : a.names.length = b.names.length) (hb : a.names.length < 1000000) (R : Post) (x4 : V) : ∀ (k i : Nat) (S : zA) (g5 g6 g7 g8 g9 gP gQ gM gF gD gG gH gC gA gB gK gE gL gI gJ gN gO gR gS gT gX gW gU gV gZ gY gi gf gg gh gj gk gm gn gr gz xA xB xC hC hH hJ xD xE xF xG xH : V), a.names.length - i = k → i ≤ a.names.length → S[0]? = some (.row [.d (zB a)] 32) → S[1]? = some (.row [.d (zB b)] 32) →
 (∀ S i' g5 g6 g7 g8 g9 gP gQ gM gF gD gG gH gC gA gB gK gE gL gI gJ gN gO gR gS gT gX gW gU gV gZ gY gi gf gg gh gj gk gm gn gr gz xA xB xC hC hH hJ xD xE xF xG xH, a.names.drop i = b.names.drop i → R (.exit 0) ((.d (zB a)) :: (.d (zB b)) :: (.ref 0 0 0) :: (.ref 1 0 0) :: x4 :: g5 :: g6 :: g7 :: g8 :: g9 :: gP :: gQ :: gM :: gF :: gD :: gG :: gH :: gC :: gA :: gB :: gK :: gE :: gL :: gI :: gJ :: gN :: gO :: gR :: gS :: gT :: gX :: gW :: gU :: gV :: gZ :: gY :: gi :: gf :: gg :: gh :: gj :: gk :: gm :: gn :: gr :: (.d (.sl (a.names.map zJ))) :: (.d (.int .i64 a.names.length)) :: i' :: gz :: xA :: xB :: xC :: hC :: hH :: hJ :: xD :: xE :: xF :: xG :: xH :: []) S []) →
 (∀ S i' g5 g6 g7 g8 g9 gP gQ gM gF gD gG gH gC gA gB gK gE gL gI gJ gN gO gR gS gT gX gW gU gV gZ gY gi gf gg gh gj gk gm gn gr gz xA xB xC hC hH hJ xD xE xF xG xH, a.names.drop i ≠ b.names.drop i → R .ret ((.d (zB a)) :: (.d (zB b)) :: (.ref 0 0 0) :: (.ref 1 0 0) :: (.d (.bool false)) :: g5 :: g6 :: g7 :: g8 :: g9 :: gP :: gQ :: gM :: gF :: gD :: gG :: gH :: gC :: gA :: gB :: gK :: gE :: gL :: gI :: gJ :: gN :: gO :: gR :: gS :: gT :: gX :: gW :: gU :: gV :: gZ :: gY :: gi :: gf :: gg :: gh :: gj :: gk :: gm :: gn :: gr :: (.d (.sl (a.names.map zJ))) :: (.d (.int .i64 a.names.length)) :: i' :: gz :: xA :: xB :: xC :: hC :: hH :: hJ :: xD :: xE :: xF :: xG :: xH :: []) S []) →
 Wp cfg (.loop (lpOf (Try.f103.body.getD .skip) 0)) ((.d (zB a)) :: (.d (zB b)) :: (.ref 0 0 0) :: (.ref 1 0 0) :: x4 :: g5 :: g6 :: g7 :: g8 :: g9 :: gP :: gQ :: gM :: gF :: gD :: gG :: gH :: gC :: gA :: gB :: gK :: gE :: gL :: gI :: gJ :: gN :: gO :: gR :: gS :: gT :: gX :: gW :: gU :: gV :: gZ :: gY :: gi :: gf :: gg :: gh :: gj :: gk :: gm :: gn :: gr :: (.d (.sl (a.names.map zJ))) :: (.d (.int .i64 a.names.length)) :: (.d (.int .i64 i)) :: gz :: xA :: xB :: xC :: hC :: hH :: hJ :: xD :: xE :: xF :: xG :: xH :: []) S [] R := by
 intro k
 induction k with
 | zero =>
  intro i S g5 g6 g7 g8 g9 gP gQ gM gF gD gG gH gC gA gB gK gE gL gI gJ gN gO gR gS gT gX gW gU gV gZ gY gi gf gg gh gj gk gm gn gr gz xA xB xC hC hH hJ xD xE xF xG xH hk hi h0 h1 hE hR
  have hie : i = a.names.length := by omega
  rw [qQ]
  refine qC ?_
  conv => arg 2; whnf
  simp (maxSteps:=1000000) (disch:=first|assumption|omega|rfl) only [↓gp, gc, Nat.reduceAdd]
  exact hE _ _ _ _ _ _ _ _ _ _ _ _ _ _ _ _ _ _ _ _ _ _ _ _ _ _ _ _ _ _ _ _ _ _ _ _ _ _ _ _ _ _ _ _ _ _ _ _ _ _ _ _ _ _ (by rw [hie, List.drop_length, hl, List.drop_length])
 | succ k ih =>
  intro i S g5 g6 g7 g8 g9 gP gQ gM gF gD gG gH gC gA gB gK gE gL gI gJ gN gO gR gS gT gX gW gU gV gZ gY gi gf gg gh gj gk gm gn gr gz xA xB xC hC hH hJ xD xE xF xG xH hk hi h0 h1 hE hR
  have hlt : i < a.names.length := by omega
  have hlt2 : i < b.names.length := by omega
  have hda : a.names.drop i = a.names[i] :: a.names.drop (i + 1) := List.drop_eq_getElem_cons hlt
  have hdb : b.names.drop i = b.names[i] :: b.names.drop (i + 1) := List.drop_eq_getElem_cons hlt2
  rw [hda, hdb] at hE hR
  rw [qQ]
  refine qC ?_
  conv => arg 2; whnf
  generalize hea : a.names[i] = e at *
  generalize heb : b.names[i] = f at *
  have h01 := qA (l := [Ob.row [.d (zJ e)] 88]) h0
  have h11 := qA (l := [Ob.row [.d (zJ e)] 88]) h1
  have h21 := qK (S := S) (o := Ob.row [.d (zJ e)] 88)
  have hr1 := zC h11
  have hr2 := zC h21
  simp (maxSteps:=1000000) (disch:=first|assumption|omega|rfl) only [↓gp, gc, Nat.reduceAdd, hea, z88, zf88, se88, zL, zI]
  refine jA (is := [0, 1, 2, 3, 4, 5, 6]) (h := 0) (by kernel_rfl) (by kernel_rfl) ?_
  simp (maxSteps:=1000000) (disch:=first|assumption|omega|rfl) only [List.replicate_zero, eq_self, gd, ga, Nat.reduceAdd, ↓gq, List.append_nil, hr1, hr2, heb, le88, zvq]
  refine ⟨by kernel_rfl, ?_⟩
  by_cases hc : e = f
  ·subst hc
   simp (maxSteps:=1000000) (disch:=first|assumption|omega|rfl) only [↓gp, gc, Nat.reduceAdd, dne]
   exact ih (i + 1) _ _ _ _ _ _ _ _ _ _ _ _ _ _ _ _ _ _ _ _ _ _ _ _ _ _ _ _ _ _ _ _ _ _ _ _ _ _ _ _ _ _ _ _ _ _ _ _ _ _ _ _ _ (by omega) (by omega) h01 h11 (fun S i' g5 g6 g7 g8 g9 gP gQ gM gF gD gG gH gC gA gB gK gE gL gI gJ gN gO gR gS gT gX gW gU gV gZ gY gi gf gg gh gj gk gm gn gr gz xA xB xC hC hH hJ xD xE xF xG xH h => hE S i' _ _ _ _ _ _ _ _ _ _ _ _ _ _ _ _ _ _ _ _ _ _ _ _ _ _ _ _ _ _ _ _ _ _ _ _ _ _ _ _ _ _ _ _ _ _ _ _ _ _ _ _ (by rw [h])) (fun S i' g5 g6 g7 g8 g9 gP gQ gM gF gD gG gH gC gA gB gK gE gL gI gJ gN gO gR gS gT gX gW gU gV gZ gY gi gf gg gh gj gk gm gn gr gz xA xB xC hC hH hJ xD xE xF xG xH h => hR S i' _ _ _ _ _ _ _ _ _ _ _ _ _ _ _ _ _ _ _ _ _ _ _ _ _ _ _ _ _ _ _ _ _ _ _ _ _ _ _ _ _ _ _ _ _ _ _ _ _ _ _ _ (fun hh => h (List.cons.inj hh).2))
  ·simp (maxSteps:=1000000) (disch:=first|assumption|omega|rfl) only [↓gp, gc, Nat.reduceAdd]
   exact hR _ _ _ _ _ _ _ _ _ _ _ _ _ _ _ _ _ _ _ _ _ _ _ _ _ _ _ _ _ _ _ _ _ _ _ _ _ _ _ _ _ _ _ _ _ _ _ _ _ _ _ _ _ _ (fun hh => hc (List.cons.inj hh).1)
theorem zq5 (a b : Node) (hb : a.names.length < 1000000) (hb2 : b.names.length < 1000000) : Ev cfg 103 [zB a, zB b] (.ret (.d (.bool (decide (strip a = strip b))))) := by
 refine z1r rfl rfl zt9 ?_
 show Wp cfg (Try.f103.body.getD .skip) ((.d (zB a)) :: (.d (zB b)) :: uZ (uZ (uZ (uZ (uZ ((.tup []) :: (.tup []) :: (.tup []) :: (.tup []) :: (.tup []) :: (.tup []) :: (.tup []) :: (.tup []) :: [])))))) [] [] _
 unfold uZ
 conv => arg 2; whnf
 generalize hr : decide (strip a = strip b) = r
 by_cases c1 : a.ino = b.ino
 ·by_cases c2 : a.kind = b.kind
  ·by_cases c3 : a.size = b.size
   ·by_cases c4 : a.data = b.data
    ·have c4n : ¬ (a.data ≠ b.data) := fun h => h c4
     by_cases c5 : (a.names.length : Int) = b.names.length
     ·simp (maxSteps:=1000000) (disch:=first|assumption|omega|rfl) only [↓gp, gc, Nat.reduceAdd, cvB]
      refine ztc a b (by omega) hb _ _ a.names.length 0 _ _ _ _ _ _ _ _ _ _ _ _ _ _ _ _ _ _ _ _ _ _ _ _ _ _ _ _ _ _ _ _ _ _ _ _ _ _ _ _ _ _ _ _ _ _ _ _ _ _ _ _ _ rfl (by omega) ?_ ?_ ?_ ?_
      ·rfl
      ·rfl
      ·intro S i' g5 g6 g7 g8 g9 gP gQ gM gF gD gG gH gC gA gB gK gE gL gI gJ gN gO gR gS gT gX gW gU gV gZ gY gi gf gg gh gj gk gm gn gr gz xA xB xC hC hH hJ xD xE xF xG xH h
       simp (maxSteps:=1000000) (disch:=first|assumption|omega|rfl) only [↓gp, gc, Nat.reduceAdd]
       rw [← hr, decide_eq_true (z1z.2 ⟨c1, c2, c3, c4, h⟩)]
       exact qN rfl rfl rfl
      ·intro S i' g5 g6 g7 g8 g9 gP gQ gM gF gD gG gH gC gA gB gK gE gL gI gJ gN gO gR gS gT gX gW gU gV gZ gY gi gf gg gh gj gk gm gn gr gz xA xB xC hC hH hJ xD xE xF xG xH h
       simp (maxSteps:=1000000) (disch:=first|assumption|omega|rfl) only [↓gp, gc, Nat.reduceAdd]
       rw [← hr, decide_eq_false (fun hh => h (z1z.1 hh).2.2.2.2)]
       exact qN rfl rfl rfl
     ·rw [← hr, decide_eq_false (fun hh => c5 (by rw [(z1z.1 hh).2.2.2.2]))]
      simp (maxSteps:=1000000) (disch:=first|assumption|omega|rfl) only [↓gp, gc, Nat.reduceAdd, cvB]
      exact qN rfl rfl rfl
    ·rw [← hr, decide_eq_false (fun hh => c4 (z1z.1 hh).2.2.2.1)]
     simp (maxSteps:=1000000) (disch:=first|assumption|omega|rfl) only [↓gp, gc, Nat.reduceAdd, cvB]
     exact qN rfl rfl rfl
   ·rw [← hr, decide_eq_false (fun hh => c3 (z1z.1 hh).2.2.1)]
    simp (maxSteps:=1000000) (disch:=first|assumption|omega|rfl) only [↓gp, gc, Nat.reduceAdd]
    exact qN rfl rfl rfl
  ·rw [← hr, decide_eq_false (fun hh => c2 (z1z.1 hh).2.1)]
   simp (maxSteps:=1000000) (disch:=first|assumption|omega|rfl) only [↓gp, gc, Nat.reduceAdd]
   exact qN rfl rfl rfl
 ·rw [← hr, decide_eq_false (fun hh => c1 (z1z.1 hh).1)]
  simp (maxSteps:=1000000) (disch:=first|assumption|omega|rfl) only [↓gp, gc, Nat.reduceAdd]
  exact qN rfl rfl rfl
theorem zos {ops : Array Oper} {F : Dfs} {Q : Post} {K : List Nat → List (Nat × Nat) → List V → zA → Prop} {rd : List Nat} {cs : List (Nat × Nat)} {i : Nat} {dst : Option Tmp} {T : List V} {S : zA} {a b : Node} (ha : a.names.length < 1000000) (hb : b.names.length < 1000000) :
  WpE cfg ops F Q K rd cs i dst T S (some (.enter 103 [.d (zB a), .d (zB b)])) = K (i :: rd) (cs ++ [(i, 1)]) (putT T dst (.d (.bool (decide (strip a = strip b))))) S :=
 z69 (ds := [zB a, zB b]) rfl (zq5 a b ha hb)
theorem zx4 : (zF Try.prog 103).isSome = true := by kernel_rfl
theorem zy4 (a b : List Node) (hl : a.length = b.length) (hal : a.length < 1000000) (hna : ∀ n ∈ a, n.names.length < 1000000) (hnb : ∀ n ∈ b, n.names.length < 1000000) (R : Post) (x2 x3 x4 : V) : ∀ (k i : Nat) (S : zA) (g5 g6 g7 g8 g9 gP gD gG gH gC gA gB gK gE gL gI gJ gN gO : V), a.length - i = k → i ≤ a.length →
 (∀ S i' g5 g6 g7 g8 g9 gP gD gG gH gC gA gB gK gE gL gI gJ gN gO, (a.drop i).map strip = (b.drop i).map strip → R (.exit 0) ((.d (.sl (a.map zB))) :: (.d (.sl (b.map zB))) :: x2 :: x3 :: x4 :: g5 :: g6 :: g7 :: g8 :: g9 :: gP :: (.d (.sl (a.map zB))) :: (.d (.int .i64 a.length)) :: i' :: gD :: gG :: gH :: gC :: gA :: gB :: gK :: gE :: gL :: gI :: gJ :: gN :: gO :: []) S []) →
 (∀ S i' g5 g6 g7 g8 g9 gP gD gG gH gC gA gB gK gE gL gI gJ gN gO, (a.drop i).map strip ≠ (b.drop i).map strip → R .ret ((.d (.sl (a.map zB))) :: (.d (.sl (b.map zB))) :: x2 :: x3 :: (.d (.bool false)) :: g5 :: g6 :: g7 :: g8 :: g9 :: gP :: (.d (.sl (a.map zB))) :: (.d (.int .i64 a.length)) :: i' :: gD :: gG :: gH :: gC :: gA :: gB :: gK :: gE :: gL :: gI :: gJ :: gN :: gO :: []) S []) →
 Wp cfg (.loop (lpOf (Try.f68.body.getD .skip) 0)) ((.d (.sl (a.map zB))) :: (.d (.sl (b.map zB))) :: x2 :: x3 :: x4 :: g5 :: g6 :: g7 :: g8 :: g9 :: gP :: (.d (.sl (a.map zB))) :: (.d (.int .i64 a.length)) :: (.d (.int .i64 i)) :: gD :: gG :: gH :: gC :: gA :: gB :: gK :: gE :: gL :: gI :: gJ :: gN :: gO :: []) S [] R := by
 intro k
 induction k with
 | zero =>
  intro i S g5 g6 g7 g8 g9 gP gD gG gH gC gA gB gK gE gL gI gJ gN gO hk hi hE hR
  have hie : i = a.length := by omega
  rw [qQ]
  refine qC ?_
  conv => arg 2; whnf
  simp (maxSteps:=1000000) (disch:=first|assumption|omega|rfl) only [↓gp, gc, Nat.reduceAdd]
  exact hE _ _ _ _ _ _ _ _ _ _ _ _ _ _ _ _ _ _ _ _ _ (by rw [hie, List.drop_length, hl, List.drop_length])
 | succ k ih =>
  intro i S g5 g6 g7 g8 g9 gP gD gG gH gC gA gB gK gE gL gI gJ gN gO hk hi hE hR
  have hlt : i < a.length := by omega
  have hlt2 : i < b.length := by omega
  have hda : a.drop i = a[i] :: a.drop (i + 1) := List.drop_eq_getElem_cons hlt
  have hdb : b.drop i = b[i] :: b.drop (i + 1) := List.drop_eq_getElem_cons hlt2
  have h1 := hna _ (List.getElem_mem hlt)
  have h2 := hnb _ (List.getElem_mem hlt2)
  rw [hda, hdb, List.map_cons, List.map_cons] at hE hR
  rw [qQ]
  refine qC ?_
  conv => arg 2; whnf
  generalize hea : a[i] = e at *
  generalize heb : b[i] = f at *
  simp (maxSteps:=1000000) (disch:=first|assumption|omega|rfl) only [↓gp, gc, Nat.reduceAdd]
  refine jA (is := [0, 1, 2, 3, 4, 5, 6, 7, 8, 9]) (h := 0) (by kernel_rfl) (by kernel_rfl) ?_
  simp (maxSteps:=1000000) (disch:=first|assumption|omega|rfl) only [List.replicate_zero, eq_self, gd, ga, Nat.reduceAdd, ↓gq, List.append_nil, hea, heb, zos h1 h2, zx4, z19]
  refine ⟨by kernel_rfl, ?_⟩
  by_cases hc : strip e = strip f
  ·simp (maxSteps:=1000000) (disch:=first|assumption|omega|rfl) only [↓gp, gc, Nat.reduceAdd, Bool.not_true]
   exact ih (i + 1) _ _ _ _ _ _ _ _ _ _ _ _ _ _ _ _ _ _ _ _ (by omega) (by omega) (fun S i' g5 g6 g7 g8 g9 gP gD gG gH gC gA gB gK gE gL gI gJ gN gO h => hE S i' _ _ _ _ _ _ _ _ _ _ _ _ _ _ _ _ _ _ _ (by rw [h, hc])) (fun S i' g5 g6 g7 g8 g9 gP gD gG gH gC gA gB gK gE gL gI gJ gN gO h => hR S i' _ _ _ _ _ _ _ _ _ _ _ _ _ _ _ _ _ _ _ (fun hh => h (List.cons.inj hh).2))
  ·simp (maxSteps:=1000000) (disch:=first|assumption|omega|rfl) only [↓gp, gc, Nat.reduceAdd, Bool.not_false]
   exact hR _ _ _ _ _ _ _ _ _ _ _ _ _ _ _ _ _ _ _ _ _ (fun hh => hc (List.cons.inj hh).1)
theorem zu3 (a b : List Node) (hal : a.length < 1000000) (hbl : b.length < 1000000) (hna : ∀ n ∈ a, n.names.length < 1000000) (hnb : ∀ n ∈ b, n.names.length < 1000000) : Ev cfg 68 [.sl (a.map zB), .sl (b.map zB)] (.ret (.d (.bool (decide (a.map strip = b.map strip))))) := by
 refine z1r rfl rfl zyj ?_
 show Wp cfg (Try.f68.body.getD .skip) ((.d (.sl (a.map zB))) :: (.d (.sl (b.map zB))) :: uZ (uZ ((.tup []) :: (.tup []) :: (.tup []) :: (.tup []) :: (.tup []) :: []))) [] [] _
 unfold uZ
 conv => arg 2; whnf
 generalize hr : decide (a.map strip = b.map strip) = r
 by_cases c1 : (a.length : Int) = b.length
 ·simp (maxSteps:=1000000) (disch:=first|assumption|omega|rfl) only [↓gp, gc, Nat.reduceAdd]
  refine zy4 a b (by omega) hal hna hnb _ _ _ _ a.length 0 _ _ _ _ _ _ _ _ _ _ _ _ _ _ _ _ _ _ _ _ rfl (by omega) ?_ ?_
  ·intro S i' g5 g6 g7 g8 g9 gP gD gG gH gC gA gB gK gE gL gI gJ gN gO h
   simp (maxSteps:=1000000) (disch:=first|assumption|omega|rfl) only [↓gp, gc, Nat.reduceAdd]
   rw [← hr, decide_eq_true (show a.map strip = b.map strip from h)]
   exact qN rfl rfl rfl
  ·intro S i' g5 g6 g7 g8 g9 gP gD gG gH gC gA gB gK gE gL gI gJ gN gO h
   simp (maxSteps:=1000000) (disch:=first|assumption|omega|rfl) only [↓gp, gc, Nat.reduceAdd]
   rw [← hr, decide_eq_false (show a.map strip ≠ b.map strip from h)]
   exact qN rfl rfl rfl
 ·have h : a.map strip ≠ b.map strip := fun hh => c1 (by have := congrArg List.length hh; rw [List.length_map, List.length_map] at this; omega)
  simp (maxSteps:=1000000) (disch:=first|assumption|omega|rfl) only [↓gp, gc, Nat.reduceAdd]
  rw [← hr, decide_eq_false h]
  exact qN rfl rfl rfl
theorem ze0 {ops : Array Oper} {dst : Option Tmp} {k : List Oper} {T : List V} {S : zA} {F : Dfs} {Q : Post} {a b : List Node} (hal : a.length < 1000000) (hbl : b.length < 1000000) (hna : ∀ n ∈ a, n.names.length < 1000000) (hnb : ∀ n ∈ b, n.names.length < 1000000) :
  WpR cfg ops dst k T S F Q (some (.enter 68 [.d (.sl (a.map zB)), .d (.sl (b.map zB))])) = WpL cfg ops k (putT T dst (.d (.bool (decide (a.map strip = b.map strip))))) S F Q :=
 jI (ds := [.sl (a.map zB), .sl (b.map zB)]) rfl (zu3 a b hal hbl hna hnb)
def lp (n : Node) : Int × Int := (n.links, n.parent)
theorem zcr {a b : List Node} : a = b ↔ a.map strip = b.map strip ∧ a.map lp = b.map lp := by
 constructor
 ·rintro rfl; exact ⟨rfl, rfl⟩
 ·rintro ⟨h1, h2⟩
  induction a generalizing b with
  | nil => cases b with | nil => rfl | cons y r => cases h1
  | cons x r ih =>
   cases b with
   | nil => cases h1
   | cons y q =>
    simp only [List.map_cons, List.cons.injEq] at h1 h2
    have e1 := z1z.1 h1.1
    have e2 : x.links = y.links ∧ x.parent = y.parent := by have := h2.1; simp only [lp, Prod.mk.injEq] at this; exact this
    rw [ih h1.2 h2.2]
    congr 1
    obtain ⟨a1, a2, a3, a4, a5, a6, a7⟩ := x
    obtain ⟨b1, b2, b3, b4, b5, b6, b7⟩ := y
    simp only at e1 e2
    obtain ⟨rfl, rfl, rfl, rfl, rfl⟩ := e1
    obtain ⟨rfl, rfl⟩ := e2
    rfl
theorem zxx : (zF Try.prog 68).isSome = true := by kernel_rfl
theorem zye (a b : List Node) (hl : a.length = b.length) (hal : a.length < 1000000) (R : Post) (x2 x3 x4 : V) : ∀ (k i : Nat) (S : zA) (g5 g6 g7 g8 g9 gP gF gD gG gH gC gA gB gK gE gL gI gJ gN gO gR gS gT gX gW gU gV gZ gY gi gf gg gh : V), a.length - i = k → i ≤ a.length →
 (∀ S i' g5 g6 g7 g8 g9 gP gF gD gG gH gC gA gB gK gE gL gI gJ gN gO gR gS gT gX gW gU gV gZ gY gi gf gg gh, (a.drop i).map lp = (b.drop i).map lp → R (.exit 0) ((.d (.sl (a.map zB))) :: (.d (.sl (b.map zB))) :: x2 :: x3 :: x4 :: g5 :: g6 :: g7 :: g8 :: g9 :: gP :: (.d (.int .i64 a.length)) :: i' :: gF :: gD :: gG :: gH :: gC :: gA :: gB :: gK :: gE :: gL :: gI :: gJ :: gN :: gO :: gR :: gS :: gT :: gX :: gW :: gU :: gV :: gZ :: gY :: gi :: gf :: gg :: gh :: []) S []) →
 (∀ S i' g5 g6 g7 g8 g9 gP gF gD gG gH gC gA gB gK gE gL gI gJ gN gO gR gS gT gX gW gU gV gZ gY gi gf gg gh, (a.drop i).map lp ≠ (b.drop i).map lp → R .ret ((.d (.sl (a.map zB))) :: (.d (.sl (b.map zB))) :: x2 :: x3 :: (.d (.bool false)) :: g5 :: g6 :: g7 :: g8 :: g9 :: gP :: (.d (.int .i64 a.length)) :: i' :: gF :: gD :: gG :: gH :: gC :: gA :: gB :: gK :: gE :: gL :: gI :: gJ :: gN :: gO :: gR :: gS :: gT :: gX :: gW :: gU :: gV :: gZ :: gY :: gi :: gf :: gg :: gh :: []) S []) →
 Wp cfg (.loop (lpOf (Try.f34.body.getD .skip) 0)) ((.d (.sl (a.map zB))) :: (.d (.sl (b.map zB))) :: x2 :: x3 :: x4 :: g5 :: g6 :: g7 :: g8 :: g9 :: gP :: (.d (.int .i64 a.length)) :: (.d (.int .i64 i)) :: gF :: gD :: gG :: gH :: gC :: gA :: gB :: gK :: gE :: gL :: gI :: gJ :: gN :: gO :: gR :: gS :: gT :: gX :: gW :: gU :: gV :: gZ :: gY :: gi :: gf :: gg :: gh :: []) S [] R := by
 intro k
 induction k with
 | zero =>
  intro i S g5 g6 g7 g8 g9 gP gF gD gG gH gC gA gB gK gE gL gI gJ gN gO gR gS gT gX gW gU gV gZ gY gi gf gg gh hk hi hE hR
  have hie : i = a.length := by omega
  rw [qQ]
  refine qC ?_
  conv => arg 2; whnf
  simp (maxSteps:=1000000) (disch:=first|assumption|omega|rfl) only [↓gp, gc, Nat.reduceAdd]
  exact hE _ _ _ _ _ _ _ _ _ _ _ _ _ _ _ _ _ _ _ _ _ _ _ _ _ _ _ _ _ _ _ _ _ _ _ (by rw [hie, List.drop_length, hl, List.drop_length])
 | succ k ih =>
  intro i S g5 g6 g7 g8 g9 gP gF gD gG gH gC gA gB gK gE gL gI gJ gN gO gR gS gT gX gW gU gV gZ gY gi gf gg gh hk hi hE hR
  have hlt : i < a.length := by omega
  have hlt2 : i < b.length := by omega
  have hda : a.drop i = a[i] :: a.drop (i + 1) := List.drop_eq_getElem_cons hlt
  have hdb : b.drop i = b[i] :: b.drop (i + 1) := List.drop_eq_getElem_cons hlt2
  rw [hda, hdb, List.map_cons, List.map_cons] at hE hR
  rw [qQ]
  refine qC ?_
  conv => arg 2; whnf
  generalize hea : a[i] = e at *
  generalize heb : b[i] = f at *
  simp (maxSteps:=1000000) (disch:=first|assumption|omega|rfl) only [↓gp, gc, Nat.reduceAdd]
  refine jA (is := [0, 1, 2, 3, 4, 5, 6, 7, 8, 9, 10, 11, 12, 13, 14, 15, 16, 17, 18, 19, 20, 21, 22, 23]) (h := 0) (by kernel_rfl) (by kernel_rfl) ?_
  by_cases c1 : e.links = f.links
  ·by_cases c2 : e.parent = f.parent
   ·have hc : lp e = lp f := by unfold lp; rw [c1, c2]
    simp (maxSteps:=1000000) (disch:=first|assumption|omega|rfl) only [List.replicate_zero, eq_self, gd, ga, Nat.reduceAdd, ↓gq, List.append_nil, hea, heb]
    refine ⟨by kernel_rfl, ?_⟩
    simp (maxSteps:=1000000) (disch:=first|assumption|omega|rfl) only [↓gp, gc, Nat.reduceAdd]
    exact ih (i + 1) _ _ _ _ _ _ _ _ _ _ _ _ _ _ _ _ _ _ _ _ _ _ _ _ _ _ _ _ _ _ _ _ _ _ (by omega) (by omega) (fun S i' g5 g6 g7 g8 g9 gP gF gD gG gH gC gA gB gK gE gL gI gJ gN gO gR gS gT gX gW gU gV gZ gY gi gf gg gh h => hE S i' _ _ _ _ _ _ _ _ _ _ _ _ _ _ _ _ _ _ _ _ _ _ _ _ _ _ _ _ _ _ _ _ _ (by rw [h, hc])) (fun S i' g5 g6 g7 g8 g9 gP gF gD gG gH gC gA gB gK gE gL gI gJ gN gO gR gS gT gX gW gU gV gZ gY gi gf gg gh h => hR S i' _ _ _ _ _ _ _ _ _ _ _ _ _ _ _ _ _ _ _ _ _ _ _ _ _ _ _ _ _ _ _ _ _ (fun hh => h (List.cons.inj hh).2))
   ·simp (maxSteps:=1000000) (disch:=first|assumption|omega|rfl) only [List.replicate_zero, eq_self, gd, ga, Nat.reduceAdd, ↓gq, List.append_nil, hea, heb]
    refine ⟨by kernel_rfl, ?_⟩
    simp (maxSteps:=1000000) (disch:=first|assumption|omega|rfl) only [↓gp, gc, Nat.reduceAdd]
    exact hR _ _ _ _ _ _ _ _ _ _ _ _ _ _ _ _ _ _ _ _ _ _ _ _ _ _ _ _ _ _ _ _ _ _ _ (fun hh => c2 (Prod.mk.inj (List.cons.inj hh).1).2)
  ·simp (maxSteps:=1000000) (disch:=first|assumption|omega|rfl) only [List.replicate_zero, eq_self, gd, ga, Nat.reduceAdd, ↓gq, List.append_nil, hea, heb]
   refine ⟨by kernel_rfl, ?_⟩
   simp (maxSteps:=1000000) (disch:=first|assumption|omega|rfl) only [↓gp, gc, Nat.reduceAdd]
   exact hR _ _ _ _ _ _ _ _ _ _ _ _ _ _ _ _ _ _ _ _ _ _ _ _ _ _ _ _ _ _ _ _ _ _ _ (fun hh => c1 (Prod.mk.inj (List.cons.inj hh).1).1)
theorem zmz (a b : List Node) (hal : a.length < 1000000) (hbl : b.length < 1000000) (hna : ∀ n ∈ a, n.names.length < 1000000) (hnb : ∀ n ∈ b, n.names.length < 1000000) : Ev cfg 34 [.sl (a.map zB), .sl (b.map zB)] (.ret (.d (.bool (decide (a = b))))) := by
 refine z1r rfl rfl zvn ?_
 show Wp cfg (Try.f34.body.getD .skip) ((.d (.sl (a.map zB))) :: (.d (.sl (b.map zB))) :: uZ (uZ (uZ ((.tup []) :: (.tup []) :: (.tup []) :: (.tup []) :: (.tup []) :: (.tup []) :: (.tup []) :: (.tup []) :: [])))) [] [] _
 unfold uZ
 conv => arg 2; whnf
 generalize hr : decide (a = b) = r
 by_cases c1 : a.map strip = b.map strip
 ·have hl : a.length = b.length := by have := congrArg List.length c1; rw [List.length_map, List.length_map] at this; exact this
  simp (maxSteps:=1000000) (disch:=first|assumption|omega|rfl) only [↓gp, gc, Nat.reduceAdd, ze0 hal hbl hna hnb, zxx, z19, Bool.not_true]
  refine zye a b hl hal _ _ _ _ a.length 0 _ _ _ _ _ _ _ _ _ _ _ _ _ _ _ _ _ _ _ _ _ _ _ _ _ _ _ _ _ _ _ _ _ _ rfl (by omega) ?_ ?_
  ·intro S i' g5 g6 g7 g8 g9 gP gF gD gG gH gC gA gB gK gE gL gI gJ gN gO gR gS gT gX gW gU gV gZ gY gi gf gg gh h
   simp (maxSteps:=1000000) (disch:=first|assumption|omega|rfl) only [↓gp, gc, Nat.reduceAdd]
   rw [← hr, decide_eq_true (show a = b from zcr.2 ⟨c1, h⟩)]
   exact qN rfl rfl rfl
  ·intro S i' g5 g6 g7 g8 g9 gP gF gD gG gH gC gA gB gK gE gL gI gJ gN gO gR gS gT gX gW gU gV gZ gY gi gf gg gh h
   simp (maxSteps:=1000000) (disch:=first|assumption|omega|rfl) only [↓gp, gc, Nat.reduceAdd]
   rw [← hr, decide_eq_false (fun hh : a = b => h (zcr.1 hh).2)]
   exact qN rfl rfl rfl
 ·simp (maxSteps:=1000000) (disch:=first|assumption|omega|rfl) only [↓gp, gc, Nat.reduceAdd, ze0 hal hbl hna hnb, zxx, z19, Bool.not_false]
  rw [← hr, decide_eq_false (fun hh : a = b => c1 (zcr.1 hh).1)]
  exact qN rfl rfl rfl
end Go.Proofs.Ytghllhghboaagaa
end
section
namespace Go.Proofs.Ytghllhghboaagaa
theorem zct {u : List Node} {d y i : Int} {s : List UInt8} (hu : Uniq u) (hd : (getN u d).kind = 2) : getN (putN u d s i) y = if y = d then { getN u d with names := putA s i false (getN u d).names } else getN u y := by
 unfold putN
 rw [qX hu]
 unfold upd
 have hi : ({ getN u d with names := putA s i false (getN u d).names } : Node).ino = d := jD hd
 rw [hi]
theorem zh6 {t : List Node} {s : List UInt8} (h : (zQ t s).2.2 = 0) : ∃ p, (zV s).2 = 0 ∧ (zV s).1 = p ++ [(zQ t s).2.1] ∧ goN t p 1 = ((zQ t s).1, 0) := by
 unfold zQ at h ⊢
 by_cases h1 : (zV s).2 ≠ 0
 ·rw [if_pos h1] at h; exact absurd h h1
 rw [if_neg h1] at h ⊢
 by_cases h2 : (zV s).1.length = 0
 ·rw [if_pos h2] at h; exact absurd (show (15 : Int) = 0 from h) (by decide)
 rw [if_neg h2] at h ⊢
 by_cases h3 : (goN t ((zV s).1.take ((zV s).1.length - 1)) 1).2 ≠ 0
 ·rw [if_pos h3] at h; exact absurd h h3
 rw [if_neg h3] at h ⊢
 by_cases h4 : (getN t (goN t ((zV s).1.take ((zV s).1.length - 1)) 1).1).kind ≠ 2
 ·rw [if_pos h4] at h; exact absurd (show (6 : Int) = 0 from h) (by decide)
 rw [if_neg h4]
 refine ⟨(zV s).1.take ((zV s).1.length - 1), by simpa using h1, ?_, ?_⟩
 ·have hlt : (zV s).1.length - 1 < (zV s).1.length := by omega
  have := List.take_succ_eq_append_getElem hlt
  rw [show (zV s).1.length - 1 + 1 = (zV s).1.length by omega, List.take_length] at this
  show (zV s).1 = _ ++ [(zV s).1.getD ((zV s).1.length - 1) []]
  rw [List.getD_eq_getElem?_getD, List.getElem?_eq_getElem hlt]
  exact this
 ·show _ = ((goN t ((zV s).1.take ((zV s).1.length - 1)) 1).1, (0 : Int))
  have : (goN t ((zV s).1.take ((zV s).1.length - 1)) 1).2 = 0 := by simpa using h3
  rw [← this]
end Go.Proofs.Ytghllhghboaagaa
end
section
namespace Go.Proofs.Ytghllhghboaagaa
open Go.Vm
section
variable {ops : Array Oper} {dst : Option Tmp} {k : List Oper} {T : List V} {S : zA} {F : Dfs} {Q : Post}
end
end Go.Proofs.Ytghllhghboaagaa
end
section
namespace Go.Proofs.Ytghllhghboaagaa
structure RN (n : Node) : Prop where
 k : n.kind = 0 ∨ n.kind = 1 ∨ n.kind = 2
 f : n.kind = 1 → n.parent = 0
 d : n.kind = 2 → n.size = 0 ∧ n.data = []
 nm : ∀ e ∈ n.names, z20 e.name = true
 l : n.kind ≠ 0 → 1 ≤ n.links
 r : n.kind ≠ 0 → n.ino = 1 → n.parent = 1
def RInv (t : List Node) : Prop := ∀ n ∈ t, RN n
theorem RN.zero : RN zM := ⟨.inl rfl, fun h => absurd h (by decide), fun h => absurd h (by decide), fun e he => (by cases he), fun h => absurd rfl h, fun h => absurd rfl h⟩
theorem RInv.get {t : List Node} (h : RInv t) (x : Int) : RN (getN t x) := by
 rcases jH t x with ⟨h1, _⟩ | ⟨h1, _⟩
 ·rw [h1]; exact RN.zero
 ·exact h _ h1
theorem RInv.with {t : List Node} {n : Node} (h : RInv t) (hn : RN n) : RInv (qY t n) := fun m hm => by
 rcases wI.1 hm with rfl | ⟨h1, _⟩
 ·exact hn
 ·exact h m h1
theorem RInv.drop {t : List Node} {d : Int} {s : List UInt8} (h : RInv t) : RInv (zU t d s) := by
 have hg := h.get d
 exact h.with ⟨hg.k, hg.f, hg.d, fun e he => hg.nm e (List.mem_filter.1 he).1, hg.l, hg.r⟩
theorem RInv.put {t : List Node} {d i : Int} {s : List UInt8} (h : RInv t) (hs : z20 s = true) : RInv (putN t d s i) := by
 have hg := h.get d
 refine h.with ⟨hg.k, hg.f, hg.d, fun e he => ?_, hg.l, hg.r⟩
 rcases mem_putA.1 he with ⟨_, rfl⟩ | he
 ·exact hs
 ·exact hg.nm e he
theorem RInv.loses {t : List Node} {i : Int} (h : RInv t) : RInv (kO t i) := by
 unfold kO
 split
 ·exact fun n hn => h n (List.mem_filter.1 hn).1
 ·rename_i hl
  have hg := h.get i
  exact h.with ⟨hg.k, hg.f, hg.d, hg.nm, fun _ => (by show 1 ≤ (getN t i).links - 1; omega), hg.r⟩
theorem z53 {t : List Node} {s : List UInt8} (h : (zQ t s).2.2 = 0) : z20 (zQ t s).2.1 = true := by
 obtain ⟨p, h1, h2, _⟩ := zh6 h
 exact zbk s _ (by rw [h2]; simp)
theorem RInv.new : RInv newN := fun n hn => by
 simp only [newN, List.mem_singleton] at hn
 subst hn
 exact ⟨.inr (.inr rfl), fun h => absurd h (by decide), fun _ => ⟨rfl, rfl⟩, fun e he => (by cases he), fun _ => (by decide), fun _ _ => rfl⟩
theorem RInv.rename {t : List Node} {n : Nat} {o : Opn} (h0 : RInv t) (hA : At n t) : RInv (wY t o).1 := by
 have hG := hA.g
 have h := hG.lj
 have hT := hG.ti
 unfold wY
 split
 ·exact h0
 rename_i c1
 split
 ·exact h0
 rename_i c2
 split
 ·exact h0
 rename_i c3
 have hf := jM (t := t) (s := o.a) (by simpa using c1)
 have hd := jM (t := t) (s := o.b) (by simpa using c3)
 have hri := z53 (t := t) (s := o.b) (by simpa using c3)
 generalize zQ t o.a = w at *
 generalize zQ t o.b = v at *
 obtain ⟨f, old, _⟩ := w
 obtain ⟨d, s, _⟩ := v
 simp only at *
 obtain ⟨e0, he0, hs0, hi0⟩ := wW (l := (getN t f).names) (s := old) (by omega)
 have hge : 2 ≤ qV (getN t f).names old := by rw [← hi0]; exact hT.inv.ge2 _ e0 he0
 generalize hino : qV (getN t f).names old = ino at *
 generalize hwas : qV (getN t d).names s = was at *
 unfold z3e
 split
 ·exact h0
 rename_i c4
 split
 ·exact h0
 split
 ·exact h0
 rename_i c6
 split
 ·exact h0
 rename_i c7
 have hkw : (getN t was).kind ≠ 2 := by
  by_cases hw : 0 ≤ was
  ·exact fun hh => c7 ⟨hw, hh⟩
  ·intro hh
   have := hT.inv.pos was hh
   omega
 show RInv (renamed t f old d s ino was (getN t ino).kind)
 have main : ∀ w : List Node, RInv w → Uniq w → (getN w f).kind = 2 → (getN w d).kind = 2 → ((getN t ino).kind = 2 → (getN w ino).kind = 2) → RInv (if (getN t ino).kind = 2 then qY (putN (zU w f old) d s ino) (moved (getN (putN (zU w f old) d s ino) ino) d) else putN (zU w f old) d s ino) := fun w hw hu kf kd ki => by
  have h2 : RInv (putN (zU w f old) d s ino) := hw.drop.put hri
  split
  ·rename_i hk
   have kdD : (getN (zU w f old) d).kind = 2 := by rw [(qR hu kf).1]; exact kd
   have huD : Uniq (zU w f old) := vS hu
   have e : (getN (putN (zU w f old) d s ino) ino).kind = 2 := by
    rw [zct huD kdD]
    split
    ·exact kdD
    ·rw [(qR hu kf).1]; exact ki hk
   have hg := h2.get ino
   refine h2.with ⟨hg.k, fun hh => absurd (hh.symm.trans e) (by decide), hg.d, hg.nm, hg.l, fun _ hh => ?_⟩
   have := z0e (t := putN (zU w f old) d s ino) (x := ino) (by rw [e]; decide)
   have hh : (getN (putN (zU w f old) d s ino) ino).ino = 1 := hh
   omega
  ·exact h2
 unfold renamed
 by_cases hw : 0 ≤ was
 ·simp only [if_pos hw]
  have hM := zhz (k := 1 + 5 * n) (f := f) (d := d) (old := old) (s := s) (ino := ino) h hT hG.sm hf hd e0 he0 hs0 hi0 (by rw [hwas]; exact c4) (by rw [hwas]; exact hw) (by rw [hwas]; exact hkw)
  rw [hwas] at hM
  have hDu : Uniq (zU t d s) := vS h.srt.uniq
  refine main _ h0.drop.loses hM.lj.srt.uniq hM.kf hM.kd fun hk => ?_
  rw [z04 hDu (fun hh => c4 hh.symm), (qR h.srt.uniq hd).1]
  exact hk
 ·simp only [if_neg hw]
  exact main t h0 h.srt.uniq hf hd fun hk => hk
theorem RInv.step {t : List Node} {n : Nat} {o : Opn} (h : RInv t) (hA : At n t) : RInv (jL t o).1 := by
 have hnx := (z0g t).2
 have mk : RInv (z3j t o).1 := by
  unfold z3j
  split
  ·exact h
  rename_i c1
  split
  ·exact h
  refine RInv.put (h.with ?_) (z53 (by simpa using c1))
  unfold qM
  split
  ·exact ⟨.inr (.inr rfl), fun h => absurd (show (2 : Int) = 1 from h) (by decide), fun _ => ⟨rfl, rfl⟩, fun e he => (by cases he), fun _ => Int.le_refl 1, fun _ hh => absurd (show jE t = 1 from hh) (by omega)⟩
  ·exact ⟨.inr (.inl rfl), fun _ => rfl, fun h => absurd (show (1 : Int) = 2 from h) (by decide), fun e he => (by cases he), fun _ => Int.le_refl 1, fun _ hh => absurd (show jE t = 1 from hh) (by omega)⟩
 have lk : RInv (z3v t o).1 := by
  unfold z3v
  split
  ·exact h
  split
  ·exact h
  split
  ·exact h
  rename_i c3
  split
  ·exact h
  have hg := h.get (zN t o.a).1
  exact RInv.put (h.with ⟨hg.k, hg.f, hg.d, hg.nm, fun hk => (by have := hg.l hk; show 1 ≤ (getN t (zN t o.a).1).links + 1; omega), hg.r⟩) (z53 (by simpa using c3))
 have rm : RInv (vF t o).1 := by
  unfold vF
  repeat' split
  all_goals first | exact h | exact h.drop.loses
 have rn : RInv (wY t o).1 := h.rename hA
 have bt : RInv (vG t o).1 := by
  unfold vG
  split
  ·exact h
  have hg := h.get (zN t o.a).1
  generalize getN t (zN t o.a).1 = m at *
  unfold z4v
  split
  ·exact h
  rename_i hk
  repeat' split
  all_goals first | exact h | exact h.with ⟨hg.k, hg.f, fun hh => absurd hh hk, hg.nm, hg.l, hg.r⟩
 unfold jL
 split
 ·exact h
 split
 ·exact mk
 split
 ·exact lk
 split
 ·exact rm
 split
 ·exact rn
 split
 ·exact bt
 split
 ·exact h
 ·exact h
end Go.Proofs.Ytghllhghboaagaa
end
section
namespace Go.Proofs.Ytghllhghboaagaa
open Go.Vm
def getI : List (Int × Int) → Int → Int
 | [], _ => 0
 | p :: r, k => if k = p.1 then p.2 else getI r k
def updI : List (Int × Int) → Int → Int → List (Int × Int)
 | [], k, v => [(k, v)]
 | p :: r, k, v => if k = p.1 then (k, v) :: r else p :: updI r k v
theorem zi8 {M : List (Int × Int)} {k v x : Int} : getI (updI M k v) x = if x = k then v else getI M x := by
 induction M with
 | nil => simp only [updI, getI]
 | cons p r ih =>
  simp only [updI]
  by_cases h : k = p.1
  ·rw [if_pos h]
   simp only [getI]
   by_cases hx : x = k
   ·rw [if_pos hx, if_pos hx]
   ·rw [if_neg hx, if_neg hx, if_neg (by rw [← h]; exact hx)]
  ·rw [if_neg h]
   simp only [getI]
   by_cases hx : x = p.1
   ·rw [if_pos hx, if_pos hx, if_neg (by rw [hx]; exact fun hh => h hh.symm)]
   ·rw [if_neg hx, if_neg hx, ih]
def t1 (M : List (Int × Int)) (l : List Ent) : List (Int × Int) := l.foldl (fun M e => updI M e.ino (getI M e.ino + 1)) M
def t2 (d : Int) (M : List (Int × Int)) (l : List Ent) : List (Int × Int) := l.foldl (fun M e => updI M e.ino d) M
def tM1 (M : List (Int × Int)) (t : List Node) : List (Int × Int) := t.foldl (fun M n => t1 M n.names) M
theorem zvd {l : List Ent} {x : Int} : ∀ {M : List (Int × Int)}, getI (t1 M l) x = getI M x + cp l x := by
 induction l with
 | nil => intro M; simp [t1, znh]
 | cons e r ih =>
  intro M
  show getI (t1 (updI M e.ino (getI M e.ino + 1)) r) x = _
  rw [ih, zi8, z76]
  by_cases h : x = e.ino
  ·rw [if_pos h, if_pos h.symm, h]; omega
  ·rw [if_neg h, if_neg (fun hh => h hh.symm)]; omega
theorem zqo {t : List Node} {x : Int} : ∀ {M : List (Int × Int)}, getI (tM1 M t) x = getI M x + cnt t x := by
 induction t with
 | nil => intro M; simp [tM1, zhr]
 | cons n r ih =>
  intro M
  show getI (tM1 (t1 M n.names) r) x = _
  rw [ih, zvd, z0q]
  omega
def MapI (S : zA) (i : Nat) (M : List (Int × Int)) : Prop := ∃ es c, S[i]? = some (.mp es c) ∧ es.map (fun e => (e.1, e.2.1)) = M.map fun p => (D.int .i64 p.1, V.d (.int .i64 p.2))
theorem MapI.keep {S S' : zA} {i : Nat} {M : List (Int × Int)} (h : MapI S i M) (hk : S'[i]? = S[i]?) : MapI S' i M := by
 obtain ⟨es, c, h1, h2⟩ := h
 exact ⟨es, c, by rw [hk]; exact h1, h2⟩
theorem MapI.app {S l : zA} {i : Nat} {M : List (Int × Int)} (h : MapI S i M) : MapI (S ++ l) i M := by
 obtain ⟨es, c, h1, h2⟩ := h
 exact ⟨es, c, qA h1, h2⟩
theorem zkd {M : List (Int × Int)} {k : Int} : ∀ {i : Nat}, (findD Try.prog 3 (.d (.int .i64 k)) (M.map fun p => (D.int .i64 p.1, V.d (.int .i64 p.2))) i = some none ∧ getI M k = 0) ∨ ∃ j, findD Try.prog 3 (.d (.int .i64 k)) (M.map fun p => (D.int .i64 p.1, V.d (.int .i64 p.2))) i = some (some (j, .d (.int .i64 (getI M k)))) := by
 induction M with
 | nil => exact fun {i} => .inl ⟨rfl, rfl⟩
 | cons p r ih =>
  intro i
  by_cases h : k = p.1
  ·refine .inr ⟨i, ?_⟩
   simp only [List.map_cons, findD, eqI, getI, if_pos h]
   rw [h, beq_self_eq_true]
  ·have h1 : (k == p.1) = false := by rw [beq_eq_false_iff_ne]; exact h
   simp only [List.map_cons, findD, eqI, h1, getI, if_neg h]
   exact ih
theorem zuf {S : zA} {v : V} {M : List (Int × Int)} {k : Int} (h : jZ S v = some (M.map fun p => (D.int .i64 p.1, V.d (.int .i64 p.2)))) : jR Try.prog S 92 v (.d (.int .i64 k)) false = some (.d (.int .i64 (getI M k))) := by
 rcases zkd (M := M) (k := k) (i := 0) with ⟨h2, h3⟩ | ⟨j, h2⟩
 ·simp only [jR, Try.underlying92, keyI, if_true, h, z3, h2, h3, Bool.false_eq_true, if_false]
 ·simp only [jR, Try.underlying92, keyI, if_true, h, z3, h2, Bool.false_eq_true, if_false]
theorem zxp {S : zA} {i : Nat} {M : List (Int × Int)} {k : Int} (h : MapI S i M) : jR Try.prog S 92 (.mr i) (.d (.int .i64 k)) false = some (.d (.int .i64 (getI M k))) := by
 obtain ⟨es, c, h1, h2⟩ := h
 refine zuf ?_
 simp only [jZ, h1, h2]
theorem zlb {k v : Int} : ∀ {M : List (Int × Int)} {es : List (D × V × Nat)} {i : Nat}, es.map (fun e => (e.1, e.2.1)) = M.map (fun p => (D.int .i64 p.1, V.d (.int .i64 p.2))) →
  (findD Try.prog 3 (.d (.int .i64 k)) es i = some none ∧ updI M k v = M ++ [(k, v)]) ∨ ∃ j u e, findD Try.prog 3 (.d (.int .i64 k)) es i = some (some (i + j, u)) ∧ es[j]? = some e ∧ e.1 = .int .i64 k ∧ ∀ c : Nat, (es.set j (.int .i64 k, .d (.int .i64 v), c)).map (fun e => (e.1, e.2.1)) = (updI M k v).map fun p => (D.int .i64 p.1, V.d (.int .i64 p.2))
 | [], [], i, _ => .inl ⟨rfl, rfl⟩
 | [], _ :: _, _, h => by cases h
 | _ :: _, [], _, h => by cases h
 | p :: r, e :: es, i, h => by
  rw [List.map_cons, List.map_cons] at h
  obtain ⟨h1, h2⟩ := List.cons.inj h
  obtain ⟨h3, h4⟩ := Prod.mk.inj h1
  have h3 : e.1 = .int .i64 p.1 := h3
  by_cases hk : k = p.1
  ·refine .inr ⟨0, e.2, e, ?_, rfl, by rw [h3, hk], fun c => ?_⟩
   ·simp only [findD, h3, eqI]
    rw [hk, beq_self_eq_true]
    rfl
   ·simp only [updI, if_pos hk, List.set_cons_zero, List.map_cons, h2]
  ·have h5 : (k == p.1) = false := by rw [beq_eq_false_iff_ne]; exact hk
   rcases zlb (k := k) (v := v) (i := i + 1) h2 with ⟨h6, h7⟩ | ⟨j, u, e', h6, h7, h8, h9⟩
   ·refine .inl ⟨?_, ?_⟩
    ·simp only [findD, h3, eqI, h5]; exact h6
    ·simp only [updI, if_neg hk, h7, List.cons_append]
   ·refine .inr ⟨j + 1, u, e', ?_, h7, h8, fun c => ?_⟩
    ·simp only [findD, h3, eqI, h5]; rw [h6]; congr 3; omega
    ·simp only [updI, if_neg hk, List.set_cons_succ, List.map_cons, h9, h1]
theorem q1h {S : zA} {i : Nat} {M : List (Int × Int)} {k v : Int} (h : MapI S i M) : ∃ S', qS Try.prog S 92 (.mr i) (.d (.int .i64 k)) (.d (.int .i64 v)) = some S' ∧ MapI S' i (updI M k v) ∧ ∀ j, j ≠ i → S'[j]? = S[j]? := by
 obtain ⟨es, c, h1, h2⟩ := h
 have hil : i < S.length := zZ h1
 have ha : asD (.d (.int .i64 k)) = some (.int .i64 k) := rfl
 have ho : V.one (.d (.int .i64 v)) = true := rfl
 rcases zlb (k := k) (v := v) (i := 0) h2 with ⟨h6, h7⟩ | ⟨j, u, e', h6, h7, h8, h9⟩
 ·refine ⟨_, by simp only [qS, Try.underlying92, keyI, ho, Bool.and_self, if_true, ha, h1, h6]; rfl, ⟨_, _, List.getElem?_set_self hil, ?_⟩, fun j hj => List.getElem?_set_ne (fun hh => hj hh.symm)⟩
  rw [h7, List.map_append, List.map_append, h2]
  rfl
 ·rw [Nat.zero_add] at h6
  have hs : z8g e'.1 (.int .i64 k) = true := by rw [h8]; simp [z8g, z3d, jY]
  refine ⟨_, by simp only [qS, Try.underlying92, keyI, ho, Bool.and_self, if_true, ha, h1, h6, h7, hs]; rfl, ⟨_, _, List.getElem?_set_self hil, h9 _⟩, fun j hj => List.getElem?_set_ne (fun hh => hj hh.symm)⟩
theorem zs9 (t : List Node) (ino : Int) (k0 : Nat) (hk0 : k0 < 300000) (hS : Small k0 t) (R : Post) (z : V) (hz : z = .agg [.d (.int .i64 0), .d (.int .i64 0), .d (.int .i64 0), .d (.int .i64 0), .d (.int .i64 0), .ts [], .ts []]) (g2 g3 g6 : V) : ∀ (k i : Nat) (S : zA) (v7 gQ gM gF gD gG gH gC gA gB gK gE gL gI gJ gN gO gR gS gT gX : V), t.length - i = k → i ≤ t.length → S[0]? = some (.row [z] 32) →
 (∀ S v7 i' gQ gM gF gD gG gH gC gA gB gK gE gL gI gJ gN gO gR gS gT gX, (t.drop i).find? (fun n => decide (n.ino = ino)) = none → S[0]? = some (.row [z] 32) → R (.exit 0) ((.d (.sl (t.map zB))) :: (.d (.int .i64 ino)) :: g2 :: g3 :: (.ref 0 0 0) :: (.d (.bool false)) :: g6 :: v7 :: (.d (.sl (t.map zB))) :: (.d (.int .i64 t.length)) :: i' :: gQ :: gM :: gF :: gD :: gG :: gH :: gC :: gA :: gB :: gK :: gE :: gL :: gI :: gJ :: gN :: gO :: gR :: gS :: gT :: gX :: []) S []) →
 (∀ S v7 i' n v1 v2 gQ gM gF gD gG gH gC gA gB gK gE gL gI gJ gN gO gR gS gT gX, (t.drop i).find? (fun n => decide (n.ino = ino)) = some n → S[0]? = some (.row [zD n v1 v2] 32) → OwnS S v1 5 (n.data.map fun b => .d (.int .u8 b.toNat)) → OwnS S v2 88 (n.names.map fun x => .d (zJ x)) → R .ret ((.d (.sl (t.map zB))) :: (.d (.int .i64 ino)) :: g2 :: g3 :: (.ref 0 0 0) :: (.d (.bool true)) :: g6 :: v7 :: (.d (.sl (t.map zB))) :: (.d (.int .i64 t.length)) :: i' :: gQ :: gM :: gF :: gD :: gG :: gH :: gC :: gA :: gB :: gK :: gE :: gL :: gI :: gJ :: gN :: gO :: gR :: gS :: gT :: gX :: []) S []) →
 Wp cfg (.loop (lpOf (Try.f15.body.getD .skip) 0)) ((.d (.sl (t.map zB))) :: (.d (.int .i64 ino)) :: g2 :: g3 :: (.ref 0 0 0) :: (.d (.bool false)) :: g6 :: v7 :: (.d (.sl (t.map zB))) :: (.d (.int .i64 t.length)) :: (.d (.int .i64 i)) :: gQ :: gM :: gF :: gD :: gG :: gH :: gC :: gA :: gB :: gK :: gE :: gL :: gI :: gJ :: gN :: gO :: gR :: gS :: gT :: gX :: []) S [] R := by
 subst hz
 have hlt0 : t.length < 400000 := Nat.lt_of_le_of_lt hS.len (by omega)
 intro k
 induction k with
 | zero =>
  intro i S v7 gQ gM gF gD gG gH gC gA gB gK gE gL gI gJ gN gO gR gS gT gX hk hi hb hE hR
  have hie : i = t.length := by omega
  rw [qQ]
  refine qC ?_
  conv => arg 2; whnf
  simp (maxSteps:=1000000) (disch:=first|assumption|omega|rfl) only [↓gp, gc, Nat.reduceAdd]
  exact hE _ _ _ _ _ _ _ _ _ _ _ _ _ _ _ _ _ _ _ _ _ _ _ (by rw [hie, List.drop_length]; rfl) hb
 | succ k ih =>
  intro i S v7 gQ gM gF gD gG gH gC gA gB gK gE gL gI gJ gN gO gR gS gT gX hk hi hb hE hR
  have hlt : i < t.length := by omega
  have hdr : t.drop i = t[i] :: t.drop (i + 1) := List.drop_eq_getElem_cons hlt
  rw [hdr, List.find?_cons] at hE hR
  have hmem := List.getElem_mem hlt
  have h0 : 0 < S.length := zZ hb
  have hb1 : ∀ x : Ob, (S ++ [x])[0]? = some (.row [.agg [.d (.int .i64 0), .d (.int .i64 0), .d (.int .i64 0), .d (.int .i64 0), .d (.int .i64 0), .ts [], .ts []]] 32) := fun x => by rw [List.getElem?_append_left h0]; exact hb
  rw [qQ]
  refine qC ?_
  conv => arg 2; whnf
  by_cases hc : t[i].ino = ino
  ·simp only [hc, decide_true] at hR
   have hd := hS.siz _ hmem
   have hn := hS.nms _ hmem
   generalize hN : t[i] = n at *
   obtain ⟨v1, S1, c1, ha1, ho1, hf1, hl1⟩ := apB (S := S ++ [.row [.d (zB n)] 32]) (l := n.data) (by omega)
   have hbS : (S ++ [.row [.d (zB n)] 32])[S.length]? = some (.row [.d (zB n)] 32) := by simp
   have hb2 : S1[S.length]? = some (.row [.d (zB n)] 32) := (hf1 S.length _ hbS).1
   have hr2 := zC hb2
   have hst1 := zr1 (a := n) (v := v1) (z5y ho1 (by kernel_rfl) (by kernel_rfl)) (z3h ho1)
   have hpr1 := fun y => qG (y := y) hb2
   have hb3 : ∀ y : V, (S1.set S.length (.row [y] 32))[S.length]? = some (.row [y] 32) := fun y => kD hb2
   have hr3 : ∀ y, rowE (S1.set S.length (.row [y] 32)) S.length 0 = some y := fun y => zC (hb3 y)
   obtain ⟨v2, S2, c2, ha2, ho2, hf2, hl2⟩ := apE (S := S1.set S.length (.row [zD n v1 (.d (.sl (n.names.map zJ)))] 32)) (l := n.names) (by omega)
   have hb4 : S2[S.length]? = some (.row [zD n v1 (.d (.sl (n.names.map zJ)))] 32) := (hf2 S.length _ (hb3 _)).1
   have hr4 := zC hb4
   have hst2 := fun (x0 x1 x2 x3 x4 x5 x6 : V) => zhb (x0 := x0) (x1 := x1) (x2 := x2) (x3 := x3) (x4 := x4) (x5 := x5) (x6 := x6) (v := v2) (z5y ho2 (by kernel_rfl) (by kernel_rfl)) (z3h ho2)
   have hpr2 := fun y => qG (y := y) hb4
   have hr5 : ∀ y, rowE (S2.set S.length (.row [y] 32)) S.length 0 = some y := fun y => zC (kD hb4)
   have k0' : ∀ o, (S ++ [.row [.d (zB n)] 32])[0]? = some o → o = .row [.agg [.d (.int .i64 0), .d (.int .i64 0), .d (.int .i64 0), .d (.int .i64 0), .d (.int .i64 0), .ts [], .ts []]] 32 := fun o ho => by rw [hb1] at ho; exact (Option.some.inj ho).symm
   have hz1 : S1[0]? = some (.row [.agg [.d (.int .i64 0), .d (.int .i64 0), .d (.int .i64 0), .d (.int .i64 0), .d (.int .i64 0), .ts [], .ts []]] 32) := (hf1 0 _ (hb1 _)).1
   have hne : S.length ≠ 0 := by omega
   have hz2 : (S1.set S.length (.row [zD n v1 (.d (.sl (n.names.map zJ)))] 32))[0]? = some (.row [.agg [.d (.int .i64 0), .d (.int .i64 0), .d (.int .i64 0), .d (.int .i64 0), .d (.int .i64 0), .ts [], .ts []]] 32) := by rw [List.getElem?_set_ne hne]; exact hz1
   have hz3 : S2[0]? = some (.row [.agg [.d (.int .i64 0), .d (.int .i64 0), .d (.int .i64 0), .d (.int .i64 0), .d (.int .i64 0), .ts [], .ts []]] 32) := (hf2 0 _ hz2).1
   have hz4 : ∀ y, (S2.set S.length (.row [y] 32))[0]? = some (.row [.agg [.d (.int .i64 0), .d (.int .i64 0), .d (.int .i64 0), .d (.int .i64 0), .d (.int .i64 0), .ts [], .ts []]] 32) := fun y => by rw [List.getElem?_set_ne hne]; exact hz3
   have hr6 : ∀ y, rowE (S2.set S.length (.row [y] 32)) 0 0 = some (.agg [.d (.int .i64 0), .d (.int .i64 0), .d (.int .i64 0), .d (.int .i64 0), .d (.int .i64 0), .ts [], .ts []]) := fun y => zC (hz4 y)
   have hpr3 := fun y x => qG (y := y) (hz4 x)
   unfold zD at ha2 hr4 hpr2
   simp (maxSteps:=1000000) (disch:=first|assumption|omega|rfl) only [↓gp, gc, Nat.reduceAdd, ↓vbs, hN, zL, zI, zfw, zr5, ha1, hr2, hst1, hpr1, hr3, ha2, hr4, hst2, hpr2, hr5, hr6, hpr3]
   exact hR _ _ _ n v1 v2 _ _ _ _ _ _ _ _ _ _ _ _ _ _ _ _ _ _ _ _ rfl (kD (hz4 _))
    (vM (vM (z1u (vM ho1 (hf1 S.length _ hbS).2) (fun j o hj => (hf2 j o hj).1)) (hf1 S.length _ hbS).2) (hf1 0 _ (hb1 _)).2)
    (vM (vM ho2 (hf2 S.length _ (hb3 _)).2) (hf2 0 _ hz2).2)
  ·simp only [hc, decide_false] at hE hR
   simp (maxSteps:=1000000) (disch:=first|assumption|omega|rfl) only [↓gp, gc, Nat.reduceAdd, zL, zI]
   exact ih (i + 1) _ _ _ _ _ _ _ _ _ _ _ _ _ _ _ _ _ _ _ _ _ _ (by omega) (by omega) (hb1 _) hE hR
theorem zqk (t : List Node) (ino : Int) (k0 : Nat) (hk0 : k0 < 300000) (hS : Small k0 t) : Ev cfg 15 [.sl (t.map zB), .int .i64 ino] (.ret (.tup [.d (zB (getN t ino)), .d (.bool (hasN t ino))])) := by
 refine z1r rfl rfl zzq ?_
 show Wp cfg (Try.f15.body.getD .skip) ((.d (.sl (t.map zB))) :: (.d (.int .i64 ino)) :: uZ (uZ ((.tup []) :: (.tup []) :: (.tup []) :: (.tup []) :: (.tup []) :: (.tup []) :: (.tup []) :: (.tup []) :: (.tup []) :: []))) [] [] _
 unfold uZ
 conv => arg 2; whnf
 simp (maxSteps:=1000000) (disch:=first|assumption|omega|rfl) only [↓gp, gc, Nat.reduceAdd]
 refine zs9 t ino k0 hk0 hS _ _ rfl _ _ _ t.length 0 _ _ _ _ _ _ _ _ _ _ _ _ _ _ _ _ _ _ _ _ _ _ rfl (by omega) rfl ?_ ?_
 ·intro S v7 i' gQ gM gF gD gG gH gC gA gB gK gE gL gI gJ gN gO gR gS gT gX h hb
  rw [List.drop_zero] at h
  have hr := zC hb
  have hpr := fun y => qG (y := y) hb
  simp (maxSteps:=1000000) (disch:=first|assumption|omega|rfl) only [↓gp, gc, Nat.reduceAdd, zvy, hr, hpr]
  simp only [getN, hasN, h, Option.getD_none, Option.isSome_none]
  have hld : jP Try.prog (S.set 0 (.row [.agg [.d (.int .i64 0), .d (.int .i64 0), .d (.int .i64 0), .d (.int .i64 0), .d (.int .i64 0), .ts [], .ts []]] 32)) 32 (.ref 0 0 0) = some (.agg [.d (.int .i64 0), .d (.int .i64 0), .d (.int .i64 0), .d (.int .i64 0), .d (.int .i64 0), .ts [], .ts []]) := by rw [jN (zC (kD hb))]; kernel_rfl
  exact zme rfl rfl hld rfl rfl rfl rfl
 ·intro S v7 i' n v1 v2 gQ gM gF gD gG gH gC gA gB gK gE gL gI gJ gN gO gR gS gT gX h hb h1 h2
  rw [List.drop_zero] at h
  simp (maxSteps:=1000000) (disch:=first|assumption|omega|rfl) only [↓gp, gc, Nat.reduceAdd]
  simp only [getN, hasN, h, Option.getD_some, Option.isSome_some]
  have hld : jP Try.prog S 32 (.ref 0 0 0) = some (zD n v1 v2) := by rw [jN (zC hb)]; kernel_rfl
  exact zme rfl rfl hld rfl rfl rfl (zas (k := 9) h1 h2)

end Go.Proofs.Ytghllhghboaagaa
end
section
namespace Go.Proofs.Ytghllhghboaagaa
theorem q2p {l : List Ent} {x : Int} (h : cp l x ≠ 0) : ∃ e ∈ l, e.ino = x := by
 obtain ⟨e, h1, h2⟩ := List.countP_pos_iff.1 (Nat.pos_of_ne_zero h)
 exact ⟨e, h1, by simpa using h2⟩
theorem zro {x : Int} : ∀ {t : List Node}, cnt t x ≠ 0 → ∃ n ∈ t, cp n.names x ≠ 0
 | [], h => absurd (zhr x) h
 | n :: r, h => by
  by_cases hc : cp n.names x = 0
  ·rw [z0q, hc, Nat.zero_add] at h
   obtain ⟨m, h1, h2⟩ := zro h
   exact ⟨m, by simp [h1], h2⟩
  ·exact ⟨n, by simp, hc⟩
structure Good2 (k : Nat) (t : List Node) : Prop where
 a : At k t
 r : RInv t
theorem Good2.new : Good2 0 newN := ⟨At.new, RInv.new⟩
theorem Good2.step {k : Nat} {t : List Node} {o : Opn} (h : Good2 k t) (hk : k ≤ 23) : Good2 (k + 1) (jL t o).1 := ⟨h.a.step hk, h.r.step h.a⟩
section
variable {k : Nat} {t : List Node}
theorem Good2.kind {n : Node} (h : Good2 k t) (hn : n ∈ t) : n.kind = 1 ∨ n.kind = 2 := by
 have := h.a.g.lj.knd n hn
 rcases (h.r n hn).k with h1 | h1 | h1
 ·exact absurd h1 this
 ·exact .inl h1
 ·exact .inr h1
theorem Good2.self {n : Node} (h : Good2 k t) (hn : n ∈ t) : getN t n.ino = n := z4j h.a.g.lj.srt.uniq hn
theorem Good2.lnk {n : Node} (h : Good2 k t) (hn : n ∈ t) (h1 : n.ino ≠ 1) : n.links = cnt t n.ino := by
 have := h.a.g.lj.lnk n.ino (by rw [h.self hn]; exact h.a.g.lj.knd n hn) h1
 rw [h.self hn] at this
 omega
theorem Good2.root (h : Good2 k t) : getI (tM1 [] t) 1 = 0 := by
 rw [zqo]
 have : cnt t 1 = 0 := Classical.byContradiction fun hh => by
  obtain ⟨m, hm, hc⟩ := zro hh
  obtain ⟨e, he, hi⟩ := q2p hc
  have := h.a.g.ti.inv.ge2 m.ino e (by rw [h.self hm]; exact he)
  omega
 rw [this]
 rfl
end
end Go.Proofs.Ytghllhghboaagaa
end
section
namespace Go.Proofs.Ytghllhghboaagaa
open Go.Vm


theorem zrh {t : List Node} (h : Srt t) {i j : Nat} (hij : i < j) (hj : j < t.length) : (t[i]'(by omega)).ino < t[j].ino := by
 have := List.pairwise_iff_getElem.1 h i j (by rw [List.length_map]; omega) (by rw [List.length_map]; omega) hij
 simpa using this
section
variable {ops : Array Oper} {dst : Option Tmp} {k : List Oper} {T : List V} {S : zA} {F : Dfs} {Q : Post}
end
section
variable {ops : Array Oper} {dst : Option Tmp} {k : List Oper} {T : List V} {S : zA} {F : Dfs} {Q : Post}
end
end Go.Proofs.Ytghllhghboaagaa
end
section
namespace Go.Vm
section
variable {P : Program} {S : zA} {ρ : Nat → Nat} {A : Nat → Prop} {w w' : World}
def z9u (S : zA) : V → Option (List Rs)
 | .it id => match S[id]? with
  | some (.mit mid since seen last) => match S[mid]? with
   | some (.mp es clock) =>
    if (!seen.isEmpty && !es.isEmpty && es.all fun e => decide (e.2.2 ≥ last)) = true then none
    else if ((es.filter fun e => !seen.contains e.2.2).all fun e => decide (e.2.2 < since)) = true then
     match es.filter fun e => !seen.contains e.2.2 with
     | [] => some [.val (.tup [.d (.bool false)]) S 3]
     | l => some (l.map fun e => .val (.tup [.d (.bool true), .d e.1, e.2.1]) (S.set id (.mit mid since (seen ++ [e.2.2]) clock)) 3)
    else none
   | _ => none
  | _ => none
 | _ => none
theorem zj0 : ∀ {es : List (D × V × Nat)} {en : List MapEntry}, jW P S ρ A w es en → en.length = es.length ∧ ∀ (k : Nat) (m : MapEntry), en[k]? = some m → ∃ e, es[k]? = some e ∧ RepX A w e.1 m.key ∧ RepW P S ρ A w e.2.1 m.val ∧ m.born = e.2.2
 | [], en, h => by simp only [jW] at h; subst h; exact ⟨rfl, fun k m hm => by simp at hm⟩
 | e :: r, en, h => by
  simp only [jW] at h
  obtain ⟨m, ms, rfl, h1, h2, h3, h4⟩ := h
  obtain ⟨g1, g2⟩ := zj0 h4
  refine ⟨by simp [g1], fun k m' hm => ?_⟩
  cases k with
  | zero => simp at hm; subst hm; exact ⟨e, rfl, h1, h2, h3.symm⟩
  | succ k => exact g2 k m' (by simpa using hm)
theorem zju (hI : Inv P S ρ A w) {ty : TypeId} {x : V} {u : Value} {rs : List Rs} (h : z9u S x = some rs) (hx : RepV P S ρ A w x u) :
  ∃ r ∈ rs, zew P S ρ A w ((do pure (Next.value (← Instr.next u false ty)) : Sem Next).run P w) r := by
 cases x <;> simp only [z9u, reduceCtorEq] at h
 rename_i id
 cases ho : S[id]? with
 | none => simp [ho] at h
 | some ob =>
  cases ob with
  | mit mid since seen last =>
   simp only [ho] at h
   cases hm : S[mid]? with
   | none => simp [hm] at h
   | some om =>
    cases om with
    | mp es clock =>
     simp only [hm] at h
     have hok := hI.ok id _ ho
     have hmk := hI.ok mid _ hm
     have hx := (zO rfl).1 ((qF rfl).1 hx)
     simp only [zT, List.cons.injEq, and_true] at hx
     obtain ⟨r', rfl, hpl⟩ := hx
     simp only [ItPl, ho] at hpl
     subst hpl
     simp only [ObOk] at hok hmk
     obtain ⟨r0, hh, hp0⟩ := hok
     simp only [MapPl, hm] at hp0
     subst hp0
     obtain ⟨en, hme, hM, hcl, hnd⟩ := hmk
     obtain ⟨ha1, ha2⟩ := za3 (last := last) hM
     have hF := z3k (seen := seen) hM
     have hsz : seen.toArray.isEmpty = seen.isEmpty := by cases seen <;> rfl
     have hez : en.isEmpty = es.isEmpty := by rw [ha2]; cases en with | mk l => cases l <;> rfl
     have hall : (en.all fun e => decide (e.born ≥ last)) = (es.all fun e => decide (e.2.2 ≥ last)) := by rw [ha1]; simp
     have hfl : (en.filter fun e => !seen.toArray.contains e.born) = (en.toList.filter fun e => !seen.contains e.born).toArray := by
      apply Array.toList_inj.1
      simp
     split at h
     ·cases h
     ·rename_i hc
      have hc' : (!seen.toArray.isEmpty && !en.isEmpty && en.all fun e => decide (e.born ≥ last)) = false := by
       rw [hsz, hez, hall]; simpa using hc
      split at h
      ·rename_i hold
       split at h
       ·rename_i hfe
        simp only [Option.some.injEq] at h; subst h
        rw [hfe] at hF
        simp only [jW] at hF
        rw [hF] at hfl
        refine ⟨_, List.mem_singleton.2 rfl, jS hI (vT _ (u := .tuple #[.bool false]) ?_) (z0w ?_)⟩
        ·simp only [Instr.next, Sem.run_bind, z2k hh, kP hme, Result.andThen, hc', hfl, Bool.false_eq_true, if_false]
         simp [choose, Sem.run, Question.forced]
        ·simp only [jC]
         exact ⟨_, _, rfl, jU.2 ((zH rfl).2 (by simp [RepC])), rfl⟩
       ·rename_i l hne
        simp only [Option.some.injEq] at h; subst h
        obtain ⟨g1, g2⟩ := zj0 hF
        have hlen : 0 < (es.filter fun e => !seen.contains e.2.2).length := by
         cases hl : (es.filter fun e => !seen.contains e.2.2) with
         | nil => exact absurd hl hne
         | cons a b => simp
        generalize hL : (es.filter fun e => !seen.contains e.2.2) = L at *
        generalize hN : (en.toList.filter fun e => !seen.contains e.born) = N at *
        have hborn : ∀ m ∈ N, m.born < since := fun m hm => by
         obtain ⟨k, hk⟩ := List.getElem?_of_mem hm
         obtain ⟨e, h1, _, _, h4⟩ := g2 k m hk
         have := List.all_eq_true.1 hold e (List.mem_of_getElem? h1)
         rw [h4]
         simpa using this
        have hf1 : N.toArray.filter (fun e => decide (e.born < since)) = N.toArray := by
         apply Array.toList_inj.1
         simp only [Array.toList_filter]
         exact List.filter_eq_self.2 (fun m hm => by simpa using hborn m hm)
        have hf2 : N.toArray.filter (fun e => decide (e.born ≥ since)) = #[] := by
         apply Array.toList_inj.1
         simp only [Array.toList_filter]
         exact List.filter_eq_nil_iff.2 (fun m hm => by have := hborn m hm; simp; omega)
        have hNe : N.toArray.isEmpty = false := by
         cases N with
         | nil => simp at g1; omega
         | cons a b => rfl
        obtain ⟨k, w1, hk, hch, hw1⟩ : ∃ (k : Nat) (w1 : World), k < N.length ∧ (choose (.mapNext N.length)).run P w = .ok k w1 ∧ (w1.heap = w.heap ∧ w1.os = w.os ∧ w1.tape = w.tape ∧ w1.output = w.output) := by
         by_cases hf : N.length ≤ 1
         ·refine ⟨0, w, by omega, ?_, rfl, rfl, rfl, rfl⟩
          simp [choose, Sem.run, Question.forced, hf]
         ·refine ⟨w.tape w.drawn (.mapNext N.length) % N.length, w.drew, Nat.mod_lt _ (by omega), ?_, rfl, rfl, rfl, rfl⟩
          rw [run_choose_drew]
          simp [Question.forced, hf, Question.cut]
        obtain ⟨m, hmk⟩ : ∃ m, N[k]? = some m := ⟨N[k], List.getElem?_eq_getElem hk⟩
        obtain ⟨e, h1, h2, h3, h4⟩ := g2 k m hmk
        have hsz1 : w1.heap.size = w.heap.size := by rw [hw1.1]
        refine ⟨_, List.mem_map.2 ⟨e, List.mem_of_getElem? h1, rfl⟩, ?_⟩
        obtain ⟨t1, t2⟩ := hI.turn (o' := .mit mid since (seen ++ [e.2.2]) clock) (w' := setO w1 (ρ id) (.mapIter (some (ρ mid)) since (seen.toArray.push m.born) clock)) ho rfl trivial (by rw [z63, hsz1]) (fun b hb => by rw [z45 _ _ hb, hw1.1]) (.inr fun c e f hc => by rw [hh] at hc; cases hc) hw1.2.1 hw1.2.2.1 hw1.2.2.2 (.inl rfl) (fun hs hA => by
         simp only [ObOk]
         refine ⟨ρ mid, ?_, ?_⟩
         ·rw [z5z _ (by rw [hw1.1]; exact hh), h4]; simp
         ·have : MapPl S ρ mid (ρ mid) := by simp [MapPl, hm]
          exact this.mono hs)
        refine ⟨_, _, ρ, A, vT _ (u := .tuple #[.bool true, m.key, m.val]) ?_, t1, t2, z0w ?_⟩
        ·have hcand : ((if N.toArray.isEmpty then #[none] else #[]) ++ (N.toArray ++ #[]).map some : Array (Option MapEntry)) = (N.map some).toArray := by
          rw [hNe]; simp
         have hmit : w1.heap[ρ id]? = some (.mapIter (some (ρ mid)) since seen.toArray last) := by rw [hw1.1]; exact hh
         simp only [Instr.next, Sem.run_bind, z2k hh, kP hme, Result.andThen, hc', hfl, Bool.false_eq_true, if_false, hf1, hf2, hcand]
         have hcs : (N.map some).toArray.size = N.length := by simp
         simp only [hcs, hch]
         have hck : (N.map some).toArray[k]? = some (some m) := by simp [hmk]
         simp only [hck, Sem.run_bind, zbl hmit, Result.andThen]
         rfl
        ·simp only [jC]
         exact ⟨_, _, rfl, jU.2 ((zH rfl).2 (by simp [RepC])), _, _, rfl, jU.2 (z2a t2.amono t2.keepA h2), _, _, rfl, z0y t2.amono t2.keepA t2.sle h3, rfl⟩
      ·cases h
    | _ => simp [hm] at h
  | _ => simp [ho] at h
end
structure EOk (C : Cfg) (c : Code) (T : List V) (S : zA) (F : Dfs) (Q : Post) : Prop where
 run : ∀ {ρ : Nat → Nat} {A : Nat → Prop} {w : World} {a : Act} {R : Exit → Act → World → Prop}, Inv C.P S ρ A w → RepT C.P S ρ A w T a.tmps.toList → DfOk C.P S ρ A w F a.defers →
  (∀ x T' S' F' e a' w', Q x T' S' F' → ExPost C.P S ρ A w x T' S' F' e a' w' → R e a' w') → wpL C.P c R a w
section
variable {C : Cfg} {T : List V} {S : zA} {F : Dfs} {Q : Post}
theorem wS (hext : z1d C) (hcatch : vY C) {c : Code} (h : Wp C c T S F Q) : EOk C c T S F Q := by
 obtain ⟨n, x, T', S', F', h1, h2⟩ := h
 refine ⟨?_⟩
 intro ρ A w a R hI hT hF hR
 exact (z5h hext hcatch n).1 c h1 hI hT hF fun e a' w' he => hR _ _ _ _ _ _ _ h2 he
def zx3 (C : Cfg) (c : Code) (Q : Post) : Post
 | .norm, T, S, F => EOk C c T S F Q
 | x, T, S, F => Q x T S F
theorem kQ {c1 c2 : Code} (h : EOk C c1 T S F (zx3 C c2 Q)) : EOk C (c1.seq c2) T S F Q := by
 refine ⟨?_⟩
 intro ρ A w a R hI hT hF hR
 refine Go.wp_seq ?_
 refine z0r (h.run hI hT hF fun x T1 S1 F1 e a' w' hq he => ?_)
 cases x with
 | norm =>
  cases e with
  | normal =>
   obtain ⟨_, ρ1, A1, g1, g2, g3, g4⟩ := he
   have hq : EOk C c2 T1 S1 F1 Q := hq
   exact z0r (hq.run g1 g3 g4 fun x T2 S2 F2 e a2 w2 hq2 he2 => hR _ _ _ _ _ _ _ hq2 (he2.step g2))
  | exit k => exact absurd he.1 (by simp)
  | ret => exact absurd he.1 (by simp)
  | panic c => obtain ⟨y, v, h1, _⟩ := he; cases h1
  | goto l => exact he.elim
  | outgrown => exact he.elim
 | _ =>
  cases e with
  | normal => exact absurd he.1 (by simp)
  | _ => exact hR _ _ _ _ _ _ _ hq he
def outE (id : Nat) (Q : Post) : Post
 | .exit k, T, S, F => if k = id then Q .norm T S F else Q (.exit k) T S F
 | x, T, S, F => Q x T S F
theorem z5o {id : Nat} {b : Code} (h : EOk C b T S F (outE id Q)) : EOk C (.block id b) T S F Q := by
 refine ⟨?_⟩
 intro ρ A w a R hI hT hF hR
 refine Go.wp_block ?_
 refine z0r (h.run hI hT hF fun x T1 S1 F1 e a' w' hq he => ?_)
 cases x with
 | exit k =>
  cases e with
  | exit k' =>
   obtain ⟨hk, hs⟩ := he
   simp only [Ex.exit.injEq] at hk
   subst hk
   simp only [Exit.inBlock]
   simp only [outE] at hq
   split
   ·rename_i hk
    rw [if_pos hk] at hq
    exact hR _ _ _ _ _ _ _ hq ⟨rfl, hs⟩
   ·rename_i hk
    rw [if_neg hk] at hq
    exact hR _ _ _ _ _ _ _ hq ⟨rfl, hs⟩
  | normal => exact absurd he.1 (by simp)
  | ret => exact absurd he.1 (by simp)
  | panic c => obtain ⟨y, v, h1, _⟩ := he; cases h1
  | goto l => exact he.elim
  | outgrown => exact he.elim
 | _ =>
  cases e with
  | exit k' => exact absurd he.1 (by simp)
  | _ => exact hR _ _ _ _ _ _ _ hq he
theorem z6x {b : Code} (h : EOk C b T S F (zx3 C (.loop b) Q)) : EOk C (.loop b) T S F Q := by
 refine ⟨?_⟩
 intro ρ A w a R hI hT hF hR
 refine z7o ?_
 refine z0r (h.run hI hT hF fun x T1 S1 F1 e a' w' hq he => ?_)
 cases x with
 | norm =>
  cases e with
  | normal =>
   obtain ⟨_, ρ1, A1, g1, g2, g3, g4⟩ := he
   have hq : EOk C (.loop b) T1 S1 F1 Q := hq
   exact hq.run g1 g3 g4 fun x T2 S2 F2 e a2 w2 hq2 he2 => hR _ _ _ _ _ _ _ hq2 (he2.step g2)
  | exit k => exact absurd he.1 (by simp)
  | ret => exact absurd he.1 (by simp)
  | panic c => obtain ⟨y, v, h1, _⟩ := he; cases h1
  | goto l => exact he.elim
  | outgrown => exact he.elim
 | _ =>
  cases e with
  | normal => exact absurd he.1 (by simp)
  | _ => exact hR _ _ _ _ _ _ _ hq he
theorem z8j (hext : z1d C) (hcatch : vY C) {id : Nat} {ops : Array Oper} {dst : Option Tmp} {it : Operand} {ty : TypeId} {pos : String} {after : Array Edge} {r : List Oper} {rs : List Rs} (hops : ops.toList = ⟨dst, .next it false, ty, pos, after, none⟩ :: r) (hr : z9u S (zG T it) = some rs)
  (hk : ∀ x ∈ rs, ∃ v S' c, x = .val v S' c ∧ WpL C ops r (putT T dst v) S' F Q) : EOk C (.region id ops false) T S F Q := by
 refine ⟨?_⟩
 intro ρ A w a R hI hT hF hR
 refine Go.wp_region ?_
 have hget : ops[0]? = some ⟨dst, .next it false, ty, pos, after, none⟩ := by
  have : ops.toList[0]? = some (⟨dst, .next it false, ty, pos, after, none⟩ : Oper) := by rw [hops]; rfl
  simpa using this
 have hsz : ops.size = r.length + 1 := by
  have : ops.toList.length = r.length + 1 := by rw [hops]; rfl
  simpa using this
 have hdrop : ops.toList.drop 1 = r := by rw [hops]; rfl
 rw [List.range_eq_range', hsz]
 simp only [List.range'_succ, wpOps, hget]
 have hw1 : ∀ y, Region.wanted (⟨dst, .next it false, ty, pos, after, none⟩ : Oper) y = true := fun y => rfl
 simp only [hw1, if_true]
 refine .inl ?_
 obtain ⟨x, hx, hs⟩ := zju (ty := ty) hI hr (z1i hT it)
 obtain ⟨v, S', c, rfl, n, x', T2, S2, F2, h1, h2⟩ := hk x hx
 obtain ⟨u, w', ρ', A', g1, g2, g3, g4⟩ := hs
 unfold Oper.wp
 have he : (execOp a.eval (⟨dst, .next it false, ty, pos, after, none⟩ : Oper)).run C.P w = .ok (.value u) w' := g1
 rw [he]
 have := z35 hext (z5h hext hcatch n).2 h1 (k := 1) hdrop g2 (vA (dst := dst) (kJ g3.amono g3.keepA g3.sle _ _ hT) g4) (by rw [put_defers]; exact kF g3 hF) (fun e a' w2 he => hR _ _ _ _ _ _ _ h2 (he.step g3))
 exact this
theorem zog (hext : z1d C) (hcatch : vY C) {f : FuncId} {c : Code} {n : Nat} {rs : Array ResultVar} {ds : List D} {d : D} (hb : zF C.P f = some ⟨c, n, rs⟩) (h : EOk C c (z05 n (ds.map .d)) [] [] (RetQ C.P rs (.ret (.d d)))) :
  ∀ (A : Nat → Prop) (w : World) (us : Array Value), (∀ b, A b → b < w.heap.size) → RepS A w ds us.toList → Calls C.P f us w (z2z A w (.ret d)) := by
 intro A w us hlt hr
 obtain ⟨fn, hf, hbody, hn, hres⟩ := z1l hb
 refine calls_of_wp_defers hf hbody ?_
 have hI : Inv C.P [] (fun _ => 0) A w := z95 hlt
 have hstart := z2j (P := C.P) (S := []) (ρ := fun _ => 0) (A := A) (w := w) fn.ntmps (vH hr)
 have hn : n = fn.ntmps := hn
 have hres : rs = fn.results := hres
 rw [hn] at h
 refine z0r (h.run hI hstart rfl fun x T1 S1 F1 e a' w' hq he => ?_)
 obtain ⟨hx, rfl, v, hv, ho⟩ := hq
 have good : St C.P [] (fun _ => 0) A w T1 S1 [] a' w' → Leaves C.P fn a'.tmps (z2z A w (.ret d)) a'.defers .returning w' := fun hs => by
  obtain ⟨ρ1, A1, k1, k2, k3, k4⟩ := hs
  rw [hres] at hv
  refine zf8 (z5h hext hcatch 0).1 hv (fun u w2 hh => ?_) (S2 := S1) rfl k1 k2 k3 k4
  obtain ⟨ρ', A', h1, h2, h3⟩ := hh
  unfold z22 at ho
  split at ho
  ·rename_i vs
   obtain ⟨xs, hx2, h5⟩ := Option.map_eq_some_iff.1 ho
   cases h5
  ·rename_i v0 hne hv0
   cases hv0
   obtain ⟨y, hy, h5⟩ := Option.map_eq_some_iff.1 ho
   cases h5
   have hone : v.one = true := by
    cases v <;> first | rfl | (simp [zR, frz] at hy)
   exact ⟨_, z5u hlt h1 h2 (qH S1 zR v), zgh h1 hy ((qF hone).1 h3) (fun i hi => hi)⟩
  ·rename_i v0 hv0
   cases hv0
 cases e with
 | normal => exact good he.2
 | ret => exact good he.2
 | exit k => rcases hx with rfl | rfl <;> exact absurd he.1 (by simp)
 | panic c => obtain ⟨y, u, h1, _⟩ := he; rcases hx with rfl | rfl <;> cases h1
 | goto l => exact he.elim
 | outgrown => exact he.elim
end
def EOkL (C : Cfg) (ops : Array Oper) (k : Nat) (l : List Oper) (T : List V) (S : zA) (F : Dfs) (Q : Post) : Prop := ops.toList.drop k = l → ∀ {ρ : Nat → Nat} {A : Nat → Prop} {w : World} {a : Act} {R : Exit → Act → World → Prop}, Inv C.P S ρ A w → RepT C.P S ρ A w T a.tmps.toList → DfOk C.P S ρ A w F a.defers →
 (∀ x T' S' F' e a' w', Q x T' S' F' → ExPost C.P S ρ A w x T' S' F' e a' w' → R e a' w') → wpOps C.P ops R (List.range' k l.length) a w
structure EOkC (C : Cfg) (f : FuncId) (args : List V) (S : zA) (RR : V → zA → Prop) : Prop where
 run : ∀ {ρ : Nat → Nat} {A : Nat → Prop} {w : World} {us : Array Value}, Inv C.P S ρ A w → jC C.P S ρ A w args us.toList → Calls C.P f us w fun e w' => ∃ v S', RR v S' ∧ z2x C.P S ρ A w (.ret v) S' e w'
section
variable {C : Cfg} {T : List V} {S : zA} {F : Dfs} {Q : Post} {ops : Array Oper} {k : Nat} {r : List Oper} {o : Oper}
theorem zmc (hext : z1d C) (hcatch : vY C) {l : List Oper} (h : WpL C ops l T S F Q) : EOkL C ops k l T S F Q := by
 intro hd ρ A w a R hI hT hF hR
 obtain ⟨n, x, T', S', F', h1, h2⟩ := h
 exact z35 hext (z5h hext hcatch n).2 h1 hd hI hT hF fun e a' w' he => hR _ _ _ _ _ _ _ h2 he
theorem zc2 {id : Nat} (h : EOkL C ops 0 ops.toList T S F Q) : EOk C (.region id ops false) T S F Q := by
 refine ⟨?_⟩
 intro ρ A w a R hI hT hF hR
 refine Go.wp_region ?_
 rw [List.range_eq_range']
 have := h rfl hI hT hF hR
 simpa using this
theorem zin (hd : ops.toList.drop k = o :: r) : ops[k]? = some o ∧ ops.toList.drop (k + 1) = r := by
 constructor
 ·have : (ops.toList.drop k)[0]? = some o := by rw [hd]; rfl
  simpa using this
 ·rw [← List.drop_drop, hd]; rfl
theorem zdo {v : V} {S1 : zA} {c : Nat} (hg : qB ops T o = some true) (ho : opV C.P S T o = some (.val v S1 c)) (h : EOkL C ops (k + 1) r (putT T o.dst v) S1 F Q) : EOkL C ops k (o :: r) T S F Q := by
 intro hd ρ A w a R hI hT hF hR
 obtain ⟨hget, hk'⟩ := zin hd
 simp only [List.length_cons, List.range'_succ, wpOps, hget]
 rw [z0x hg hT]
 simp only [if_true]
 refine .inl ?_
 refine zan hI hT ho ?_
 intro ρ1 A1 w1 u h1 h2 h3
 exact h hk' h1 (vA (kJ h2.amono h2.keepA h2.sle _ _ hT) h3) (by rw [put_defers]; exact kF h2 hF) (fun x T2 S2 F2 e a' w' hq he => hR _ _ _ _ _ _ _ hq (he.step h2))
theorem zde {f : FuncId} {args : List V} {RR : V → zA → Prop} (hg : qB ops T o = some true) (ho : opV C.P S T o = some (.enter f args)) (hc : EOkC C f args S RR) (h : ∀ v S1, RR v S1 → EOkL C ops (k + 1) r (putT T o.dst v) S1 F Q) : EOkL C ops k (o :: r) T S F Q := by
 intro hd ρ A w a R hI hT hF hR
 obtain ⟨hget, hk'⟩ := zin hd
 simp only [List.length_cons, List.range'_succ, wpOps, hget]
 rw [z0x hg hT]
 simp only [if_true]
 refine .inl ?_
 refine zan hI hT ho ?_
 intro us hus
 refine (hc.run hI hus).mono fun e w1 he => ?_
 obtain ⟨v, S1, hrr, he⟩ := he
 cases e with
 | returned u =>
  obtain ⟨y, hy, ρ1, A1, h1, h2, h3⟩ := he
  cases hy
  exact h v S1 hrr hk' h1 (vA (kJ h2.amono h2.keepA h2.sle _ _ hT) h3) (by rw [put_defers]; exact kF h2 hF) (fun x T2 S2 F2 e a' w' hq he => hR _ _ _ _ _ _ _ hq (he.step h2))
 | panicked chain => obtain ⟨y, v, hy, _⟩ := he; cases hy
 | outgrown => exact he.elim
def EndC (P : Program) (rs : Array ResultVar) (RR : V → zA → Prop) : Post := fun x T S F => (x = .norm ∨ x = .ret) ∧ F = [] ∧ ∃ v, jF P rs T S = some v ∧ RR v S
theorem zt4 (hext : z1d C) (hcatch : vY C) {f : FuncId} {c : Code} {n : Nat} {rs : Array ResultVar} {args : List V} {RR : V → zA → Prop} (hb : zF C.P f = some ⟨c, n, rs⟩) (h : EOk C c (z05 n args) S [] (EndC C.P rs RR)) : EOkC C f args S RR := by
 refine ⟨?_⟩
 intro ρ A w us hI hr
 obtain ⟨fn, hf, hbody, hn, hres⟩ := z1l hb
 refine calls_of_wp_defers hf hbody ?_
 have hstart := z2j (P := C.P) (S := S) (ρ := ρ) (A := A) (w := w) fn.ntmps hr
 have hn : n = fn.ntmps := hn
 have hres : rs = fn.results := hres
 rw [hn] at h
 refine z0r (h.run hI hstart rfl fun x T1 S1 F1 e a' w' hq he => ?_)
 obtain ⟨hx, rfl, v, hv, ho⟩ := hq
 have good : St C.P S ρ A w T1 S1 [] a' w' → Leaves C.P fn a'.tmps (fun e w' => ∃ v S', RR v S' ∧ z2x C.P S ρ A w (.ret v) S' e w') a'.defers .returning w' := fun hs => by
  obtain ⟨ρ1, A1, k1, k2, k3, k4⟩ := hs
  rw [hres] at hv
  refine zf8 (z5h hext hcatch 0).1 hv (fun u w2 hh => ?_) (S2 := S1) rfl k1 k2 k3 k4
  obtain ⟨ρ', A', h1, h2, h3⟩ := hh
  exact ⟨v, S1, ho, v, rfl, ρ', A', h1, h2, h3⟩
 cases e with
 | normal => exact good he.2
 | ret => exact good he.2
 | exit k => rcases hx with rfl | rfl <;> exact absurd he.1 (by simp)
 | panic c => obtain ⟨y, u, h1, _⟩ := he; rcases hx with rfl | rfl <;> cases h1
 | goto l => exact he.elim
 | outgrown => exact he.elim
end
end Go.Vm
end
section
namespace Go.Proofs.Ytghllhghboaagaa
open Go.Vm
theorem ff81 {a : List D} : qD Try.prog 81 (.d (.sl a)) = true := by kernel_rfl
theorem ld81 {S : zA} {a : List D} : jP Try.prog S 81 (.d (.ptr (.sl a))) = some (.d (.sl a)) := by kernel_rfl
structure Slot where
 dir : Int
 name : (List UInt8)
 deriving DecidableEq
def zK (a : Slot) : D := .agg [.int .i64 a.dir, .str a.name]
theorem q0b (a : Slot) : vN Try.prog 84 (zK a) = true := by kernel_rfl
theorem zn6 (a : Slot) : qD Try.prog 84 (.d (zK a)) = true := by kernel_rfl
theorem z84 : zeroV Try.prog 84 = some (.agg [.d (.int .i64 0), .d (.str [])]) := by kernel_rfl
theorem zf84 : qD Try.prog 84 (.agg [.d (.int .i64 0), .d (.str [])]) = true := by kernel_rfl
theorem zz84  : zeroV Try.prog 84 = some (.agg [.d (.int .i64 0), .d (.str [])]) := z84
theorem q2t  : qD Try.prog 84 (.agg [.d (.int .i64 0), .d (.str [])]) = true := zf84
theorem ff84 {a : Slot} : qD Try.prog 84 (.d (zK a)) = true := by kernel_rfl
theorem q0y {x0 x1 : V} : qD Try.prog 84 (.agg [x0, x1]) = true := by kernel_rfl
theorem lr84 {a : Slot} : kE Try.prog 84 0 (some (.d (zK a))) = some (.d (zK a)) := by kernel_rfl
theorem q0u {x0 x1 : V} : kE Try.prog 84 0 (some (.agg [x0, x1])) = some (.agg [x0, x1]) := by kernel_rfl
theorem sr84 {a b : Slot} : qL Try.prog 84 0 (.d (zK a)) (.d (zK b)) = some (.d (zK a)) := by kernel_rfl
theorem q25 {a : Slot} {x0 x1 : V} : qL Try.prog 84 0 (.d (zK a)) (.agg [x0, x1]) = some (.d (zK a)) := by kernel_rfl
theorem q1i {a : Slot} {x0 x1 : V} : qL Try.prog 84 0 (.agg [x0, x1]) (.d (zK a)) = some (.agg [x0, x1]) := by kernel_rfl
theorem q1t {x0 x1 y0 y1 : V} : qL Try.prog 84 0 (.agg [x0, x1]) (.agg [y0, y1]) = some (.agg [x0, x1]) := by kernel_rfl
theorem ld84 {S : zA} {a : Slot} : jP Try.prog S 84 (.d (.ptr (zK a))) = some (.d (zK a)) := by kernel_rfl
theorem zzs {a : Slot} : zP Try.prog 84 0 (.d (.ptr (zK a))) = some (.d (.ptr (.int .i64 a.dir))) := by kernel_rfl
theorem zxj {a : Slot} : z3r Try.prog 84 0 (.d (zK a)) = some (.d (.int .i64 a.dir)) := by kernel_rfl
theorem q0e {a : Slot} : kE Try.prog 3 0 (some (.d (zK a))) = some (.d (.int .i64 a.dir)) := by kernel_rfl
theorem zun {x0 x1 : V} : kE Try.prog 3 0 (some (.agg [x0, x1])) = some x0 := by kernel_rfl
theorem zy2 {a : Slot} {v : V} (h1 : qD Try.prog 3 v = true) (h2 : v.cells = [v]) : qL Try.prog 3 0 v (.d (zK a)) = some (.agg [v, .d (.str a.name)]) := by simp only [qL, h1, h2]; rfl
theorem zsp {x0 x1 v : V} (h1 : qD Try.prog 3 v = true) (h2 : v.cells = [v]) : qL Try.prog 3 0 v (.agg [x0, x1]) = some (.agg [v, x1]) := by simp only [qL, h1, h2]; rfl
theorem zs3 {a : Slot} {x : Int} : qL Try.prog 3 0 (.d (.int .i64 x)) (.d (zK a)) = some (.agg [.d (.int .i64 x), .d (.str a.name)]) := by kernel_rfl
theorem zqc {x0 x1 : V} {x : Int} : qL Try.prog 3 0 (.d (.int .i64 x)) (.agg [x0, x1]) = some (.agg [.d (.int .i64 x), x1]) := by kernel_rfl
theorem zwe {j x y : Nat} : zP Try.prog 84 0 (.ref j x y) = some (.ref j x (y + 0)) := by kernel_rfl
theorem zyz {a : Slot} : zP Try.prog 84 1 (.d (.ptr (zK a))) = some (.d (.ptr (.str a.name))) := by kernel_rfl
theorem zyq {a : Slot} : z3r Try.prog 84 1 (.d (zK a)) = some (.d (.str a.name)) := by kernel_rfl
theorem zyn {a : Slot} : kE Try.prog 9 1 (some (.d (zK a))) = some (.d (.str a.name)) := by kernel_rfl
theorem zsw {x0 x1 : V} : kE Try.prog 9 1 (some (.agg [x0, x1])) = some x1 := by kernel_rfl
theorem zwc {a : Slot} {v : V} (h1 : qD Try.prog 9 v = true) (h2 : v.cells = [v]) : qL Try.prog 9 1 v (.d (zK a)) = some (.agg [.d (.int .i64 a.dir), v]) := by simp only [qL, h1, h2]; rfl
theorem zsm {x0 x1 v : V} (h1 : qD Try.prog 9 v = true) (h2 : v.cells = [v]) : qL Try.prog 9 1 v (.agg [x0, x1]) = some (.agg [x0, v]) := by simp only [qL, h1, h2]; rfl
theorem zws {j x y : Nat} : zP Try.prog 84 1 (.ref j x y) = some (.ref j x (y + 1)) := by kernel_rfl
theorem z79 : zeroV Try.prog 79 = some (.agg [.d (.int .i64 0), .d (.str [])]) := by kernel_rfl
theorem zf79 : qD Try.prog 79 (.agg [.d (.int .i64 0), .d (.str [])]) = true := by kernel_rfl
theorem zz79  : zeroV Try.prog 79 = some (.agg [.d (.int .i64 0), .d (.str [])]) := z79
theorem q2l  : qD Try.prog 79 (.agg [.d (.int .i64 0), .d (.str [])]) = true := zf79
theorem ff79 {a : Slot} : qD Try.prog 79 (.d (zK a)) = true := by kernel_rfl
theorem q28 {x0 x1 : V} : qD Try.prog 79 (.agg [x0, x1]) = true := by kernel_rfl
theorem lr79 {a : Slot} : kE Try.prog 79 0 (some (.d (zK a))) = some (.d (zK a)) := by kernel_rfl
theorem q2i {x0 x1 : V} : kE Try.prog 79 0 (some (.agg [x0, x1])) = some (.agg [x0, x1]) := by kernel_rfl
theorem sr79 {a b : Slot} : qL Try.prog 79 0 (.d (zK a)) (.d (zK b)) = some (.d (zK a)) := by kernel_rfl
theorem q2d {a : Slot} {x0 x1 : V} : qL Try.prog 79 0 (.d (zK a)) (.agg [x0, x1]) = some (.d (zK a)) := by kernel_rfl
theorem q22 {a : Slot} {x0 x1 : V} : qL Try.prog 79 0 (.agg [x0, x1]) (.d (zK a)) = some (.agg [x0, x1]) := by kernel_rfl
theorem q1z {x0 x1 y0 y1 : V} : qL Try.prog 79 0 (.agg [x0, x1]) (.agg [y0, y1]) = some (.agg [x0, x1]) := by kernel_rfl
theorem ld79 {S : zA} {a : Slot} : jP Try.prog S 79 (.d (.ptr (zK a))) = some (.d (zK a)) := by kernel_rfl
theorem zy0 {a : Slot} : zP Try.prog 79 0 (.d (.ptr (zK a))) = some (.d (.ptr (.int .i64 a.dir))) := by kernel_rfl
theorem zyl {a : Slot} : z3r Try.prog 79 0 (.d (zK a)) = some (.d (.int .i64 a.dir)) := by kernel_rfl
theorem zvu {a : Slot} : kE Try.prog 3 0 (some (.d (zK a))) = some (.d (.int .i64 a.dir)) := by kernel_rfl
theorem zsn {x0 x1 : V} : kE Try.prog 3 0 (some (.agg [x0, x1])) = some x0 := by kernel_rfl
theorem zz0 {a : Slot} {v : V} (h1 : qD Try.prog 3 v = true) (h2 : v.cells = [v]) : qL Try.prog 3 0 v (.d (zK a)) = some (.agg [v, .d (.str a.name)]) := by simp only [qL, h1, h2]; rfl
theorem ztp {x0 x1 v : V} (h1 : qD Try.prog 3 v = true) (h2 : v.cells = [v]) : qL Try.prog 3 0 v (.agg [x0, x1]) = some (.agg [v, x1]) := by simp only [qL, h1, h2]; rfl
theorem zsb {a : Slot} {x : Int} : qL Try.prog 3 0 (.d (.int .i64 x)) (.d (zK a)) = some (.agg [.d (.int .i64 x), .d (.str a.name)]) := by kernel_rfl
theorem zoh {x0 x1 : V} {x : Int} : qL Try.prog 3 0 (.d (.int .i64 x)) (.agg [x0, x1]) = some (.agg [.d (.int .i64 x), x1]) := by kernel_rfl
theorem zwq {j x y : Nat} : zP Try.prog 79 0 (.ref j x y) = some (.ref j x (y + 0)) := by kernel_rfl
theorem q06 {a : Slot} : zP Try.prog 79 1 (.d (.ptr (zK a))) = some (.d (.ptr (.str a.name))) := by kernel_rfl
theorem zwk {a : Slot} : z3r Try.prog 79 1 (.d (zK a)) = some (.d (.str a.name)) := by kernel_rfl
theorem q04 {a : Slot} : kE Try.prog 9 1 (some (.d (zK a))) = some (.d (.str a.name)) := by kernel_rfl
theorem zso {x0 x1 : V} : kE Try.prog 9 1 (some (.agg [x0, x1])) = some x1 := by kernel_rfl
theorem zz7 {a : Slot} {v : V} (h1 : qD Try.prog 9 v = true) (h2 : v.cells = [v]) : qL Try.prog 9 1 v (.d (zK a)) = some (.agg [.d (.int .i64 a.dir), v]) := by simp only [qL, h1, h2]; rfl
theorem ztn {x0 x1 v : V} (h1 : qD Try.prog 9 v = true) (h2 : v.cells = [v]) : qL Try.prog 9 1 v (.agg [x0, x1]) = some (.agg [x0, v]) := by simp only [qL, h1, h2]; rfl
theorem zxn {j x y : Nat} : zP Try.prog 79 1 (.ref j x y) = some (.ref j x (y + 1)) := by kernel_rfl
theorem ix81 {S : zA} {l : List Slot} {i : Nat} (h : i < l.length) : qJ Try.prog S 81 (.d (.sl (l.map (zK)))) (.d (.int .i64 i)) = some (.d (.ptr ((zK) l[i]))) := z9f Try.underlying81 (q0b) h
theorem q0o {S : zA} {xs : List D} : zY Try.prog S .len [81] [.d (.sl xs)] = some (.val (.d (.int .i64 xs.length)) S 0) := z86 Try.underlying81
theorem zsu {S : zA} {xs : List D} : zY Try.prog S .len [81] [.ts xs] = some (.val (.d (.int .i64 xs.length)) S 0) := zng Try.underlying81
theorem ztw {S : zA} {i o m : Nat} : zY Try.prog S .len [81] [.rs i o m] = some (.val (.d (.int .i64 m)) S 0) := zr0 Try.underlying81
theorem bs81 {S : zA} {a : Slot} : bs1 Try.prog S 81 (.d (zK a)) = some (.val (.ts [zK a]) S 0) := by kernel_rfl
def tyS :=
 And.intro @ff81 <|
 And.intro @ld81 <|
 And.intro @zz84 <|
 And.intro @q2t <|
 And.intro @ff84 <|
 And.intro @q0y <|
 And.intro @lr84 <|
 And.intro @q0u <|
 And.intro @sr84 <|
 And.intro @q25 <|
 And.intro @q1i <|
 And.intro @q1t <|
 And.intro @ld84 <|
 And.intro @zzs <|
 And.intro @zxj <|
 And.intro @q0e <|
 And.intro @zun <|
 And.intro @zy2 <|
 And.intro @zsp <|
 And.intro @zs3 <|
 And.intro @zqc <|
 And.intro @zwe <|
 And.intro @zyz <|
 And.intro @zyq <|
 And.intro @zyn <|
 And.intro @zsw <|
 And.intro @zwc <|
 And.intro @zsm <|
 And.intro @zws <|
 And.intro @zz79 <|
 And.intro @q2l <|
 And.intro @ff79 <|
 And.intro @q28 <|
 And.intro @lr79 <|
 And.intro @q2i <|
 And.intro @sr79 <|
 And.intro @q2d <|
 And.intro @q22 <|
 And.intro @q1z <|
 And.intro @ld79 <|
 And.intro @zy0 <|
 And.intro @zyl <|
 And.intro @zvu <|
 And.intro @zsn <|
 And.intro @zz0 <|
 And.intro @ztp <|
 And.intro @zsb <|
 And.intro @zoh <|
 And.intro @zwq <|
 And.intro @q06 <|
 And.intro @zwk <|
 And.intro @q04 <|
 And.intro @zso <|
 And.intro @zz7 <|
 And.intro @ztn <|
 And.intro @zxn <|
 And.intro @ix81 <|
 And.intro @q0o <|
 And.intro @zsu <|
 And.intro @ztw @bs81
theorem eqSl {a b : Slot} : eqV Try.prog 84 (.d (zK a)) (.d (zK b)) = some (a == b) := by
 have h0 : eqV Try.prog 84 (.d (zK a)) (.d (zK b)) = (match some (a.dir == b.dir) with | some true => (match some (a.name == b.name) with | some true => some true | some false => some false | none => none) | some false => some false | none => none) := by kernel_rfl
 rw [h0]
 obtain ⟨n, i⟩ := a
 obtain ⟨m, j⟩ := b
 have h2 : ((⟨n, i⟩ : Slot) == ⟨m, j⟩) = (n == m && i == j) := by
  by_cases h1 : n = m
  ·subst h1
   by_cases h3 : i = j
   ·subst h3; simp
   ·have h4 : (i == j) = false := by rw [beq_eq_false_iff_ne]; exact h3
    rw [h4, Bool.and_false, beq_eq_false_iff_ne]
    exact fun hh => h3 (Slot.mk.inj hh).2
  ·have h4 : (n == m) = false := by rw [beq_eq_false_iff_ne]; exact h1
   rw [h4, Bool.false_and, beq_eq_false_iff_ne]
   exact fun hh => h1 (Slot.mk.inj hh).1
 rw [h2]
 cases (n == m) <;> cases (i == j) <;> rfl
theorem q10 {k : Slot} : z8f Try.prog 84 (.d (zK k)) = true := by kernel_rfl
theorem zl3 {k : Slot} : z8g (zK k) (zK k) = true := by
 obtain ⟨n, i⟩ := k
 simp [zK, z8g, z3d, jY, z00]
def getS : List (Slot × Int) → Slot → Int
 | [], _ => 0
 | p :: r, k => if k = p.1 then p.2 else getS r k
def updS : List (Slot × Int) → Slot → Int → List (Slot × Int)
 | [], k, v => [(k, v)]
 | p :: r, k, v => if k = p.1 then (k, v) :: r else p :: updS r k v
structure KeyV (v : V) (k : Slot) : Prop where
 ok : z8f Try.prog 84 v = true
 eq : ∀ b : Slot, eqV Try.prog 84 v (.d (zK b)) = some (k == b)
 ds : asD v = some (zK k)
theorem KeyV.d {k : Slot} : KeyV (.d (zK k)) k := ⟨q10, fun _ => eqSl, rfl⟩
theorem KeyV.agg {a : Int} {s : List UInt8} : KeyV (.agg [.d (.int .i64 a), .d (.str s)]) ⟨a, s⟩ := by
 refine ⟨by kernel_rfl, fun b => ?_, rfl⟩
 have h0 : eqV Try.prog 84 (.agg [.d (.int .i64 a), .d (.str s)]) (.d (zK b)) = eqV Try.prog 84 (.d (zK ⟨a, s⟩)) (.d (zK b)) := by kernel_rfl
 rw [h0, eqSl]
def z61 (M : List (Slot × Int)) : List (D × D) := M.map fun p => (zK p.1, .int .i64 p.2)
def MapS (S : zA) (i : Nat) (M : List (Slot × Int)) : Prop := ∃ es c, S[i]? = some (.mp es c) ∧ es.map (fun e => (e.1, e.2.1)) = M.map (fun p => (zK p.1, V.d (.int .i64 p.2))) ∧ (es.map (·.2.2)).Nodup ∧ ∀ e ∈ es, e.2.2 < c
theorem MapS.keep {S S' : zA} {i : Nat} {M : List (Slot × Int)} (h : MapS S i M) (hk : S'[i]? = S[i]?) : MapS S' i M := by
 obtain ⟨es, c, h1, h2⟩ := h
 exact ⟨es, c, by rw [hk]; exact h1, h2⟩
theorem MapS.app {S l : zA} {i : Nat} {M : List (Slot × Int)} (h : MapS S i M) : MapS (S ++ l) i M := by
 obtain ⟨es, c, h1, h2⟩ := h
 exact ⟨es, c, qA h1, h2⟩
theorem zg5 {M : List (Slot × Int)} {kv : V} {k : Slot} (hk : KeyV kv k) : ∀ {i : Nat}, (findD Try.prog 84 kv (M.map fun p => (zK p.1, V.d (.int .i64 p.2))) i = some none ∧ getS M k = 0) ∨ ∃ j, findD Try.prog 84 kv (M.map fun p => (zK p.1, V.d (.int .i64 p.2))) i = some (some (j, .d (.int .i64 (getS M k)))) := by
 induction M with
 | nil => exact fun {i} => .inl ⟨rfl, rfl⟩
 | cons p r ih =>
  intro i
  by_cases h : k = p.1
  ·refine .inr ⟨i, ?_⟩
   simp only [List.map_cons, findD, hk.eq, getS, if_pos h]
   rw [h, beq_self_eq_true]
  ·have h1 : (k == p.1) = false := by rw [beq_eq_false_iff_ne]; exact h
   simp only [List.map_cons, findD, hk.eq, h1, getS, if_neg h]
   exact ih
theorem zot {S : zA} {v : V} {M : List (Slot × Int)} {kv : V} {k : Slot} (hk : KeyV kv k) (h : jZ S v = some (M.map fun p => (zK p.1, V.d (.int .i64 p.2)))) : jR Try.prog S 118 v kv false = some (.d (.int .i64 (getS M k))) := by
 rcases zg5 (M := M) hk (i := 0) with ⟨h2, h3⟩ | ⟨j, h2⟩
 ·simp only [jR, Try.underlying118, hk.ok, if_true, h, z3, h2, h3, Bool.false_eq_true, if_false]
 ·simp only [jR, Try.underlying118, hk.ok, if_true, h, z3, h2, Bool.false_eq_true, if_false]
theorem zh2 {S : zA} {M : List (Slot × Int)} {kv : V} {k : Slot} (hk : KeyV kv k) : jR Try.prog S 118 (.d (.map (z61 M))) kv false = some (.d (.int .i64 (getS M k))) := by
 refine zot hk ?_
 simp only [jZ, z61, List.map_map, Function.comp_def]
theorem zio {kv : V} {k : Slot} {v : Int} (hkv : KeyV kv k) : ∀ {M : List (Slot × Int)} {es : List (D × V × Nat)} {i : Nat}, es.map (fun e => (e.1, e.2.1)) = M.map (fun p => (zK p.1, V.d (.int .i64 p.2))) →
  (findD Try.prog 84 kv es i = some none ∧ updS M k v = M ++ [(k, v)]) ∨ ∃ j e, findD Try.prog 84 kv es i = some (some (i + j, e.2)) ∧ es[j]? = some e ∧ e.1 = zK k ∧ ∀ c : Nat, (es.set j (zK k, .d (.int .i64 v), c)).map (fun e => (e.1, e.2.1)) = (updS M k v).map fun p => (zK p.1, V.d (.int .i64 p.2))
 | [], [], i, _ => .inl ⟨rfl, rfl⟩
 | [], _ :: _, _, h => by cases h
 | _ :: _, [], _, h => by cases h
 | p :: r, e :: es, i, h => by
  rw [List.map_cons, List.map_cons] at h
  obtain ⟨h1, h2⟩ := List.cons.inj h
  obtain ⟨h3, h4⟩ := Prod.mk.inj h1
  have h3 : e.1 = zK p.1 := h3
  by_cases hk : k = p.1
  ·refine .inr ⟨0, e, ?_, rfl, by rw [h3, hk], fun c => ?_⟩
   ·simp only [findD, h3, hkv.eq]
    rw [hk, beq_self_eq_true]
    rfl
   ·simp only [updS, if_pos hk, List.set_cons_zero, List.map_cons, h2]
  ·have h5 : (k == p.1) = false := by rw [beq_eq_false_iff_ne]; exact hk
   rcases zio (v := v) hkv (i := i + 1) h2 with ⟨h6, h7⟩ | ⟨j, e', h6, h7, h8, h9⟩
   ·refine .inl ⟨?_, ?_⟩
    ·simp only [findD, h3, hkv.eq, h5]; exact h6
    ·simp only [updS, if_neg hk, h7, List.cons_append]
   ·refine .inr ⟨j + 1, e', ?_, h7, h8, fun c => ?_⟩
    ·simp only [findD, h3, hkv.eq, h5]; rw [h6]; congr 3; omega
    ·simp only [updS, if_neg hk, List.set_cons_succ, List.map_cons, h9, h1]
theorem zsi {S : zA} {i : Nat} {M : List (Slot × Int)} {kv : V} {k : Slot} {v : Int} (hk : KeyV kv k) (h : MapS S i M) : ∃ S', qS Try.prog S 118 (.mr i) kv (.d (.int .i64 v)) = some S' ∧ MapS S' i (updS M k v) ∧ ∀ j, j ≠ i → S'[j]? = S[j]? := by
 obtain ⟨es, c, h1, h2, hn, hc⟩ := h
 have hil : i < S.length := zZ h1
 have ha := hk.ds
 have ho : V.one (.d (.int .i64 v)) = true := rfl
 rcases zio (v := v) hk (i := 0) h2 with ⟨h6, h7⟩ | ⟨j, e', h6, h7, h8, h9⟩
 ·refine ⟨_, by simp only [qS, Try.underlying118, hk.ok, ho, Bool.and_self, if_true, ha, h1, h6]; rfl, ⟨_, _, List.getElem?_set_self hil, ?_, ?_, ?_⟩, fun j hj => List.getElem?_set_ne (fun hh => hj hh.symm)⟩
  ·rw [h7, List.map_append, List.map_append, h2]
   rfl
  ·rw [List.map_append, List.nodup_append]
   refine ⟨hn, by simp, fun x hx y hy => ?_⟩
   simp only [List.map_cons, List.map_nil, List.mem_singleton] at hy
   obtain ⟨e, he, rfl⟩ := List.mem_map.1 hx
   have := hc e he
   omega
  ·intro e he
   rcases List.mem_append.1 he with he | he
   ·have := hc e he; omega
   ·simp only [List.mem_singleton] at he; subst he; exact Nat.lt_succ_self _
 ·rw [Nat.zero_add] at h6
  have hs : z8g e'.1 (zK k) = true := by rw [h8]; exact zl3
  refine ⟨_, by simp only [qS, Try.underlying118, hk.ok, ho, Bool.and_self, if_true, ha, h1, h6, h7, hs]; rfl, ⟨_, _, List.getElem?_set_self hil, h9 _, ?_, ?_⟩, fun j hj => List.getElem?_set_ne (fun hh => hj hh.symm)⟩
  ·have e1 : (es.set j (zK k, V.d (.int .i64 v), e'.2.2)).map (·.2.2) = es.map (·.2.2) := by
    rw [List.map_set]
    refine List.ext_getElem? fun m => ?_
    rw [List.getElem?_set, List.getElem?_map]
    split
    ·rename_i hm
     subst hm
     split
     ·rw [h7]; rfl
     ·rename_i hl; rw [List.length_map] at hl; rw [List.getElem?_eq_none (by omega)]; rfl
    ·rfl
   exact e1 ▸ hn
  ·intro e he
   rcases List.mem_or_eq_of_mem_set he with he | he
   ·exact hc e he
   ·rw [he]; exact hc e' (List.mem_of_getElem? h7)
theorem q23 {S : zA} {i : Nat} {M : List (Slot × Int)} (h : MapS S i M) : frz S zR (.mr i) = some (.map (z61 M)) := by
 obtain ⟨es, c, h1, h2⟩ := h
 have hg : ∀ {M : List (Slot × Int)} {es : List (D × V × Nat)}, es.map (fun e => (e.1, e.2.1)) = M.map (fun p => (zK p.1, V.d (.int .i64 p.2))) → allO (fun (e : D × V × Nat) => (frz S 11 e.2.1).map fun x => (e.1, x)) es = some (z61 M) := fun {M} => by
  induction M with
  | nil => intro es h; cases es with | nil => rfl | cons _ _ => cases h
  | cons p r ih =>
   intro es h
   cases es with
   | nil => cases h
   | cons e es =>
    rw [List.map_cons, List.map_cons] at h
    obtain ⟨h3, h4⟩ := List.cons.inj h
    obtain ⟨h5, h6⟩ := Prod.mk.inj h3
    have h5 : e.1 = zK p.1 := h5
    have h6 : e.2.1 = .d (.int .i64 p.2) := h6
    have h7 : frz S 11 (.d (.int .i64 p.2)) = some (.int .i64 p.2) := rfl
    simp only [allO, h6, h7, Option.map_some, ih h4, h5]
    rfl
 show (match S[i]? with | some (.mp es _) => (allO (fun (e : D × V × Nat) => (frz S 11 e.2.1).map fun x => (e.1, x)) es).map D.map | some (.fm es) => some (.map es) | _ => none) = _
 rw [h1]
 simp only [hg h2.1, Option.map_some]
theorem zq3 {M : List (Slot × Int)} {k : Slot} {v : Int} (h : k ∉ M.map (·.1)) : updS M k v = M ++ [(k, v)] := by
 induction M with
 | nil => rfl
 | cons p r ih =>
  rw [List.map_cons, List.mem_cons, not_or] at h
  simp only [updS, if_neg h.1, ih h.2, List.cons_append]
theorem zt6 {M : List (Slot × Int)} {kv : V} {k : Slot} (hk : KeyV kv k) (h : k ∉ M.map (·.1)) : ∀ {i : Nat}, findD Try.prog 84 kv (M.map fun p => (zK p.1, V.d (.int .i64 p.2))) i = some none := by
 induction M with
 | nil => exact fun {i} => rfl
 | cons p r ih =>
  intro i
  rw [List.map_cons, List.mem_cons, not_or] at h
  have h1 : (k == p.1) = false := by rw [beq_eq_false_iff_ne]; exact h.1
  simp only [List.map_cons, findD, hk.eq, h1]
  exact ih h.2
theorem zpm {S : zA} {i : Nat} {M : List (Slot × Int)} {kv : V} {k : Slot} (hk : KeyV kv k) (h : MapS S i M) (hn : k ∉ M.map (·.1)) : jR Try.prog S 118 (.mr i) kv true = some (.tup [.d (.int .i64 0), .d (.bool false)]) := by
 obtain ⟨es, c, h1, h2⟩ := h
 have h3 := zt6 hk hn (i := 0)
 simp only [jR, Try.underlying118, hk.ok, if_true, jZ, h1, h2.1, z3, h3]
theorem zqt (a b : List UInt8) : Ev cfg 114 [.str a, .str b] (.ret (.d (.bool (wD a b)))) := by
 refine z1r rfl rfl zt1 ?_
 show Wp cfg (Try.f114.body.getD .skip) ((.d (.str a)) :: (.d (.str b)) :: (.tup []) :: (.tup []) :: (.tup []) :: (.tup []) :: (.tup []) :: (.tup []) :: []) [] [] _
 conv => arg 2; whnf
 have e : binV Try.prog .lss 9 (.d (.str a)) (.d (.str b)) = some (.d (.bool (wD a b))) := by
  have e : binV Try.prog .lss 9 (.d (.str a)) (.d (.str b)) = some (.d (.bool (Op.bytesLess a b))) := by kernel_rfl
  rw [e, z7b]
 simp (maxSteps:=1000000) (disch:=first|assumption|omega|rfl) only [↓gp, gc, Nat.reduceAdd, e]
 exact qN rfl rfl rfl
theorem zjx {ops : Array Oper} {dst : Option Tmp} {k : List Oper} {T : List V} {S : zA} {F : Dfs} {Q : Post} {a b : List UInt8} : WpR cfg ops dst k T S F Q (some (.enter 114 [.d (.str a), .d (.str b)])) = WpL cfg ops k (putT T dst (.d (.bool (wD a b)))) S F Q :=
 jI (ds := [.str a, .str b]) rfl (zqt a b)
def vL (a b : Slot) : Bool := decide (a.dir < b.dir) || (decide (a.dir = b.dir) && wD a.name b.name)
theorem zwf : (zF Try.prog 114).isSome = true := by kernel_rfl
theorem zoi (a b : Slot) : Ev cfg 104 [zK a, zK b] (.ret (.d (.bool (vL a b)))) := by
 refine z1r rfl rfl zu1 ?_
 show Wp cfg (Try.f104.body.getD .skip) ((.d (zK a)) :: (.d (zK b)) :: uZ (uZ ((.tup []) :: (.tup []) :: []))) [] [] _
 unfold uZ
 conv => arg 2; whnf
 generalize hr : vL a b = r
 unfold vL at hr
 by_cases c1 : a.dir < b.dir
 ·rw [decide_eq_true c1, Bool.true_or] at hr
  subst hr
  simp (maxSteps:=1000000) (disch:=first|assumption|omega|rfl) only [↓gp, gc, Nat.reduceAdd, tyS]
  exact qN rfl rfl rfl
 ·rw [decide_eq_false c1, Bool.false_or] at hr
  by_cases c2 : a.dir = b.dir
  ·rw [decide_eq_true c2, Bool.true_and] at hr
   simp (maxSteps:=1000000) (disch:=first|assumption|omega|rfl) only [↓gp, gc, Nat.reduceAdd, tyS, zjx, zwf, hr]
   exact qN rfl rfl rfl
  ·rw [decide_eq_false c2, Bool.false_and] at hr
   subst hr
   simp (maxSteps:=1000000) (disch:=first|assumption|omega|rfl) only [↓gp, gc, Nat.reduceAdd, tyS]
   exact qN rfl rfl rfl
theorem zcz {a : Slot} : vL a a = false := by unfold vL; rw [z6i]; simp
theorem z6l {a b c : Slot} (h1 : vL a b = true) (h2 : vL b c = true) : vL a c = true := by
 unfold vL at *
 simp only [Bool.or_eq_true, Bool.and_eq_true, decide_eq_true_eq] at *
 rcases h1 with h1 | ⟨h1, h3⟩ <;> rcases h2 with h2 | ⟨h2, h4⟩
 ·exact .inl (by omega)
 ·exact .inl (by omega)
 ·exact .inl (by omega)
 ·exact .inr ⟨by omega, z2b h3 h4⟩
theorem zl5 {a b : Slot} (h : vL a b = false) (hne : a ≠ b) : vL b a = true := by
 unfold vL at *
 simp only [Bool.or_eq_false_iff, Bool.and_eq_false_iff, decide_eq_false_iff_not] at h
 simp only [Bool.or_eq_true, Bool.and_eq_true, decide_eq_true_eq]
 obtain ⟨h1, h2⟩ := h
 by_cases c : b.dir < a.dir
 ·exact .inl c
 ·have e : b.dir = a.dir := by omega
  refine .inr ⟨e, ?_⟩
  rcases h2 with h2 | h2
  ·exact absurd e.symm h2
  ·have := z8u (a := a.name) (b := b.name)
   rw [h2, Bool.false_or] at this
   rw [this]
   have hn : a.name ≠ b.name := fun hh => hne (by cases a; cases b; simp_all)
   simp [hn]
def SrtS (l : List Slot) : Prop := l.Pairwise fun a b => vL a b = true
theorem z8s : ∀ {l m : List Slot}, SrtS l → SrtS m → (∀ x, x ∈ l ↔ x ∈ m) → l = m
 | [], [], _, _, _ => rfl
 | [], b :: m, _, _, h => by have := (h b).2 (by simp); cases this
 | a :: l, [], _, _, h => by have := (h a).1 (by simp); cases this
 | a :: l, b :: m, h1, h2, h => by
  obtain ⟨g1, g2⟩ := List.pairwise_cons.1 h1
  obtain ⟨g3, g4⟩ := List.pairwise_cons.1 h2
  have e : a = b := Classical.byContradiction fun hne => by
   have ha : a ∈ m := by
    rcases List.mem_cons.1 ((h a).1 (by simp)) with hh | hh
    ·exact absurd hh hne
    ·exact hh
   have hb : b ∈ l := by
    rcases List.mem_cons.1 ((h b).2 (by simp)) with hh | hh
    ·exact absurd hh.symm hne
    ·exact hh
   have := z6l (g1 b hb) (g3 a ha)
   rw [zcz] at this
   cases this
  subst e
  congr 1
  refine z8s g2 g4 fun x => ⟨fun hx => ?_, fun hx => ?_⟩
  ·rcases List.mem_cons.1 ((h x).1 (by simp [hx])) with hh | hh
   ·subst hh; have := g1 x hx; rw [zcz] at this; cases this
   ·exact hh
  ·rcases List.mem_cons.1 ((h x).2 (by simp [hx])) with hh | hh
   ·subst hh; have := g3 x hx; rw [zcz] at this; cases this
   ·exact hh
def insS (s : Slot) : List Slot → List Slot
 | [] => [s]
 | x :: r => if vL s x = true then s :: x :: r else if s = x then x :: r else x :: insS s r
theorem zc5 {s x : Slot} : ∀ {l : List Slot}, x ∈ insS s l ↔ x = s ∨ x ∈ l
 | [] => by simp [insS]
 | y :: r => by
  unfold insS
  split
  ·simp
  split
  ·rename_i h; subst h; simp
  ·simp only [List.mem_cons, zc5 (l := r)]
   constructor
   ·rintro (h | h | h) <;> simp [h]
   ·rintro (h | h | h) <;> simp [h]
theorem zj4 {s : Slot} : ∀ {l : List Slot}, SrtS l → SrtS (insS s l)
 | [], _ => by simp [insS, SrtS]
 | y :: r, h => by
  obtain ⟨g1, g2⟩ := List.pairwise_cons.1 h
  unfold insS
  split
  ·rename_i hs
   refine List.pairwise_cons.2 ⟨fun x hx => ?_, h⟩
   rcases List.mem_cons.1 hx with rfl | hx
   ·exact hs
   ·exact z6l hs (g1 x hx)
  split
  ·exact h
  ·rename_i hs hne
   refine List.pairwise_cons.2 ⟨fun x hx => ?_, zj4 g2⟩
   rcases zc5.1 hx with rfl | hx
   ·exact zl5 (by simpa using hs) hne
   ·exact g1 x hx
def z8c (l : List Slot) : List Slot := l.foldr insS []
theorem z1o {x : Slot} : ∀ {l : List Slot}, x ∈ z8c l ↔ x ∈ l
 | [] => Iff.rfl
 | y :: r => by
  show x ∈ insS y (z8c r) ↔ _
  rw [zc5, z1o, List.mem_cons]
theorem z2f : ∀ {l : List Slot}, SrtS (z8c l)
 | [] => List.Pairwise.nil
 | y :: r => zj4 (z2f (l := r))
def q2j (S : zA) (j i c : Nat) (seen : List Nat) : List (D × V × Nat) → List Rs
 | [] => [.val (.tup [.d (.bool false)]) S 3]
 | l => l.map fun e => .val (.tup [.d (.bool true), .d e.1, e.2.1]) (S.set j (.mit i c (seen ++ [e.2.2]) c)) 3
theorem z64 {S : zA} {i j c : Nat} {es : List (D × V × Nat)} {seen : List Nat} (h1 : S[i]? = some (.mp es c)) (h2 : S[j]? = some (.mit i c seen c)) (hc : ∀ e ∈ es, e.2.2 < c) : z9u S (.it j) = some (q2j S j i c seen (es.filter fun e => !seen.contains e.2.2)) := by
 have h3 : (!seen.isEmpty && !es.isEmpty && es.all fun e => decide (e.2.2 ≥ c)) = false := by
  cases es with
  | nil => simp
  | cons e r =>
   have := hc e (by simp)
   have h4 : decide (e.2.2 ≥ c) = false := decide_eq_false (by omega)
   simp [h4]
 have h5 : ((es.filter fun e => !seen.contains e.2.2).all fun e => decide (e.2.2 < c)) = true := by
  rw [List.all_eq_true]
  intro e he
  exact decide_eq_true (hc e (List.mem_filter.1 he).1)
 simp only [z9u, h2, h1, h3, h5, Bool.false_eq_true, if_false, if_true]
 cases hl : es.filter fun e => !seen.contains e.2.2 with
 | nil => rfl
 | cons a b => rfl
theorem find_born {e : D × V × Nat} : ∀ {es : List (D × V × Nat)}, (es.map (·.2.2)).Nodup → e ∈ es → es.find? (fun x => x.2.2 == e.2.2) = some e
 | [], _, he => by cases he
 | a :: r, hn, he => by
  rw [List.map_cons, List.nodup_cons] at hn
  rw [List.find?_cons]
  rcases List.mem_cons.1 he with rfl | he
  ·simp
  ·have : (a.2.2 == e.2.2) = false := by
    rw [beq_eq_false_iff_ne]
    exact fun hh => hn.1 (hh ▸ List.mem_map_of_mem he)
   rw [this]
   exact find_born hn.2 he
theorem zfl {S : zA} {i j c : Nat} {es : List (D × V × Nat)} {seen : List Nat} {e : D × V × Nat} (h1 : S[i]? = some (.mp es c)) (h2 : S[j]? = some (.mit i c (seen ++ [e.2.2]) c)) (hn : (es.map (·.2.2)).Nodup) (he : e ∈ es) : z14 S (.it j) = some (.val (.tup [.d e.1, e.2.1]) S 3) := by
 have h3 := find_born hn he
 simp only [z14, h2, h1, if_true, List.getLast?_append, List.getLast?_singleton, Option.some_or, h3]
section
variable {C : Cfg} {ops : Array Oper} {dst : Option Tmp} {ty : TypeId} {pos : String} {after : Array Edge} {l : List Oper} {T : List V} {S : zA} {F : Dfs} {Q : Post}
theorem zia {it : Operand} : WpL C ops (⟨dst, .entry it, ty, pos, after, none⟩ :: l) T S F Q = WpR C ops dst l T S F Q (z14 S (zG T it)) := by
 rw [vV rfl]; rfl
theorem z8y {x : Operand} (hP : C.P = Try.prog) : WpL C ops (⟨dst, .range 118 x, ty, pos, after, none⟩ :: l) T S F Q = WpR C ops dst l T S F Q (z16 S (zG T x)) := by
 rw [vV rfl]
 simp only [opV, hP, Try.underlying118]
theorem zfi {i c : Nat} {es : List (D × V × Nat)} (h : S[i]? = some (.mp es c)) : z16 S (.mr i) = some (.val (.it S.length) (S ++ [.mit i c [] c]) 2) := by
 simp only [z16, h]
end
theorem q17 {S : zA} : bs1 Try.prog S 81 (.agg [.d (.int .i64 0), .d (.str [])]) = some (.val (.ts [zK ⟨0, []⟩]) S 0) := by kernel_rfl
theorem q21 : z1j Try.prog 84 [] = some (.agg [.d (.int .i64 0), .d (.str [])]) := by kernel_rfl
theorem sz84 : (sz Try.prog 84).isSome = true := by kernel_rfl
theorem zth {S : zA} {v : V} {l : List Slot} {k : Nat} {z : Slot} (h : SlE zK S v 84 (l ++ [z])) (hk : k ≤ l.length) : ∃ id ys, v = .rs id 0 (l.length + 1) ∧ S[id]? = some (.row (((l ++ [z]) ++ ys).map fun a => .d (zK a)) 84) ∧
  qT Try.prog S 81 v (some (.d (.int .i64 ((k + 1 : Nat) : Int)))) none = some (.rs id (k + 1) (l.length - k)) ∧
  qT Try.prog S 81 v (some (.d (.int .i64 (k : Int)))) none = some (.rs id k (l.length + 1 - k)) ∧
  copyV Try.prog S 81 81 (.rs id (k + 1) (l.length - k)) (.rs id k (l.length + 1 - k)) = some (.d (.int .i64 ((l.length - k : Nat) : Int)), S.set id (.row (((l ++ [z]).take (k + 1) ++ l.drop k ++ ys).map fun a => .d (zK a)) 84)) := by
 rcases h with ⟨rfl, hh⟩ | ⟨id, ys, hv, h1⟩
 ·simp at hh
 have hlen : (l ++ [z]).length = l.length + 1 := by simp
 rw [hlen] at hv
 subst hv
 have h3 : rowT S id 84 = true := by simp only [rowT, h1, beq_self_eq_true]
 refine ⟨id, ys, rfl, h1, ?_, ?_, ?_⟩
 ·have hb := bnd (y := l.length + 1) (d := 0) (k := k + 1) (by omega)
  have e : l.length + 1 - (k + 1) = l.length - k := by omega
  simp only [qT, Try.underlying81, wO, hb, h3, sz84, Bool.and_self, if_true, Nat.zero_add, e]
 ·have hb := bnd (y := l.length + 1) (d := 0) (k := k) (by omega)
  simp only [qT, Try.underlying81, wO, hb, h3, sz84, Bool.and_self, if_true, Nat.zero_add]
 ·have hl : (((l ++ [z]) ++ ys).map fun a => V.d (zK a)).length = l.length + 1 + ys.length := by simp; omega
  have hle : k + (l.length + 1 - k) ≤ l.length + 1 + ys.length := by omega
  have hle2 : k + 1 + (l.length - k) ≤ l.length + 1 + ys.length := by omega
  have hsrc : ((((l ++ [z]) ++ ys).map fun a => V.d (zK a)).drop k).take (l.length + 1 - k) = ((l ++ [z]).drop k).map fun a => V.d (zK a) := by
   rw [← List.map_drop, ← List.map_take, List.drop_append_of_le_length (by simp; omega), List.take_append_of_le_length (by simp), List.take_of_length_le (by simp)]
  have hfit : (((l ++ [z]).drop k).map fun a => V.d (zK a)).all (qD Try.prog 84) = true := by
   rw [List.all_eq_true]
   intro x hx
   obtain ⟨a, _, rfl⟩ := List.mem_map.1 hx
   exact zn6 a
  have hmin : min (((l ++ [z]).drop k).map fun a => V.d (zK a)).length (l.length - k) = l.length - k := by
   rw [List.length_map, List.length_drop, hlen]; omega
  have e1 : (((l ++ [z]) ++ ys).map fun a => V.d (zK a)).take (k + 1) = ((l ++ [z]).take (k + 1)).map fun a => V.d (zK a) := by
   rw [← List.map_take, List.take_append_of_le_length (by simp; omega)]
  have e2 : (((l ++ [z]).drop k).map fun a => V.d (zK a)).take (l.length - k) = (l.drop k).map fun a => V.d (zK a) := by
   rw [← List.map_take, List.drop_append_of_le_length hk, List.take_append_of_le_length (by simp), List.take_of_length_le (by simp)]
  have e3 : (((l ++ [z]) ++ ys).map fun a => V.d (zK a)).drop (k + 1 + (l.length - k)) = ys.map fun a => V.d (zK a) := by
   rw [← List.map_drop, show k + 1 + (l.length - k) = (l ++ [z]).length by rw [hlen]; omega, List.drop_left]
  rw [show (((l ++ [z]).take (k + 1) ++ l.drop k ++ ys).map fun a => V.d (zK a)) = ((l ++ [z]).take (k + 1)).map (fun a => V.d (zK a)) ++ (l.drop k).map (fun a => V.d (zK a)) ++ ys.map (fun a => V.d (zK a)) by rw [List.map_append, List.map_append]]
  simp only [copyV, srcV, kU, Try.underlying81, h1, hl, hle, hle2, if_true, hsrc, hfit, sz84, Bool.and_self, hmin, decide_true, e1, e2, e3]
theorem zv7 {l : List Slot} {k : Nat} {s z : Slot} {ys : List Slot} (hk : k ≤ l.length) : ((l ++ [z]).take (k + 1) ++ l.drop k ++ ys).set k s = (l.take k ++ s :: l.drop k) ++ ys := by
 have h1 : (l ++ [z]).take (k + 1) = l.take k ++ [(l ++ [z])[k]'(by simp; omega)] := by
  rw [List.take_add_one, List.getElem?_eq_getElem (by simp; omega), List.take_append_of_le_length hk]
  rfl
 rw [h1, List.append_assoc, List.append_assoc, List.set_append_right _ _ (by rw [List.length_take]; omega)]
 have h2 : k - (l.take k).length = 0 := by rw [List.length_take]; omega
 rw [h2]
 simp
theorem zid {ops : Array Oper} {F : Dfs} {Q : Post} {K : List Nat → List (Nat × Nat) → List V → zA → Prop} {rd : List Nat} {cs : List (Nat × Nat)} {i : Nat} {dst : Option Tmp} {T : List V} {S : zA} {a b : Slot} :
  WpE cfg ops F Q K rd cs i dst T S (some (.enter 104 [.d (zK a), .d (zK b)])) = K (i :: rd) (cs ++ [(i, 1)]) (putT T dst (.d (.bool (vL a b)))) S :=
 z69 (ds := [zK a, zK b]) rfl (zoi a b)
theorem zrv : (zF Try.prog 104).isSome = true := by kernel_rfl
theorem zmg (l : List Slot) (s : Slot) (v : V) (m : Nat) (hl : l.length < 900000) (R : Post) (x0 x2 x7 : V) (S : zA) (hv : SlE zK S v 84 l) (hm : S[m]? = some (.row [.d (zK s)] 84)) : ∀ (k : Nat) (g1 g6 g8 g9 gP gQ gM gF gD gG gH gC gA gB gK gE gL gI gJ gN gO gR gS gT gX gW gU gV gZ gY gi gf gg gh gj gk gm gn : V), k ≤ l.length → (∀ x ∈ l.drop k, vL s x = true) →
 (∀ (k' : Nat) g1 g6 g8 g9 gP gQ gM gF gD gG gH gC gA gB gK gE gL gI gJ gN gO gR gS gT gX gW gU gV gZ gY gi gf gg gh gj gk gm gn, k' ≤ l.length → (∀ x ∈ l.drop k', vL s x = true) → (∀ h : 0 < k', ∀ h2 : k' - 1 < l.length, vL s (l[k' - 1]) = false) → R (.exit 2) (x0 :: g1 :: x2 :: v :: (.ref m 0 0) :: (.d (.int .i64 k')) :: g6 :: x7 :: g8 :: g9 :: gP :: gQ :: gM :: gF :: gD :: gG :: gH :: gC :: gA :: gB :: gK :: gE :: gL :: gI :: gJ :: gN :: gO :: gR :: gS :: gT :: gX :: gW :: gU :: gV :: gZ :: gY :: gi :: gf :: gg :: gh :: gj :: gk :: gm :: gn :: []) S []) →
 Wp cfg (.loop (lpOf (Try.f73.body.getD .skip) 2)) (x0 :: g1 :: x2 :: v :: (.ref m 0 0) :: (.d (.int .i64 k)) :: g6 :: x7 :: g8 :: g9 :: gP :: gQ :: gM :: gF :: gD :: gG :: gH :: gC :: gA :: gB :: gK :: gE :: gL :: gI :: gJ :: gN :: gO :: gR :: gS :: gT :: gX :: gW :: gU :: gV :: gZ :: gY :: gi :: gf :: gg :: gh :: gj :: gk :: gm :: gn :: []) S [] R := by
 have q := zC hm
 intro k
 induction k with
 | zero =>
  intro g1 g6 g8 g9 gP gQ gM gF gD gG gH gC gA gB gK gE gL gI gJ gN gO gR gS gT gX gW gU gV gZ gY gi gf gg gh gj gk gm gn hk hd hR
  have h0 : ¬ (((0 : Nat) : Int) > 0) := by omega
  rw [qQ]
  refine qC ?_
  conv => arg 2; whnf
  simp (maxSteps:=1000000) (disch:=first|assumption|omega|rfl) only [↓gp, gc, Nat.reduceAdd]
  refine jA (is := [0, 1, 2, 3, 4, 5, 6, 7, 8, 9, 10]) (h := 0) (by kernel_rfl) (by kernel_rfl) ?_
  simp (maxSteps:=1000000) (disch:=first|assumption|omega|rfl) only [List.replicate_zero, eq_self, gd, ga, Nat.reduceAdd, ↓gq, tyS, List.append_nil]
  refine ⟨by kernel_rfl, ?_⟩
  simp (maxSteps:=1000000) (disch:=first|assumption|omega|rfl) only [↓gp, gc, Nat.reduceAdd, tyS]
  exact hR 0 _ _ _ _ _ _ _ _ _ _ _ _ _ _ _ _ _ _ _ _ _ _ _ _ _ _ _ _ _ _ _ _ _ _ _ _ _ _ hk hd (fun h => absurd h (by omega))
 | succ k ih =>
  intro g1 g6 g8 g9 gP gQ gM gF gD gG gH gC gA gB gK gE gL gI gJ gN gO gR gS gT gX gW gU gV gZ gY gi gf gg gh gj gk gm gn hk hd hR
  have hlt : k < l.length := by omega
  obtain ⟨id, hix, hrd, _⟩ := hv.ix Try.underlying81 sz84 hlt
  have h0 : (((k + 1 : Nat) : Int) > 0) := by omega
  have hk1 : ((k + 1 : Nat) : Int) - 1 = (k : Int) := by omega
  rw [qQ]
  refine qC ?_
  conv => arg 2; whnf
  simp (maxSteps:=1000000) (disch:=first|assumption|omega|rfl) only [↓gp, gc, Nat.reduceAdd]
  refine jA (is := [0, 1, 2, 3, 4, 5, 6, 7, 8, 9, 10]) (h := 0) (by kernel_rfl) (by kernel_rfl) ?_
  cases hls : vL s l[k] with
  | true =>
   simp (maxSteps:=1000000) (disch:=first|assumption|omega|rfl) only [List.replicate_zero, eq_self, gd, ga, Nat.reduceAdd, ↓gq, tyS, List.append_nil, q, hk1, hix, hrd, zid, zrv, hls]
   refine ⟨by kernel_rfl, ?_⟩
   simp (maxSteps:=1000000) (disch:=first|assumption|omega|rfl) only [↓gp, gc, Nat.reduceAdd, tyS, hk1]
   refine ih _ _ _ _ _ _ _ _ _ _ _ _ _ _ _ _ _ _ _ _ _ _ _ _ _ _ _ _ _ _ _ _ _ _ _ _ _ _ (by omega) (fun x hx => ?_) hR
   rw [List.drop_eq_getElem_cons hlt] at hx
   rcases List.mem_cons.1 hx with rfl | hx
   ·exact hls
   ·exact hd x hx
  | false =>
   simp (maxSteps:=1000000) (disch:=first|assumption|omega|rfl) only [List.replicate_zero, eq_self, gd, ga, Nat.reduceAdd, ↓gq, tyS, List.append_nil, q, hk1, hix, hrd, zid, zrv, hls]
   refine ⟨by kernel_rfl, ?_⟩
   simp (maxSteps:=1000000) (disch:=first|assumption|omega|rfl) only [↓gp, gc, Nat.reduceAdd, tyS, hk1]
   exact hR (k + 1) _ _ _ _ _ _ _ _ _ _ _ _ _ _ _ _ _ _ _ _ _ _ _ _ _ _ _ _ _ _ _ _ _ _ _ _ _ _ hk hd (fun _ h2 => by simpa using hls)
theorem z2w {C : Cfg} {ops : Array Oper} {dst : Option Tmp} {ty : TypeId} {pos : String} {after : Array Edge} {l : List Oper} {T : List V} {S : zA} {F : Dfs} {Q : Post} {x : Operand} {ix : Nat} {vs : List V} {v : V} (hx : zG T x = .tup vs) (hv : vs[ix]? = some v) (h : WpL C ops l (putT T dst v) S F Q) : WpL C ops (⟨dst, .extract x ix, ty, pos, after, none⟩ :: l) T S F Q := by
 rw [vV rfl]
 simp only [opV, hx, hv]
 exact h
theorem z6c {a b : Slot} (h : zK a = zK b) : a = b := by
 obtain ⟨a1, a2⟩ := a
 obtain ⟨b1, b2⟩ := b
 simp only [zK, D.agg.injEq, List.cons.injEq, D.int.injEq, D.str.injEq, true_and, and_true] at h
 rw [h.1, h.2]
theorem zcg {b : Nat} : ∀ {L : List (D × V × Nat)}, (L.map (·.2.2)).Nodup → b ∈ L.map (·.2.2) → (L.filter fun x => !(x.2.2 == b)).length + 1 = L.length
 | [], _, h => by cases h
 | x :: r, hn, h => by
  rw [List.map_cons, List.nodup_cons] at hn
  by_cases hx : x.2.2 = b
  ·have e : (r.filter fun x => !(x.2.2 == b)) = r := List.filter_eq_self.2 fun y hy => by
    have : y.2.2 ≠ b := fun hh => hn.1 (by rw [hx, ← hh]; exact List.mem_map_of_mem hy)
    simpa using this
   have h1 : (!(x.2.2 == b)) = false := by rw [hx]; simp
   rw [List.filter_cons, h1]
   simp only [Bool.false_eq_true, if_false, e, List.length_cons]
  ·have h1 : (!(x.2.2 == b)) = true := by simpa using hx
   rw [List.filter_cons, h1]
   simp only [if_true, List.length_cons]
   rw [zcg hn.2 (by
    rcases List.mem_cons.1 h with hh | hh
    ·exact absurd hh.symm hx
    ·exact hh)]
theorem zuy {l : List Slot} {s : Slot} {k : Nat} (h : SrtS l) (hs : s ∉ l) (hk : k ≤ l.length) (hd : ∀ x ∈ l.drop k, vL s x = true) (hb : ∀ h : 0 < k, ∀ h2 : k - 1 < l.length, vL s (l[k - 1]) = false) : SrtS (l.take k ++ s :: l.drop k) := by
 have hta : ∀ a ∈ l.take k, vL a s = true := fun a ha => by
  obtain ⟨m, hm, rfl⟩ := List.getElem_of_mem ha
  rw [List.length_take] at hm
  have h2 : k - 1 < l.length := by omega
  have h3 := zl5 (hb (by omega) h2) (fun hh => hs (hh ▸ List.getElem_mem h2))
  rw [List.getElem_take]
  by_cases e : m = k - 1
  ·subst e; exact h3
  ·exact z6l (List.pairwise_iff_getElem.1 h m (k - 1) (by omega) h2 (by omega)) h3
 refine List.pairwise_append.2 ⟨h.sublist (List.take_sublist k l), List.pairwise_cons.2 ⟨hd, h.sublist (List.drop_sublist k l)⟩, fun a ha b hb2 => ?_⟩
 rcases List.mem_cons.1 hb2 with rfl | hb2
 ·exact hta a ha
 ·exact z6l (hta a ha) (hd b hb2)
theorem zs1 {l : List Slot} {s x : Slot} {k : Nat} : x ∈ l.take k ++ s :: l.drop k ↔ x = s ∨ x ∈ l := by
 rw [List.mem_append, List.mem_cons]
 constructor
 ·rintro (h | h | h)
  ·exact .inr (List.mem_of_mem_take h)
  ·exact .inl h
  ·exact .inr (List.mem_of_mem_drop h)
 ·rintro (h | h)
  ·exact .inr (.inl h)
  ·rw [← List.take_append_drop k l] at h
   rcases List.mem_append.1 h with h | h
   ·exact .inl h
   ·exact .inr (.inr h)
theorem z6e {α β : Type} {f : α → β} {x y : α} : ∀ {l : List α}, (l.map f).Nodup → x ∈ l → y ∈ l → f x = f y → x = y
 | [], _, hx, _, _ => by cases hx
 | a :: r, hn, hx, hy, h => by
  rw [List.map_cons, List.nodup_cons] at hn
  rcases List.mem_cons.1 hx with hx2 | hx2 <;> rcases List.mem_cons.1 hy with hy2 | hy2
  ·rw [hx2, hy2]
  ·exact absurd (by rw [← hx2, h]; exact List.mem_map_of_mem hy2) hn.1
  ·exact absurd (by rw [← hy2, ← h]; exact List.mem_map_of_mem hx2) hn.1
  ·exact z6e hn.2 hx2 hy2 h
theorem q1n : zOk Try.prog 84 = true := by kernel_rfl
theorem zwo {n : Nat} (h : n ≤ 1000000) : room Try.prog 84 n = true := z38 (P := Try.prog) (e := 84) rfl (by decide) h
theorem zmh {S : zA} {id k : Nat} {xs : List V} {e : TypeId} {y : V} (h : S[id]? = some (.row xs e)) : z11 S id k y = some (S.set id (.row (xs.set k y) e)) := by simp only [z11, h]
theorem zqy (S0 : zA) (i c : Nat) (es : List (D × V × Nat)) (M : List (Slot × Int)) (hi : S0[i]? = some (.mp es c)) (hM : es.map (fun e => (e.1, e.2.1)) = M.map fun p => (zK p.1, V.d (.int .i64 p.2))) (hn : (es.map (·.2.2)).Nodup) (hc : ∀ e ∈ es, e.2.2 < c) (hkn : (es.map (·.1)).Nodup) (hl : es.length < 800000) (Q : Post) (x2 : V) :
 ∀ (n : Nat) (seen : List Nat) (l : List Slot) (S : zA) (v : V) (j : Nat) (g1 g4 g5 g6 g8 g9 gP gQ gM gF gD gG gH gC gA gB gK gE gL gI gJ gN gO gR gS gT gX gW gU gV gZ gY gi gf gg gh gj gk gm gn : V), (es.filter fun e => !seen.contains e.2.2).length = n → Keep S0 S → S[j]? = some (.mit i c seen c) → S0.length ≤ j → SlE zK S v 84 l → (∀ a, idOf v = some a → S0.length ≤ a) → SrtS l → (∀ x : Slot, x ∈ l ↔ ∃ e ∈ es, seen.contains e.2.2 = true ∧ e.1 = zK x) → l.length + n ≤ es.length →
 (∀ S v l g1 g4 g5 g6 g8 g9 gP gQ gM gF gD gG gH gC gA gB gK gE gL gI gJ gN gO gR gS gT gX gW gU gV gZ gY gi gf gg gh gj gk gm gn, Keep S0 S → SlE zK S v 84 l → SrtS l → (∀ x : Slot, x ∈ l ↔ x ∈ M.map (·.1)) → Q (.exit 0) ((.mr i) :: g1 :: x2 :: v :: g4 :: g5 :: g6 :: (.it j) :: g8 :: g9 :: gP :: gQ :: gM :: gF :: gD :: gG :: gH :: gC :: gA :: gB :: gK :: gE :: gL :: gI :: gJ :: gN :: gO :: gR :: gS :: gT :: gX :: gW :: gU :: gV :: gZ :: gY :: gi :: gf :: gg :: gh :: gj :: gk :: gm :: gn :: []) S []) →
 EOk cfg (.loop (lpOf (Try.f73.body.getD .skip) 0)) ((.mr i) :: g1 :: x2 :: v :: g4 :: g5 :: g6 :: (.it j) :: g8 :: g9 :: gP :: gQ :: gM :: gF :: gD :: gG :: gH :: gC :: gA :: gB :: gK :: gE :: gL :: gI :: gJ :: gN :: gO :: gR :: gS :: gT :: gX :: gW :: gU :: gV :: gZ :: gY :: gi :: gf :: gg :: gh :: gj :: gk :: gm :: gn :: []) S [] Q := by
 intro n
 induction n with
 | zero =>
  intro seen l S v j g1 g4 g5 g6 g8 g9 gP gQ gM gF gD gG gH gC gA gB gK gE gL gI gJ gN gO gR gS gT gX gW gU gV gZ gY gi gf gg gh gj gk gm gn hn0 hK hj hjl hv hid hs hm hlen hQ
  have hnil := List.length_eq_zero_iff.1 hn0
  refine z6x ?_
  conv => arg 2; whnf
  refine kQ ?_
  refine z8j extC wG rfl (z64 (hK _ _ hi) hj hc) ?_
  rw [hnil]
  intro x hx
  rw [List.mem_singleton.1 hx]
  refine ⟨_, _, _, rfl, ?_⟩
  refine z2w rfl rfl ⟨0, _, _, _, _, rfl, ?_⟩
  show EOk cfg _ _ _ _ _
  refine wS extC wG ?_
  show Wp cfg _ _ _ _ (post cfg [] _)
  simp (maxSteps:=1000000) (disch:=first|assumption|omega|rfl) only [↓gp, gc, Nat.reduceAdd]
  refine hQ S v l _ _ _ _ _ _ _ _ _ _ _ _ _ _ _ _ _ _ _ _ _ _ _ _ _ _ _ _ _ _ _ _ _ _ _ _ _ _ _ _ hK hv hs fun x => ?_
  rw [hm x]
  constructor
  ·rintro ⟨e, he, _, h2⟩
   have h3 : (e.1, e.2.1) ∈ M.map fun p => (zK p.1, V.d (.int .i64 p.2)) := by rw [← hM]; exact List.mem_map_of_mem he
   obtain ⟨p, hp, h4⟩ := List.mem_map.1 h3
   have h5 : zK p.1 = zK x := by rw [← h2]; exact (Prod.mk.inj h4).1
   have h6 : p.1 = x := by
    obtain ⟨⟨a, b⟩, w⟩ := p
    obtain ⟨a', b'⟩ := x
    simp only [zK, D.agg.injEq, List.cons.injEq, D.int.injEq, D.str.injEq, true_and, and_true] at h5
    rw [h5.1, h5.2]
   rw [← h6]
   exact List.mem_map_of_mem hp
  ·intro hx
   obtain ⟨p, hp, rfl⟩ := List.mem_map.1 hx
   have h3 : (zK p.1, V.d (.int .i64 p.2)) ∈ es.map fun e => (e.1, e.2.1) := by rw [hM]; exact List.mem_map_of_mem (f := fun p : Slot × Int => (zK p.1, V.d (.int .i64 p.2))) hp
   obtain ⟨e, he, h4⟩ := List.mem_map.1 h3
   refine ⟨e, he, ?_, (Prod.mk.inj h4).1⟩
   cases hs : seen.contains e.2.2 with
   | true => rfl
   | false =>
    have : e ∈ es.filter fun e => !seen.contains e.2.2 := List.mem_filter.2 ⟨he, by rw [hs]; rfl⟩
    rw [hnil] at this
    cases this
 | succ n ih =>
  intro seen l S v j g1 g4 g5 g6 g8 g9 gP gQ gM gF gD gG gH gC gA gB gK gE gL gI gJ gN gO gR gS gT gX gW gU gV gZ gY gi gf gg gh gj gk gm gn hn0 hK hj hjl hv hid hs hm hlen hQ
  refine z6x ?_
  conv => arg 2; whnf
  refine kQ ?_
  refine z8j extC wG rfl (z64 (hK _ _ hi) hj hc) ?_
  intro x hx
  obtain ⟨e, heL, rfl⟩ : ∃ e ∈ es.filter (fun e => !seen.contains e.2.2), x = .val (.tup [.d (.bool true), .d e.1, e.2.1]) (S.set j (.mit i c (seen ++ [e.2.2]) c)) 3 := by
   cases hL : es.filter fun e => !seen.contains e.2.2 with
   | nil => rw [hL] at hn0; cases hn0
   | cons a q =>
    rw [hL] at hx
    obtain ⟨e, h1, h2⟩ := List.mem_map.1 hx
    exact ⟨e, h1, h2.symm⟩
  obtain ⟨he, hns⟩ := List.mem_filter.1 heL
  have hns : seen.contains e.2.2 = false := by simpa using hns
  obtain ⟨s, hes⟩ : ∃ s, e.1 = zK s := by
   have h3 : (e.1, e.2.1) ∈ M.map fun p => (zK p.1, V.d (.int .i64 p.2)) := by rw [← hM]; exact List.mem_map_of_mem he
   obtain ⟨p, _, h4⟩ := List.mem_map.1 h3
   exact ⟨p.1, (Prod.mk.inj h4).1.symm⟩
  refine ⟨_, _, _, rfl, z2w rfl rfl ⟨0, _, _, _, _, rfl, ?_⟩⟩
  show EOk cfg _ _ _ _ _
  refine wS extC wG ?_
  show Wp cfg _ _ _ _ (post cfg [] _)
  have hjS := zZ hj
  have hi0 := zZ hi
  obtain ⟨S1, hS1⟩ : ∃ S1, S.set j (.mit i c (seen ++ [e.2.2]) c) = S1 := ⟨_, rfl⟩
  have hother : ∀ k o, k ≠ j → S[k]? = some o → S1[k]? = some o := fun k o hkj h => by rw [← hS1, List.getElem?_set_ne (fun hh => hkj hh.symm)]; exact h
  have hmp : S1[i]? = some (.mp es c) := hother i _ (by omega) (hK _ _ hi)
  have hmj : S1[j]? = some (.mit i c (seen ++ [e.2.2]) c) := by rw [← hS1]; exact List.getElem?_set_self hjS
  have hen := zfl hmp hmj hn he
  rw [hes] at hen
  have hv1 : SlE zK S1 v 84 l := hv.frame2 fun k o hko hvk => hother k o (fun hh => by
   obtain ⟨ys, h2⟩ := hv.row hvk
   rw [hh, hj] at h2
   cases h2) hko
  have hv2 := hv1.keep (Keep.app (l := [Ob.row [.d (zK s)] 84]))
  have hlen2 := hv2.len (t := 81) Try.underlying81
  have hll : l.length < 900000 := by omega
  have hm2 := qK (S := S1) (o := Ob.row [.d (zK s)] 84)
  obtain ⟨v', S3, c3, ha, _, hv3, hf3, hid3, hlen3⟩ := zg8 (t := 81) (a := (⟨0, []⟩ : Slot)) Try.underlying81 q1n sz84 (zn6 _) (zwo (by omega)) hv2
  have hm3 := hf3 _ _ hm2 (fun hh => by have := hv1.lt hh; omega)
  rw [hS1]
  simp (maxSteps:=1000000) (disch:=first|assumption|omega|rfl) only [↓gp, gc, Nat.reduceAdd, ↓zia, hen, tyS, zL, zI, hlen2]
  refine zmg l s v S1.length hll _ _ _ _ _ hv2 hm2 l.length _ _ _ _ _ _ _ _ _ _ _ _ _ _ _ _ _ _ _ _ _ _ _ _ _ _ _ _ _ _ _ _ _ _ _ _ _ _ (Nat.le_refl _) (fun x hx => by rw [List.drop_length] at hx; cases hx) ?_
  intro k' g1 g6 g8 g9 gP gQ gM gF gD gG gH gC gA gB gK gE gL gI gJ gN gO gR gS gT gX gW gU gV gZ gY gi gf gg gh gj gk gm gn hk' hd' hb'
  obtain ⟨id, ys, rfl, hrow, hs1, hs2, hcp⟩ := zth hv3 hk'
  have hidv : id = (S1 ++ [Ob.row [.d (zK s)] 84]).length := by simpa [idOf] using hid3
  rw [List.length_append] at hidv
  have hidl : S1.length < id := by rw [hidv]; simp
  have hk1 : ((k' : Nat) : Int) + 1 = ((k' + 1 : Nat) : Int) := by omega
  have hidS3 := zZ hrow
  obtain ⟨S4, hS4⟩ : ∃ S4, S3.set id (.row (((l ++ [(⟨0, []⟩ : Slot)]).take (k' + 1) ++ l.drop k' ++ ys).map fun a => .d (zK a)) 84) = S4 := ⟨_, rfl⟩
  rw [hS4] at hcp
  have h4 : S4[id]? = some (.row (((l ++ [(⟨0, []⟩ : Slot)]).take (k' + 1) ++ l.drop k' ++ ys).map fun a => .d (zK a)) 84) := by rw [← hS4]; exact List.getElem?_set_self hidS3
  have hm4 : S4[S1.length]? = some (.row [.d (zK s)] 84) := by rw [← hS4, List.getElem?_set_ne (by omega)]; exact hm3
  have q4 := zC hm4
  have hlen4 : ((l ++ [(⟨0, []⟩ : Slot)]).take (k' + 1) ++ l.drop k').length = l.length + 1 := by simp; omega
  have hv4 : SlE zK S4 (.rs id 0 (l.length + 1)) 84 ((l ++ [(⟨0, []⟩ : Slot)]).take (k' + 1) ++ l.drop k') := .inr ⟨id, ys, by rw [hlen4], h4⟩
  obtain ⟨id', hix, hrd, _⟩ := hv4.ix Try.underlying81 sz84 (i := k') (by rw [hlen4]; omega)
  have hid' : id' = id := by
   have e : ∀ S, qJ Try.prog S 81 (.rs id 0 (l.length + 1)) (.d (.int .i64 k')) = some (.ref id' k' 0) → id' = id := fun S h => by
    simp only [qJ, intOf?, Try.underlying81] at h
    split at h
    ·simp only [Option.some.injEq, V.ref.injEq] at h; exact h.1.symm
    ·cases h
   exact e _ hix
  subst hid'
  have hpr := fun y => zmh (k := k') (y := y) h4
  simp (maxSteps:=1000000) (disch:=first|assumption|omega|rfl) only [↓gp, gc, Nat.reduceAdd, ↓vbs, tyS, q21, q17, ha]
  refine jA (is := [0, 1, 2, 3, 4, 5, 6, 7]) (h := 0) (by kernel_rfl) (by kernel_rfl) ?_
  simp (maxSteps:=1000000) (disch:=first|assumption|omega|rfl) only [List.replicate_zero, eq_self, gd, ga, Nat.reduceAdd, ↓gq, tyS, List.append_nil, Option.map_none, Option.map_some, hk1, hs1, hs2, zcm, hcp]
  refine ⟨fun _ => by kernel_rfl, by kernel_rfl, ?_⟩
  simp (maxSteps:=1000000) (disch:=first|assumption|omega|rfl) only [↓gp, gc, Nat.reduceAdd, tyS, q4, hix, hrd, hpr]
  have hsl : s ∉ l := fun hsl => by
   obtain ⟨e', he', hse, h2⟩ := (hm s).1 hsl
   have := z6e hkn he' he (h2.trans hes.symm)
   rw [this, hns] at hse
   cases hse
  have e5 := zv7 (l := l) (s := s) (z := ⟨0, []⟩) (ys := ys) hk'
  have e6 : (((l ++ [(⟨0, []⟩ : Slot)]).take (k' + 1) ++ l.drop k' ++ ys).map fun a => V.d (zK a)).set k' (.d (zK s)) = ((l.take k' ++ s :: l.drop k') ++ ys).map fun a => V.d (zK a) := by
   rw [← e5, List.map_set]
  rw [e6]
  have hlen6 : (l.take k' ++ s :: l.drop k').length = l.length + 1 := by simp; omega
  have hkeep5 : ∀ k o, S1[k]? = some o → idOf v ≠ some k → (S4.set id' (.row (((l.take k' ++ s :: l.drop k') ++ ys).map fun a => V.d (zK a)) 84))[k]? = some o := fun k o h1 h2 => by
   have hkl := zZ h1
   have h3 := hf3 k o (qA h1) h2
   rw [List.getElem?_set_ne (by omega), ← hS4, List.getElem?_set_ne (by omega)]
   exact h3
  have hrv : ∀ k (ob : Ob), (∀ ys u, ob ≠ .row ys u) → S1[k]? = some ob → idOf v ≠ some k := fun k ob hob h1 h2 => by
   obtain ⟨zs, h3⟩ := hv1.row h2
   rw [h1] at h3
   exact hob zs 84 (Option.some.inj h3)
  refine ih (seen ++ [e.2.2]) (l.take k' ++ s :: l.drop k') _ _ j _ _ _ _ _ _ _ _ _ _ _ _ _ _ _ _ _ _ _ _ _ _ _ _ _ _ _ _ _ _ _ _ _ _ _ _ _ _ _ _ ?_ ?_ (hkeep5 j _ hmj (hrv j _ (fun _ _ h => by cases h) hmj)) hjl (.inr ⟨id', ys, by rw [hlen6], List.getElem?_set_self (zZ h4)⟩) ?_ (zuy hs hsl hk' hd' hb') ?_ ?_ hQ
  ·have h1 : (es.filter fun x => !(seen ++ [e.2.2]).contains x.2.2) = (es.filter fun x => !seen.contains x.2.2).filter fun x => !(x.2.2 == e.2.2) := by
    rw [List.filter_filter]
    congr 1
    funext x
    rw [List.contains_eq_mem, List.contains_eq_mem]
    by_cases h2 : x.2.2 ∈ seen <;> by_cases h3 : x.2.2 = e.2.2 <;> simp [h2, h3]
   have h2 := zcg (b := e.2.2) (L := es.filter fun x => !seen.contains x.2.2) (hn.sublist ((List.filter_sublist).map _)) (List.mem_map_of_mem heL)
   rw [h1]
   omega
  ·intro k o hko
   have hk0 := zZ hko
   exact hkeep5 k o (hother k o (by omega) (hK k o hko)) (fun hh => by have := hid k hh; omega)
  ·intro a ha
   have ha : id' = a := by simpa [idOf] using ha
   have : S1.length = S.length := by rw [← hS1, List.length_set]
   omega
  ·intro x
   rw [zs1, hm x]
   constructor
   ·rintro (rfl | ⟨e', he', h1, h2⟩)
    ·exact ⟨e, he, by simp, hes⟩
    ·exact ⟨e', he', by rw [List.contains_eq_mem] at h1 ⊢; simp at h1 ⊢; exact .inl h1, h2⟩
   ·rintro ⟨e', he', h1, h2⟩
    rw [List.contains_eq_mem] at h1
    simp only [List.mem_append, List.mem_singleton, decide_eq_true_eq] at h1
    rcases h1 with h1 | h1
    ·exact .inr ⟨e', he', by rw [List.contains_eq_mem]; simpa using h1, h2⟩
    ·have h3 := z6e hn he' he h1
     rw [h3] at h2
     exact .inl (z6c (h2.symm.trans hes))
  ·rw [hlen6]; omega
theorem z66 : ∀ {l : List Slot}, l.Nodup → (l.map zK).Nodup
 | [], _ => List.Pairwise.nil
 | a :: r, h => by
  rw [List.nodup_cons] at h
  rw [List.map_cons, List.nodup_cons]
  refine ⟨fun hh => ?_, z66 h.2⟩
  obtain ⟨b, hb, e⟩ := List.mem_map.1 hh
  exact h.1 (z6c e ▸ hb)
theorem zea (S0 : zA) (i : Nat) (M : List (Slot × Int)) (h : MapS S0 i M) (hk : (M.map (·.1)).Nodup) (hl : M.length < 800000) : EOkC cfg 73 [.mr i] S0 (fun v S => Keep S0 S ∧ SlE zK S v 84 (z8c (M.map (·.1)))) := by
 obtain ⟨es, c, h1, hM, hn, hc⟩ := h
 have hle : es.length = M.length := by have := congrArg List.length hM; simpa using this
 have hkn : (es.map (·.1)).Nodup := by
  have e1 : es.map (·.1) = (M.map (·.1)).map zK := by
   have := congrArg (List.map Prod.fst) hM
   simpa [List.map_map, Function.comp_def] using this
  rw [e1]
  exact z66 hk
 refine zt4 extC wG zya ?_
 show EOk cfg (Try.f73.body.getD .skip) ((.mr i) :: (.tup []) :: (.tup []) :: (.tup []) :: (.tup []) :: (.tup []) :: (.tup []) :: (.tup []) :: (.tup []) :: (.tup []) :: (.tup []) :: (.tup []) :: (.tup []) :: (.tup []) :: (.tup []) :: (.tup []) :: (.tup []) :: (.tup []) :: (.tup []) :: (.tup []) :: (.tup []) :: (.tup []) :: (.tup []) :: (.tup []) :: (.tup []) :: (.tup []) :: (.tup []) :: (.tup []) :: (.tup []) :: (.tup []) :: (.tup []) :: (.tup []) :: (.tup []) :: (.tup []) :: (.tup []) :: (.tup []) :: (.tup []) :: (.tup []) :: (.tup []) :: (.tup []) :: (.tup []) :: (.tup []) :: (.tup []) :: (.tup []) :: []) S0 [] _
 conv => arg 2; whnf
 refine kQ ?_
 refine wS extC wG ?_
 show Wp cfg _ _ _ _ (post cfg [] _)
 simp (maxSteps:=1000000) (disch:=first|assumption|omega|rfl) only [↓gp, gc, Nat.reduceAdd]
 show EOk cfg _ _ _ _ _
 refine kQ ?_
 refine wS extC wG ?_
 show Wp cfg _ _ _ _ (post cfg [] _)
 simp (maxSteps:=1000000) (disch:=first|assumption|omega|rfl) only [↓gp, gc, Nat.reduceAdd]
 show EOk cfg _ _ _ _ _
 refine kQ ?_
 refine kQ ?_
 refine wS extC wG ?_
 show Wp cfg _ _ _ _ (post cfg [] _)
 simp (maxSteps:=1000000) (disch:=first|assumption|omega|rfl) only [↓gp, gc, Nat.reduceAdd, ↓z8y hP, zfi h1]
 show EOk cfg _ _ _ _ _
 refine z5o ?_
 refine zqy S0 i c es M h1 hM hn hc hkn (by omega) _ _ es.length [] [] _ _ S0.length _ _ _ _ _ _ _ _ _ _ _ _ _ _ _ _ _ _ _ _ _ _ _ _ _ _ _ _ _ _ _ _ _ _ _ _ _ _ _ _ (by simp) Keep.app qK (Nat.le_refl _) (.inl ⟨rfl, rfl⟩) (fun a ha => by cases ha) List.Pairwise.nil (fun x => by simp) (by simp) ?_
 intro S v l g1 g4 g5 g6 g8 g9 gP gQ gM gF gD gG gH gC gA gB gK gE gL gI gJ gN gO gR gS gT gX gW gU gV gZ gY gi gf gg gh gj gk gm gn hK hv hs hm
 show EOk cfg _ _ _ _ _
 refine wS extC wG ?_
 show Wp cfg _ _ _ _ (post cfg [] _)
 simp (maxSteps:=1000000) (disch:=first|assumption|omega|rfl) only [↓gp, gc, Nat.reduceAdd]
 have e : l = z8c (M.map (·.1)) := z8s hs z2f fun x => by rw [hm x, z1o]
 exact ⟨.inr trivial, trivial, v, zam rfl, hK, e ▸ hv⟩
end Go.Proofs.Ytghllhghboaagaa
end
