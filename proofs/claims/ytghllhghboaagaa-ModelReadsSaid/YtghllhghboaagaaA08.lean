/- A tree as the program has it: escheatlaw25.To. -/
import GoSem.Core.Utf8
import Derived.KernelRfl
import Derived.Test.YtghllhghboaagaaA07
set_option linter.unusedVariables false
set_option linter.unusedSimpArgs false
set_option maxRecDepth 100000
set_option maxHeartbeats 4000000
set_option linter.defProp false
section
namespace Go.Proofs.Ytghllhghboaagaa
open Go.Vm
def Sep (w v : V) : Prop := ∀ j off l, v = .rs j off l → NotAt w j
theorem zmt {S : zA} {w v : V} {e : TypeId} {xs : List V} (h : OwnS S w e xs) (hn : ∀ (j : Nat) (o : Ob), S[j]? = some o → NotAt v j) : Sep w v := by
 intro j off l hv off' l' hw
 rcases h with ⟨rfl, _⟩ | ⟨i, rfl, h1⟩
 ·cases hw
 ·cases hw
  exact hn _ _ h1 _ _ hv
def Frame (S : zA) (w : V) (S' : zA) (w' : V) : Prop := ∀ (j : Nat) (o : Ob), S[j]? = some o → NotAt w j → S'[j]? = some o ∧ NotAt w' j
theorem z6s {S S' : zA} {w w' v : V} {e : TypeId} {xs : List V} (h : OwnS S v e xs) (hs : Sep w v) (hf : Frame S w S' w') : OwnS S' v e xs ∧ Sep w' v := by
 rcases h with ⟨rfl, rfl⟩ | ⟨i, rfl, h1⟩
 ·exact ⟨.inl ⟨rfl, rfl⟩, fun j off l hv => by cases hv⟩
 ·obtain ⟨h2, h3⟩ := hf i _ h1 (hs i _ _ rfl)
  exact ⟨.inr ⟨i, rfl, h2⟩, fun j off l hv => by cases hv; exact h3⟩
def NodeV (S : zA) (w : V) (n : Node) (u : V) : Prop := u = .d (zB n) ∨ ∃ v1 v2, u = zC n v1 v2 ∧ OwnS S v1 5 (n.data.map fun b => .d (.int .u8 b.toNat)) ∧ OwnS S v2 88 (n.names.map fun x => .d (zK x)) ∧ Sep w v1 ∧ Sep w v2
theorem NodeV.keep {S S' : zA} {w : V} {n : Node} {u : V} (h : NodeV S w n u) (hk : ∀ (j : Nat) (o : Ob), S[j]? = some o → S'[j]? = some o) : NodeV S' w n u := by
 rcases h with h | ⟨v1, v2, h0, h1, h2, h3, h4⟩
 ·exact .inl h
 ·exact .inr ⟨v1, v2, h0, z09 h1 hk, z09 h2 hk, h3, h4⟩
theorem NodeV.frame {S S' : zA} {w w' : V} {n : Node} {u : V} (h : NodeV S w n u) (hf : Frame S w S' w') : NodeV S' w' n u := by
 rcases h with h | ⟨v1, v2, h0, h1, h2, h3, h4⟩
 ·exact .inl h
 ·exact .inr ⟨v1, v2, h0, (z6s h1 h3 hf).1, (z6s h2 h4 hf).1, (z6s h1 h3 hf).2, (z6s h2 h4 hf).2⟩
theorem NodeV.frz {S : zA} {w : V} {n : Node} {u : V} (h : NodeV S w n u) : frz S 11 u = some (zB n) := by
 rcases h with rfl | ⟨v1, v2, rfl, h1, h2, _, _⟩
 ·rfl
 ·exact zdd (k := 8) h1 h2
def AllN (S : zA) (w : V) : List Node → List V → Prop
 | [], [] => True
 | n :: ns, u :: us => NodeV S w n u ∧ AllN S w ns us
 | _, _ => False
theorem AllN.keep {S S' : zA} {w : V} (hk : ∀ (j : Nat) (o : Ob), S[j]? = some o → S'[j]? = some o) : ∀ {ns : List Node} {us : List V}, AllN S w ns us → AllN S' w ns us
 | [], [], _ => trivial
 | n :: ns, u :: us, h => ⟨h.1.keep hk, AllN.keep hk h.2⟩
theorem AllN.frame {S S' : zA} {w w' : V} (hf : Frame S w S' w') : ∀ {ns : List Node} {us : List V}, AllN S w ns us → AllN S' w' ns us
 | [], [], _ => trivial
 | n :: ns, u :: us, h => ⟨h.1.frame hf, AllN.frame hf h.2⟩
theorem AllN.snoc {S : zA} {w : V} {n : Node} {u : V} (hn : NodeV S w n u) : ∀ {ns : List Node} {us : List V}, AllN S w ns us → AllN S w (ns ++ [n]) (us ++ [u])
 | [], [], _ => ⟨hn, trivial⟩
 | m :: ns, v :: us, h => ⟨h.1, AllN.snoc hn h.2⟩
theorem AllN.len {S : zA} {w : V} : ∀ {ns : List Node} {us : List V}, AllN S w ns us → us.length = ns.length
 | [], [], _ => rfl
 | m :: ns, v :: us, h => by simp [AllN.len h.2]
theorem AllN.frz {S : zA} {w : V} : ∀ {ns : List Node} {us : List V}, AllN S w ns us → allO (frz S 11) us = some (ns.map zB)
 | [], [], _ => rfl
 | m :: ns, v :: us, h => by simp only [allO, h.1.frz, AllN.frz h.2, List.map_cons]
theorem zhp {S : zA} {v : V} {e : TypeId} {us : List V} {ds : List D} (h : OwnS S v e us) (ha : allO (frz S 11) us = some ds) : frz S zO v = some (.sl ds) := by
 rcases h with ⟨rfl, rfl⟩ | ⟨id, rfl, h1⟩
 ·simp only [allO, Option.some.injEq] at ha
  subst ha; rfl
 ·show (match S[id]? with
   | some (.row xs e) => if 0 + us.length ≤ xs.length && (allO (Go.Vm.frz S 11) xs).isSome then (allO (Go.Vm.frz S 11) ((xs.drop 0).take us.length)).map D.sl else none
   | some (.fz xs e) => if 0 + us.length ≤ xs.length then some (D.sl ((xs.drop 0).take us.length)) else none
   | _ => none) = _
  have h2 : (us.drop 0).take us.length = us := by rw [List.drop_zero, List.take_of_length_le (Nat.le_refl _)]
  simp only [h1, h2, ha, Option.isSome_some, Bool.and_true, Option.map_some]
  simp
theorem zax {P : Program} {S : zA} {t e : TypeId} {v w u : V} {xs : List V} (hu : P.underlying t = some (.slice e)) (hz : zOk P e = true) (hsrc : srcV P S e t w = some [u]) (ho : OwnS S v e xs) (hr : room P e (xs.length + 1) = true) :
  ∃ v' S' c, qG P S t t v w = some (v', S', c) ∧ OwnS S' v' e (xs ++ [u]) ∧ Frame S v S' v' := by
 rcases ho with ⟨rfl, rfl⟩ | ⟨id, rfl, h1⟩
 ·refine ⟨.rs S.length 0 1, S ++ [.row [u] e], 2, ?_, .inr ⟨S.length, rfl, by simp⟩, fun j o hj _ => ⟨?_, ?_⟩⟩
  ·simp only [qG, hu, hsrc, hz, if_true]
   have hr1 : room P e 1 = true := by simpa using hr
   simp [hr1]
  ·rw [List.getElem?_append_left (qL hj)]; exact hj
  ·intro off l h
   have := qL hj
   cases h; omega
 ·refine ⟨.rs S.length 0 (xs.length + 1), S.set id .dead ++ [.row (xs ++ [u]) e], 3, ?_, .inr ⟨S.length, by simp, by simp⟩, fun j o hj hn => ⟨?_, ?_⟩⟩
  ·simp only [qG, hu, hsrc, hz, if_true, h1]
   simp [hr]
  ·have hj' := qL hj
   rw [List.getElem?_append_left (by simpa using hj'), List.getElem?_set_ne]
   ·exact hj
   ·rintro rfl; exact hn 0 _ rfl
  ·intro off l h
   have := qL hj
   cases h; omega
theorem zq3 {S : zA} {a b c d e : Int} : bs1 Try.prog S 25 (.agg [.d (.int .i64 a), .d (.int .i64 b), .d (.int .i64 c), .d (.int .i64 d), .d (.int .i64 e), .ts [], .ts []]) = some (.val (.ts [.agg [.int .i64 a, .int .i64 b, .int .i64 c, .int .i64 d, .int .i64 e, .sl [], .sl []]]) S 0) := by kernel_rfl
theorem zt8 {S : zA} {n : Node} {v1 v2 : V} {e1 e2 : TypeId} (h1 : OwnS S v1 e1 (n.data.map fun b => .d (.int .u8 b.toNat))) (h2 : OwnS S v2 e2 (n.names.map fun x => .d (zK x))) :
  ∃ w S' c u, bs1 Try.prog S 25 (zC n v1 v2) = some (.val w S' c) ∧ srcV Try.prog S' 32 25 w = some [u] ∧ (u = zC n v1 v2 ∨ u = .d (zB n)) ∧ (∀ (j : Nat) (o : Ob), S[j]? = some o → S'[j]? = some o) := by
 have app : ∀ x : Ob, ∀ (j : Nat) (o : Ob), S[j]? = some o → (S ++ [x])[j]? = some o := fun x j o hj => by rw [List.getElem?_append_left (qL hj)]; exact hj
 have src : ∀ {x : V}, qH Try.prog 32 x = true → srcV Try.prog (S ++ [.row [x] 32]) 32 25 (.rs S.length 0 1) = some [x] := fun {x} hx => by
  have e1 : wI (S ++ [.row [x] 32]) (.rs S.length 0 1) = some [x] := by simp [wI]
  simp only [srcV, Try.underlying25, e1, List.all_cons, List.all_nil, hx, zni, Bool.and_self, if_true]
 rcases h1 with ⟨rfl, hd⟩ | ⟨i, rfl, hi⟩
 ·rcases h2 with ⟨rfl, hn⟩ | ⟨j, rfl, hj⟩
  ·refine ⟨.ts [zB n], S, 0, .d (zB n), ?_, ?_, .inr rfl, fun j o hj => hj⟩
   ·have d0 : n.data = [] := by simpa using hd
    have n0 : n.names = [] := by simpa using hn
    have : zB n = .agg [.int .i64 n.ino, .int .i64 n.kind, .int .i64 n.links, .int .i64 n.parent, .int .i64 n.size, .sl [], .sl []] := by unfold zB encB; rw [d0, n0]; rfl
    rw [this]
    exact zq3
   ·have e1 : wI S (.ts [zB n]) = some [.d (zB n)] := rfl
    simp only [srcV, Try.underlying25, e1, List.all_cons, List.all_nil, zk9, zni, Bool.and_self, if_true]
  ·exact ⟨.rs S.length 0 1, S ++ [.row [zC n (.ts []) (.rs j 0 (n.names.map fun x => V.d (zK x)).length)] 32], 2, _, by unfold zC; kernel_rfl, src (by unfold zC; exact zgt), .inl rfl, app _⟩
 ·rcases h2 with ⟨rfl, hn⟩ | ⟨j, rfl, hj⟩
  ·exact ⟨.rs S.length 0 1, S ++ [.row [zC n (.rs i 0 (n.data.map fun b => V.d (D.int .u8 b.toNat)).length) (.ts [])] 32], 2, _, by unfold zC; kernel_rfl, src (by unfold zC; exact zgt), .inl rfl, app _⟩
  ·exact ⟨.rs S.length 0 1, S ++ [.row [zC n (.rs i 0 (n.data.map fun b => V.d (D.int .u8 b.toNat)).length) (.rs j 0 (n.names.map fun x => V.d (zK x)).length)] 32], 2, _, by unfold zC; kernel_rfl, src (by unfold zC; exact zgt), .inl rfl, app _⟩
theorem to_l (t : List Node) (k0 : Nat) (hk0 : k0 < 300000) (hS : Small k0 t) (R : Post) (g1 g2 : V) : ∀ (k i : Nat) (us : List V) (S : zA) (v3 g5 g6 g7 g8 g9 g10 g11 g12 g13 g14 g15 g16 g17 g18 g19 g20 g21 g22 g23 g24 g25 g26 g27 g28 g29 g30 : V), t.length - i = k → i ≤ t.length → OwnS S v3 32 us → AllN S v3 (t.take i) us →
 (∀ S v3 us i' g5 g6 g7 g8 g9 g10 g11 g12 g13 g14 g15 g16 g17 g18 g19 g20 g21 g22 g23 g24 g25 g26 g27 g28 g29 g30, OwnS S v3 32 us → AllN S v3 t us → R (.exit 0) ((.d (.sl (t.map zB))) :: g1 :: g2 :: v3 :: i' :: g5 :: g6 :: g7 :: g8 :: g9 :: g10 :: g11 :: g12 :: g13 :: g14 :: g15 :: g16 :: g17 :: g18 :: g19 :: g20 :: g21 :: g22 :: g23 :: g24 :: g25 :: g26 :: g27 :: g28 :: g29 :: g30 :: []) S []) →
 Wp cfg (.loop (lpOf (Try.f12.body.getD .skip) 0)) ((.d (.sl (t.map zB))) :: g1 :: g2 :: v3 :: (.d (.int .i64 i)) :: g5 :: g6 :: g7 :: g8 :: g9 :: g10 :: g11 :: g12 :: g13 :: g14 :: g15 :: g16 :: g17 :: g18 :: g19 :: g20 :: g21 :: g22 :: g23 :: g24 :: g25 :: g26 :: g27 :: g28 :: g29 :: g30 :: []) S [] R := by
 have hlt0 : t.length < 400000 := Nat.lt_of_le_of_lt hS.len (by omega)
 intro k
 induction k with
 | zero =>
  intro i us S v3 g5 g6 g7 g8 g9 g10 g11 g12 g13 g14 g15 g16 g17 g18 g19 g20 g21 g22 g23 g24 g25 g26 g27 g28 g29 g30 hk hi ho hA hR
  have hie : i = t.length := by omega
  rw [qO]
  refine zV ?_
  conv => arg 2; whnf
  simp (maxSteps := 1000000) (disch := first | assumption | omega | rfl) only [↓gp, gc, Nat.reduceAdd]
  rw [hie, List.take_length] at hA
  exact hR _ _ us _ _ _ _ _ _ _ _ _ _ _ _ _ _ _ _ _ _ _ _ _ _ _ _ _ _ _ ho hA
 | succ k ih =>
  intro i us S v3 g5 g6 g7 g8 g9 g10 g11 g12 g13 g14 g15 g16 g17 g18 g19 g20 g21 g22 g23 g24 g25 g26 g27 g28 g29 g30 hk hi ho hA hR
  have hlt : i < t.length := by omega
  have htk : t.take (i + 1) = t.take i ++ [t[i]] := by rw [List.take_succ_eq_append_getElem hlt]
  have hmem := List.getElem_mem hlt
  have hd := hS.siz _ hmem
  have hn := hS.nms _ hmem
  have hul := hA.len
  rw [List.length_take] at hul
  rw [qO]
  refine zV ?_
  conv => arg 2; whnf
  generalize hN : t[i] = n at *
  have hbS : (S ++ [.row [.d (zB n)] 32])[S.length]? = some (.row [.d (zB n)] 32) := by simp
  obtain ⟨v1, S1, c1, ha1, ho1, hf1, hl1⟩ := apB (S := S ++ [.row [.d (zB n)] 32]) (l := n.data) (by omega)
  have hb2 : S1[S.length]? = some (.row [.d (zB n)] 32) := (hf1 S.length _ hbS).1
  have hr2 := zE hb2
  have hst1 := zq5 (a := n) (v := v1) (z27 ho1 (by kernel_rfl) (by kernel_rfl)) (z0z ho1)
  have hpr1 := fun y => qC (y := y) hb2
  have hb3 : ∀ y : V, (S1.set S.length (.row [y] 32))[S.length]? = some (.row [y] 32) := fun y => jV hb2
  have hr3 : ∀ y, rowE (S1.set S.length (.row [y] 32)) S.length 0 = some y := fun y => zE (hb3 y)
  obtain ⟨v2, S2, c2, ha2, ho2, hf2, hl2⟩ := apE (S := S1.set S.length (.row [zC n v1 (.d (.sl (n.names.map zK)))] 32)) (l := n.names) (by omega)
  have hb4 : S2[S.length]? = some (.row [zC n v1 (.d (.sl (n.names.map zK)))] 32) := (hf2 S.length _ (hb3 _)).1
  have hr4 := zE hb4
  have hst2 := fun (x0 x1 x2 x3 x4 x5 x6 : V) => zg8 (x0 := x0) (x1 := x1) (x2 := x2) (x3 := x3) (x4 := x4) (x5 := x5) (x6 := x6) (v := v2) (z27 ho2 (by kernel_rfl) (by kernel_rfl)) (z0z ho2)
  have hpr2 := fun y => qC (y := y) hb4
  have hr5 : ∀ y, rowE (S2.set S.length (.row [y] 32)) S.length 0 = some y := fun y => zE (jV hb4)
  have hkeep : ∀ (j : Nat) (o : Ob), S[j]? = some o → (S2.set S.length (.row [zC n v1 v2] 32))[j]? = some o := fun j o hj => by
   have hjl := qL hj
   have h1 : (S ++ [.row [.d (zB n)] 32])[j]? = some o := by rw [List.getElem?_append_left hjl]; exact hj
   have h2 := (hf1 j o h1).1
   have h3 : (S1.set S.length (.row [zC n v1 (.d (.sl (n.names.map zK)))] 32))[j]? = some o := by rw [List.getElem?_set_ne (by omega)]; exact h2
   have h4 := (hf2 j o h3).1
   rw [List.getElem?_set_ne (by omega)]; exact h4
  have hn1 : ∀ (j : Nat) (o : Ob), S[j]? = some o → NotAt v1 j := fun j o hj => (hf1 j o (by rw [List.getElem?_append_left (qL hj)]; exact hj)).2
  have hn2 : ∀ (j : Nat) (o : Ob), S[j]? = some o → NotAt v2 j := fun j o hj => by
   have hjl := qL hj
   have h1 : (S ++ [.row [.d (zB n)] 32])[j]? = some o := by rw [List.getElem?_append_left hjl]; exact hj
   exact (hf2 j o (by rw [List.getElem?_set_ne (by omega)]; exact (hf1 j o h1).1)).2
  have hv1 : OwnS (S2.set S.length (.row [zC n v1 v2] 32)) v1 5 (n.data.map fun b => .d (.int .u8 b.toNat)) := vE (z09 (vE ho1 (hf1 S.length _ hbS).2) (fun j o hj => (hf2 j o hj).1)) (hf1 S.length _ hbS).2
  have hv2 : OwnS (S2.set S.length (.row [zC n v1 v2] 32)) v2 88 (n.names.map fun x => .d (zK x)) := vE ho2 (hf2 S.length _ (hb3 _)).2
  obtain ⟨w, S6, c6, u, hbs, hsrc, hu, hk6⟩ := zt8 hv1 hv2
  have ho6 : OwnS S6 v3 32 us := z09 ho (fun j o hj => hk6 j o (hkeep j o hj))
  have hA6 : AllN S6 v3 (t.take i) us := hA.keep (fun j o hj => hk6 j o (hkeep j o hj))
  have hnV : NodeV S6 v3 n u := by
   rcases hu with rfl | rfl
   ·exact .inr ⟨v1, v2, rfl, z09 hv1 hk6, z09 hv2 hk6, zmt ho hn1, zmt ho hn2⟩
   ·exact .inl rfl
  obtain ⟨v3', S7, c7, ha7, ho7, hf7⟩ := zax (P := Try.prog) Try.underlying25 zwy hsrc ho6 (zpk (by omega))
  unfold zC at ha2 hr4 hpr2 hbs
  simp (maxSteps := 1000000) (disch := first | assumption | omega | rfl) only [↓gp, gc, Nat.reduceAdd, ↓vbs, hN, zR, zQ, zdt, zpa, ha1, hr2, hst1, hpr1, hr3, ha2, hr4, hst2, hpr2, hr5, hbs, ha7]
  exact ih (i + 1) (us ++ [u]) S7 v3' _ _ _ _ _ _ _ _ _ _ _ _ _ _ _ _ _ _ _ _ _ _ _ _ _ _ (by omega) (by omega) ho7 (by rw [htk]; exact (hA6.snoc hnV).frame hf7) hR
theorem zzy (t : List Node) (k0 : Nat) (hk0 : k0 < 300000) (hS : Small k0 t) : Ev cfg 12 [.sl (t.map zB)] (.ret (.d (.sl (t.map zB)))) := by
 refine wJ rfl rfl zvp ?_
 show Wp cfg (Try.f12.body.getD .skip) ((.d (.sl (t.map zB))) :: (.tup []) :: (.tup []) :: (.tup []) :: (.tup []) :: (.tup []) :: (.tup []) :: (.tup []) :: (.tup []) :: (.tup []) :: (.tup []) :: (.tup []) :: (.tup []) :: (.tup []) :: (.tup []) :: (.tup []) :: (.tup []) :: (.tup []) :: (.tup []) :: (.tup []) :: (.tup []) :: (.tup []) :: (.tup []) :: (.tup []) :: (.tup []) :: (.tup []) :: (.tup []) :: (.tup []) :: (.tup []) :: (.tup []) :: (.tup []) :: []) [] [] _
 conv => arg 2; whnf
 simp (maxSteps := 1000000) (disch := first | assumption | omega | rfl) only [↓gp, gc, Nat.reduceAdd]
 refine to_l t k0 hk0 hS _ _ _ t.length 0 [] _ _ _ _ _ _ _ _ _ _ _ _ _ _ _ _ _ _ _ _ _ _ _ _ _ _ _ _ rfl (by omega) OwnS.nil trivial ?_
 intro S v3 us i' g5 g6 g7 g8 g9 g10 g11 g12 g13 g14 g15 g16 g17 g18 g19 g20 g21 g22 g23 g24 g25 g26 g27 g28 g29 g30 ho hA
 simp (maxSteps := 1000000) (disch := first | assumption | omega | rfl) only [↓gp, gc, Nat.reduceAdd]
 exact zS rfl (z2j ho) (zhp ho hA.frz)
end Go.Proofs.Ytghllhghboaagaa
end
section
namespace Go.Vm
theorem zor (s : List UInt8) (i : Nat) : (⟨s.toArray⟩ : ByteArray).get! i = s.getD i 0 := by
 show s.toArray[i]! = _
 simp [List.getD_eq_getElem?_getD, List.getElem!_eq_getElem?_getD]
 rfl
theorem zhi (s : List UInt8) (pos : Nat) (h : pos < s.length) : 1 ≤ (Utf8.decode ⟨s.toArray⟩ pos).2 ∧ pos + (Utf8.decode ⟨s.toArray⟩ pos).2 ≤ s.length ∧ (s[pos] = 47 → Utf8.decode ⟨s.toArray⟩ pos = (47, 1)) ∧ (s[pos] ≠ 47 → (Utf8.decode ⟨s.toArray⟩ pos).1 ≠ 47) ∧ ∀ k, pos < k → k < pos + (Utf8.decode ⟨s.toArray⟩ pos).2 → s.getD k 0 ≠ 47 := by
 have h0 : (s.getD (pos + 0) 0) = s[pos] := by simp [List.getD_eq_getElem?_getD, h]
 have e47 : s[pos] = 47 ↔ s[pos].toNat = 47 := ⟨fun h => by rw [h]; rfl, fun h => UInt8.toNat_inj.1 h⟩
 have n47 : ∀ k, s.getD k 0 = 47 → (s.getD k 0).toNat = 47 := fun k h => by rw [h]; rfl
 have hsz : (⟨s.toArray⟩ : ByteArray).size = s.length := rfl
 unfold Utf8.decode
 simp only [zor, hsz, h0, e47, ne_eq]
 generalize hb : s[pos].toNat = b at *
 generalize h1 : (s.getD (pos + 1) 0).toNat = b1
 generalize h2 : (s.getD (pos + 2) 0).toNat = b2
 generalize h3 : (s.getD (pos + 3) 0).toNat = b3
 have k1 : ∀ k, k = pos + 1 → s.getD k 0 = 47 → b1 = 47 := fun k hk hh => by rw [← h1, ← hk]; exact n47 k hh
 have k2 : ∀ k, k = pos + 2 → s.getD k 0 = 47 → b2 = 47 := fun k hk hh => by rw [← h2, ← hk]; exact n47 k hh
 have k3 : ∀ k, k = pos + 3 → s.getD k 0 = 47 → b3 = 47 := fun k hk hh => by rw [← h3, ← hk]; exact n47 k hh
 clear n47 hsz h0 e47 h1 h2 h3 hb
 split
 ·rename_i c
  refine ⟨by omega, by simp only; omega, fun hh => by rw [hh], fun hh => hh, fun k a b => by simp only at b; omega⟩
 ·rename_i c
  have hne : ¬ b = 47 := by omega
  split
  ·rename_i c1
   simp only [Bool.and_eq_true, decide_eq_true_eq, beq_iff_eq] at c1
   split
   ·rename_i c2
    refine ⟨by simp, by simp only; omega, fun hh => absurd hh hne, fun _ => by simp only; omega, fun k a b hh => ?_⟩
    simp only at b
    have := k1 k (by omega) hh
    omega
   ·refine ⟨by simp, by simp only; omega, fun hh => absurd hh hne, fun _ => by simp [Utf8.runeError], fun k a b => by simp only at b; omega⟩
  ·split
   ·rename_i c1
    simp only [Bool.and_eq_true, decide_eq_true_eq, beq_iff_eq] at c1
    split
    ·rename_i c2
     simp only [Bool.and_eq_true, decide_eq_true_eq] at c2
     refine ⟨by simp, by simp only; omega, fun hh => absurd hh hne, fun _ => by simp only; omega, fun k a b hh => ?_⟩
     simp only at b
     rcases (by omega : k = pos + 1 ∨ k = pos + 2) with hk | hk
     ·have := k1 k hk hh; omega
     ·have := k2 k hk hh; omega
    ·refine ⟨by simp, by simp only; omega, fun hh => absurd hh hne, fun _ => by simp [Utf8.runeError], fun k a b => by simp only at b; omega⟩
   ·split
    ·rename_i c1
     simp only [Bool.and_eq_true, decide_eq_true_eq, beq_iff_eq] at c1
     split
     ·rename_i c2
      simp only [Bool.and_eq_true, decide_eq_true_eq] at c2
      refine ⟨by simp, by simp only; omega, fun hh => absurd hh hne, fun _ => by simp only; omega, fun k a b hh => ?_⟩
      simp only at b
      rcases (by omega : k = pos + 1 ∨ k = pos + 2 ∨ k = pos + 3) with hk | hk | hk
      ·have := k1 k hk hh; omega
      ·have := k2 k hk hh; omega
      ·have := k3 k hk hh; omega
     ·refine ⟨by simp, by simp only; omega, fun hh => absurd hh hne, fun _ => by simp [Utf8.runeError], fun k a b => by simp only at b; omega⟩
    ·refine ⟨by simp, by simp only; omega, fun hh => absurd hh hne, fun _ => by simp [Utf8.runeError], fun k a b => by simp only at b; omega⟩
end Go.Vm
end
section
namespace Go.Proofs.Ytghllhghboaagaa
open Go.Vm
theorem q0n (s : List UInt8) (hl : s.length < 1000000) (R : Post) (S : zA) (g2 : V) : ∀ (k i : Nat) (g3 g4 g5 g6 g7 g8 g9 g10 g11 g12 g13 g14 g15 g16 g17 g18 g19 g23 g24 g25 g26 g27 g28 g29 g30 g31 g32 g33 g34 g35 : V), s.length - i = k → i ≤ s.length →
 (∀ i' g3 g4 g5 g6 g7 g8 g9 g10 g11 g12 g13 g14 g15 g16 g17 g18 g19 g23 g24 g25 g26 g27 g28 g29 g30 g31 g32 g33 g34 g35, (s.drop i).all z0l = true → R (.exit 0) ((.d (.str s)) :: (.tup []) :: g2 :: g3 :: g4 :: g5 :: g6 :: g7 :: g8 :: g9 :: g10 :: g11 :: g12 :: g13 :: g14 :: g15 :: g16 :: g17 :: g18 :: g19 :: (.d (.str s)) :: (.d (.int .i64 s.length)) :: i' :: g23 :: g24 :: g25 :: g26 :: g27 :: g28 :: g29 :: g30 :: g31 :: g32 :: g33 :: g34 :: g35 :: []) S []) →
 (∀ i' g3 g4 g5 g6 g7 g8 g9 g10 g11 g12 g13 g14 g15 g16 g17 g18 g19 g23 g24 g25 g26 g27 g28 g29 g30 g31 g32 g33 g34 g35, (s.drop i).all z0l = false → R .ret ((.d (.str s)) :: (.tup []) :: (.d (.int .i64 3)) :: g3 :: g4 :: g5 :: g6 :: g7 :: g8 :: g9 :: g10 :: g11 :: g12 :: g13 :: g14 :: g15 :: g16 :: g17 :: g18 :: g19 :: (.d (.str s)) :: (.d (.int .i64 s.length)) :: i' :: g23 :: g24 :: g25 :: g26 :: g27 :: g28 :: g29 :: g30 :: g31 :: g32 :: g33 :: g34 :: g35 :: []) S []) →
 Wp cfg (.loop (lpOf (Try.f96.body.getD .skip) 0)) ((.d (.str s)) :: (.tup []) :: g2 :: g3 :: g4 :: g5 :: g6 :: g7 :: g8 :: g9 :: g10 :: g11 :: g12 :: g13 :: g14 :: g15 :: g16 :: g17 :: g18 :: g19 :: (.d (.str s)) :: (.d (.int .i64 s.length)) :: (.d (.int .i64 i)) :: g23 :: g24 :: g25 :: g26 :: g27 :: g28 :: g29 :: g30 :: g31 :: g32 :: g33 :: g34 :: g35 :: []) S [] R := by
 intro k
 induction k with
 | zero =>
  intro i g3 g4 g5 g6 g7 g8 g9 g10 g11 g12 g13 g14 g15 g16 g17 g18 g19 g23 g24 g25 g26 g27 g28 g29 g30 g31 g32 g33 g34 g35 hk hi hE hR
  have hie : i = s.length := by omega
  rw [qO]
  refine zV ?_
  conv => arg 2; whnf
  simp (maxSteps := 1000000) (disch := first | assumption | omega | rfl) only [↓gp, gc, Nat.reduceAdd]
  exact hE _ _ _ _ _ _ _ _ _ _ _ _ _ _ _ _ _ _ _ _ _ _ _ _ _ _ _ _ _ _ _ (by rw [hie, List.drop_length]; rfl)
 | succ k ih =>
  intro i g3 g4 g5 g6 g7 g8 g9 g10 g11 g12 g13 g14 g15 g16 g17 g18 g19 g23 g24 g25 g26 g27 g28 g29 g30 g31 g32 g33 g34 g35 hk hi hE hR
  have hlt : i < s.length := by omega
  have hdr : s.drop i = s[i] :: s.drop (i + 1) := List.drop_eq_getElem_cons hlt
  rw [hdr, List.all_cons] at hE hR
  have e0 : s[i] = 0 ↔ (s[i].toNat : Int) = 0 := ⟨fun h => by rw [h]; rfl, fun h => UInt8.toNat_inj.1 (by simpa using h)⟩
  have e47 : s[i] = 47 ↔ (s[i].toNat : Int) = 47 := ⟨fun h => by rw [h]; rfl, fun h => UInt8.toNat_inj.1 (by show s[i].toNat = 47; omega)⟩
  rw [qO]
  refine zV ?_
  conv => arg 2; whnf
  by_cases c0 : (s[i].toNat : Int) = 0
  ·have hr : z0l s[i] = false := by simp [z0l, e0.2 c0]
   simp (maxSteps := 1000000) (disch := first | assumption | omega | rfl) only [↓gp, gc, Nat.reduceAdd]
   exact hR _ _ _ _ _ _ _ _ _ _ _ _ _ _ _ _ _ _ _ _ _ _ _ _ _ _ _ _ _ _ _ (by rw [hr]; rfl)
  ·by_cases c1 : (s[i].toNat : Int) = 47
   ·have hr : z0l s[i] = false := by simp [z0l, e47.2 c1]
    simp (maxSteps := 1000000) (disch := first | assumption | omega | rfl) only [↓gp, gc, Nat.reduceAdd]
    exact hR _ _ _ _ _ _ _ _ _ _ _ _ _ _ _ _ _ _ _ _ _ _ _ _ _ _ _ _ _ _ _ (by rw [hr]; rfl)
   ·have hr : z0l s[i] = true := by simp only [z0l, decide_eq_true_eq]; exact ⟨fun h => c0 (e0.1 h), fun h => c1 (e47.1 h)⟩
    rw [hr, Bool.true_and] at hE hR
    simp (maxSteps := 1000000) (disch := first | assumption | omega | rfl) only [↓gp, gc, Nat.reduceAdd]
    exact ih (i + 1) _ _ _ _ _ _ _ _ _ _ _ _ _ _ _ _ _ _ _ _ _ _ _ _ _ _ _ _ _ _ (by omega) (by omega) hE hR
def z51 (s : List UInt8) : Int := if wO s = true then 0 else 3
theorem zn2 (s : List UInt8) (hl : s.length < 1000000) : Ev cfg 96 [.str s] (.ret (.d (.int .i64 (z51 s)))) := by
 refine wJ rfl rfl zx3 ?_
 show Wp cfg (Try.f96.body.getD .skip) ((.d (.str s)) :: (.tup []) :: (.tup []) :: (.tup []) :: (.tup []) :: (.tup []) :: (.tup []) :: (.tup []) :: (.tup []) :: (.tup []) :: (.tup []) :: (.tup []) :: (.tup []) :: (.tup []) :: (.tup []) :: (.tup []) :: (.tup []) :: (.tup []) :: (.tup []) :: (.tup []) :: (.tup []) :: (.tup []) :: (.tup []) :: (.tup []) :: (.tup []) :: (.tup []) :: (.tup []) :: (.tup []) :: (.tup []) :: (.tup []) :: (.tup []) :: (.tup []) :: (.tup []) :: (.tup []) :: (.tup []) :: (.tup []) :: []) [] [] _
 conv => arg 2; whnf
 have bad : ¬ (1 ≤ s.length ∧ s.length ≤ 24 ∧ s ≠ [46] ∧ s ≠ [46, 46]) → z51 s = 3 := fun h => by
  unfold z51
  rw [if_neg]
  intro hr
  simp only [wO, Bool.and_eq_true, decide_eq_true_eq] at hr
  exact h hr.1
 by_cases c1 : (s.length : Int) < 1
 ·simp (maxSteps := 1000000) (disch := first | assumption | omega | rfl) only [↓gp, gc, Nat.reduceAdd]
  rw [bad (fun h => by omega)]
  exact zS rfl rfl rfl
 ·by_cases c2 : (s.length : Int) > 24
  ·simp (maxSteps := 1000000) (disch := first | assumption | omega | rfl) only [↓gp, gc, Nat.reduceAdd]
   rw [bad (fun h => by omega)]
   exact zS rfl rfl rfl
  ·by_cases c3 : s = [46]
   ·simp (maxSteps := 1000000) (disch := first | assumption | omega | rfl) only [↓gp, gc, Nat.reduceAdd]
    rw [bad (fun h => h.2.2.1 c3)]
    exact zS rfl rfl rfl
   ·by_cases c4 : s = [46, 46]
    ·simp (maxSteps := 1000000) (disch := first | assumption | omega | rfl) only [↓gp, gc, Nat.reduceAdd]
     rw [bad (fun h => h.2.2.2 c4)]
     exact zS rfl rfl rfl
    ·simp (maxSteps := 1000000) (disch := first | assumption | omega | rfl) only [↓gp, gc, Nat.reduceAdd]
     have good : z51 s = if s.all z0l = true then 0 else 3 := by
      unfold z51 wO
      rw [decide_eq_true (⟨by omega, by omega, c3, c4⟩ : 1 ≤ s.length ∧ s.length ≤ 24 ∧ s ≠ [46] ∧ s ≠ [46, 46]), Bool.true_and]
     refine q0n s hl _ _ _ s.length 0 _ _ _ _ _ _ _ _ _ _ _ _ _ _ _ _ _ _ _ _ _ _ _ _ _ _ _ _ _ _ rfl (by omega) ?_ ?_
     ·intro i' g3 g4 g5 g6 g7 g8 g9 g10 g11 g12 g13 g14 g15 g16 g17 g18 g19 g23 g24 g25 g26 g27 g28 g29 g30 g31 g32 g33 g34 g35 h
      rw [List.drop_zero] at h
      simp (maxSteps := 1000000) (disch := first | assumption | omega | rfl) only [↓gp, gc, Nat.reduceAdd]
      rw [good, if_pos h]
      exact zS rfl rfl rfl
     ·intro i' g3 g4 g5 g6 g7 g8 g9 g10 g11 g12 g13 g14 g15 g16 g17 g18 g19 g23 g24 g25 g26 g27 g28 g29 g30 g31 g32 g33 g34 g35 h
      rw [List.drop_zero] at h
      simp (maxSteps := 1000000) (disch := first | assumption | omega | rfl) only [↓gp, gc, Nat.reduceAdd]
      rw [good, if_neg (by rw [h]; exact Bool.noConfusion)]
      exact zS rfl rfl rfl
theorem zaz {ops : Array Oper} {dst : Option Tmp} {k : List Oper} {T : List V} {S : zA} {F : Dfs} {Q : Post} {s : List UInt8} (hl : s.length < 1000000) :
  WpR cfg ops dst k T S F Q (some (.enter 96 [.d (.str s)])) = WpL cfg ops k (putT T dst (.d (.int .i64 (z51 s)))) S F Q :=
 qA (ds := [.str s]) rfl (zn2 s hl)
end Go.Proofs.Ytghllhghboaagaa
end
section
namespace Go.Proofs.Ytghllhghboaagaa
open Go.Vm
def zae (S : zA) : V → Option Rs
 | .it id => match S[id]? with
  | some (.iter s pos) => if pos < s.length then some (.val (.tup [.d (.bool true), .d (.int .i64 pos), .d (.int .i32 (Utf8.decode ⟨s.toArray⟩ pos).1)]) (S.set id (.iter s (pos + (Utf8.decode ⟨s.toArray⟩ pos).2))) 3) else some (.val (.tup [.d (.bool false)]) S 3)
  | _ => none
 | _ => none
def zk2 (S : zA) : V → Option Rs
 | .d (.str s) => some (.val (.it S.length) (S ++ [.iter s 0]) 2)
 | _ => none
theorem z9d {C : Cfg} {ops : Array Oper} {dst : Option Tmp} {ty : TypeId} {pos : String} {after : Array Edge} {l : List Oper} {T : List V} {S : zA} {F : Dfs} {Q : Post} {it : Operand} : WpL C ops (⟨dst, .next it true, ty, pos, after, none⟩ :: l) T S F Q = WpR C ops dst l T S F Q (zae S (zG T it)) := by
 rw [z0k rfl]
 simp only [opV, zae]
 cases zG T it <;> rfl
theorem zkq {ops : Array Oper} {dst : Option Tmp} {ty : TypeId} {pos : String} {after : Array Edge} {l : List Oper} {T : List V} {S : zA} {F : Dfs} {Q : Post} {x : Operand} : WpL cfg ops (⟨dst, .range 9 x, ty, pos, after, none⟩ :: l) T S F Q = WpR cfg ops dst l T S F Q (zk2 S (zG T x)) := by
 rw [z0k rfl]
 simp only [opV, hP, Try.underlying9, zk2]
 cases zG T x with
 | d y => cases y <;> rfl
 | _ => rfl
theorem zjs {S : zA} {s : List UInt8} : zk2 S (.d (.str s)) = some (.val (.it S.length) (S ++ [.iter s 0]) 2) := rfl
theorem zlh {P : Program} {S : zA} {t : TypeId} {s : List UInt8} {lo : Int} (hu : P.underlying t = some .string) (h0 : 0 ≤ lo) (h1 : lo ≤ s.length) :
  jL P S t (.d (.str s)) (some (.d (.int .i64 lo))) none = some (.d (.str (s.drop lo.toNat))) := by
 simp only [jL, hu, z3k (n := s.length) (d := 0) (i := lo) h0 (by omega), z1l, List.take_length]
def spl : List UInt8 → List UInt8 → List (List UInt8)
 | part, [] => [part]
 | part, c :: r => if c = 47 then part :: spl [] r else spl (part ++ [c]) r
theorem zhn : ∀ (w : Nat) (s part : List UInt8), w ≤ s.length → (∀ k, k < w → s.getD k 0 ≠ 47) → spl part s = spl (part ++ s.take w) (s.drop w)
 | 0, s, part, _, _ => by simp
 | w + 1, [], part, h, _ => by simp at h
 | w + 1, c :: r, part, h, hk => by
  have h0 : c ≠ 47 := hk 0 (by omega)
  have := zhn w r (part ++ [c]) (by simpa using h) (fun k hkw => by have := hk (k + 1) (by omega); simpa using this)
  simp only [spl, h0, if_false, List.take_succ_cons, List.drop_succ_cons]
  rw [this, List.append_assoc]
  rfl
theorem z8k : ∀ (s part : List UInt8), (spl part s).length ≤ s.length + 1
 | [], part => by simp [spl]
 | c :: r, part => by
  unfold spl
  split
  ·have := z8k r []; simp; omega
  ·have := z8k r (part ++ [c]); simp; omega
theorem zld (s : List UInt8) (hl : s.length < 1000000) (total : List (List UInt8)) (ht : total.length < 1000000) (R : Post) (g2 : V) : ∀ (k p b : Nat) (xs : List (List UInt8)) (S : zA) (v3 v5 v6 g9 g10 g11 g12 g13 g14 g15 g16 g17 g18 g19 g20 g21 g22 g23 g24 g25 g26 g27 g28 g29 g30 g31 g32 g33 : V), s.length - p ≤ k → b ≤ p → 1 ≤ p → p ≤ s.length → xs ++ spl ((s.take p).drop b) (s.drop p) = total → OwnS S v3 9 (xs.map fun x => .d (.str x)) → S[0]? = some (.iter s p) →
 (∀ S v3 (b' : Nat) ys v5 v6 g9 g10 g11 g12 g13 g14 g15 g16 g17 g18 g19 g20 g21 g22 g23 g24 g25 g26 g27 g28 g29 g30 g31 g32 g33, b' ≤ s.length → ys ++ [s.drop b'] = total → OwnS S v3 9 (ys.map fun x => .d (.str x)) → R (.exit 0) ((.d (.str s)) :: (.tup []) :: g2 :: v3 :: (.d (.int .i64 b')) :: v5 :: v6 :: (.d (.str s)) :: (.it 0) :: g9 :: g10 :: g11 :: g12 :: g13 :: g14 :: g15 :: g16 :: g17 :: g18 :: g19 :: g20 :: g21 :: g22 :: g23 :: g24 :: g25 :: g26 :: g27 :: g28 :: g29 :: g30 :: g31 :: g32 :: g33 :: []) S []) →
 Wp cfg (.loop (lpOf (Try.f113.body.getD .skip) 0)) ((.d (.str s)) :: (.tup []) :: g2 :: v3 :: (.d (.int .i64 b)) :: v5 :: v6 :: (.d (.str s)) :: (.it 0) :: g9 :: g10 :: g11 :: g12 :: g13 :: g14 :: g15 :: g16 :: g17 :: g18 :: g19 :: g20 :: g21 :: g22 :: g23 :: g24 :: g25 :: g26 :: g27 :: g28 :: g29 :: g30 :: g31 :: g32 :: g33 :: []) S [] R := by
 intro k
 induction k with
 | zero =>
  intro p b xs S v3 v5 v6 g9 g10 g11 g12 g13 g14 g15 g16 g17 g18 g19 g20 g21 g22 g23 g24 g25 g26 g27 g28 g29 g30 g31 g32 g33 hk hb hp hpl hx ho hS hR
  have hpe : p = s.length := by omega
  have hnx : zae S (.it 0) = some (.val (.tup [.d (.bool false)]) S 3) := by simp only [zae, hS]; rw [if_neg (by omega)]
  rw [qO]
  refine zV ?_
  conv => arg 2; whnf
  simp (maxSteps := 1000000) (disch := first | assumption | omega | rfl) only [↓gp, gc, Nat.reduceAdd, ↓z9d, hnx]
  rw [hpe, List.drop_length, List.take_length] at hx
  exact hR _ _ b xs _ _ _ _ _ _ _ _ _ _ _ _ _ _ _ _ _ _ _ _ _ _ _ _ _ _ _ (by omega) hx ho
 | succ k ih =>
  intro p b xs S v3 v5 v6 g9 g10 g11 g12 g13 g14 g15 g16 g17 g18 g19 g20 g21 g22 g23 g24 g25 g26 g27 g28 g29 g30 g31 g32 g33 hk hb hp hpl hx ho hS hR
  by_cases hlt : p < s.length
  ·have hnx : zae S (.it 0) = some (.val (.tup [.d (.bool true), .d (.int .i64 p), .d (.int .i32 (Utf8.decode ⟨s.toArray⟩ p).1)]) (S.set 0 (.iter s (p + (Utf8.decode ⟨s.toArray⟩ p).2))) 3) := by simp only [zae, hS]; rw [if_pos hlt]
   obtain ⟨h1, h2, h3, h4, h5⟩ := zhi s p hlt
   have hdr : s.drop p = s[p] :: s.drop (p + 1) := List.drop_eq_getElem_cons hlt
   have hna : NotAt v3 0 := zqq ho (fun o ho' xs e he => by rw [hS] at ho'; cases ho'; cases he)
   rw [qO]
   refine zV ?_
   conv => arg 2; whnf
   by_cases c47 : s[p] = 47
   ·have hd := h3 c47
    rw [hd] at hnx
    have hc : ((((47, 1) : Nat × Nat).1 : Nat) : Int) = 47 := rfl
    have hsl := zlm (S := S.set 0 (.iter s (p + 1))) (P := Try.prog) (t := 9) (s := s) (lo := (b : Int)) (hi := (p : Int)) Try.underlying9 (by omega) (by omega) (by omega)
    rw [Int.toNat_natCast, Int.toNat_natCast] at hsl
    have hxl : xs.length < 1000000 := by have := congrArg List.length hx; simp at this; omega
    obtain ⟨v', S', c, ha, ho', hfr, hlen⟩ := ap42 ((s.take p).drop b) (vE (o := .iter s (p + 1)) ho hna) hxl
    have hp0 : ((p : Int)) > 0 := by omega
    simp (maxSteps := 1000000) (disch := first | assumption | omega | rfl) only [↓gp, gc, Nat.reduceAdd, ↓z9d, hnx, hsl, ha]
    have hS' := (hfr 0 _ (jV (o' := .iter s (p + 1)) hS) hna).1
    refine ih (p + 1) (p + 1) (xs ++ [(s.take p).drop b]) S' v' _ _ _ _ _ _ _ _ _ _ _ _ _ _ _ _ _ _ _ _ _ _ _ _ _ _ _ (by omega) (Nat.le_refl _) (by omega) (by omega) ?_ ho' hS' hR
    rw [← hx, hdr, List.append_assoc]
    simp only [spl, c47, if_true]
    rw [show (s.take (p + 1)).drop (p + 1) = [] from List.drop_eq_nil_of_le (by rw [List.length_take]; omega)]
    rfl
   ·have hne := h4 c47
    generalize Utf8.decode ⟨s.toArray⟩ p = d at *
    have hne' : ¬ ((d.1 : Int)) = 47 := by omega
    simp (maxSteps := 1000000) (disch := first | assumption | omega | rfl) only [↓gp, gc, Nat.reduceAdd, ↓z9d, hnx]
    refine ih (p + d.2) b xs _ v3 _ _ _ _ _ _ _ _ _ _ _ _ _ _ _ _ _ _ _ _ _ _ _ _ _ _ _ (by omega) (by omega) (by omega) (by omega) ?_ (vE ho hna) (jV hS) hR
    rw [← hx, zhn d.2 (s.drop p) _ (by rw [List.length_drop]; omega) (fun k hk => ?_)]
    ·rw [List.drop_drop, ← List.drop_append_of_le_length (by rw [List.length_take]; omega), ← List.take_add]
    ·rw [List.getD_eq_getElem?_getD, List.getElem?_drop, ← List.getD_eq_getElem?_getD]
     by_cases hk0 : k = 0
     ·rw [hk0, Nat.add_zero, List.getD_eq_getElem?_getD, List.getElem?_eq_getElem hlt]; exact c47
     ·exact h5 (p + k) (by omega) (by omega)
  ·have hpe : p = s.length := by omega
   have hnx : zae S (.it 0) = some (.val (.tup [.d (.bool false)]) S 3) := by simp only [zae, hS]; rw [if_neg (by omega)]
   rw [qO]
   refine zV ?_
   conv => arg 2; whnf
   simp (maxSteps := 1000000) (disch := first | assumption | omega | rfl) only [↓gp, gc, Nat.reduceAdd, ↓z9d, hnx]
   rw [hpe, List.drop_length, List.take_length] at hx
   exact hR _ _ b xs _ _ _ _ _ _ _ _ _ _ _ _ _ _ _ _ _ _ _ _ _ _ _ _ _ _ _ (by omega) hx ho
theorem zid (r : List UInt8) (hl : r.length < 900000) : Ev cfg 113 [.str (47 :: r)] (.ret (.d (.sl ((spl [] r).map .str)))) := by
 refine wJ rfl rfl zqv ?_
 show Wp cfg (Try.f113.body.getD .skip) ((.d (.str (47 :: r))) :: (.tup []) :: (.tup []) :: (.tup []) :: (.tup []) :: (.tup []) :: (.tup []) :: (.tup []) :: (.tup []) :: (.tup []) :: (.tup []) :: (.tup []) :: (.tup []) :: (.tup []) :: (.tup []) :: (.tup []) :: (.tup []) :: (.tup []) :: (.tup []) :: (.tup []) :: (.tup []) :: (.tup []) :: (.tup []) :: (.tup []) :: (.tup []) :: (.tup []) :: (.tup []) :: (.tup []) :: (.tup []) :: (.tup []) :: (.tup []) :: (.tup []) :: (.tup []) :: (.tup []) :: []) [] [] _
 conv => arg 2; whnf
 have hlt : 0 < (47 :: r).length := by simp
 obtain ⟨_, _, h3, _, _⟩ := zhi (47 :: r) 0 hlt
 have hd := h3 rfl
 have hnx : zae [.iter (47 :: r) 0] (.it 0) = some (.val (.tup [.d (.bool true), .d (.int .i64 0), .d (.int .i32 47)]) [.iter (47 :: r) 1] 3) := by
  simp only [zae]
  rw [show ([Ob.iter (47 :: r) 0] : zA)[0]? = some (.iter (47 :: r) 0) from rfl]
  simp only
  rw [if_pos hlt, hd]
  rfl
 simp (maxSteps := 1000000) (disch := first | assumption | omega | rfl) only [↓gp, gc, Nat.reduceAdd, ↓zkq, zjs]
 rw [qO]
 refine zV ?_
 conv => arg 2; whnf
 simp (maxSteps := 1000000) (disch := first | assumption | omega | rfl) only [↓gp, gc, Nat.reduceAdd, ↓z9d, hnx, decide_true, decide_false]
 refine zld (47 :: r) (by simp; omega) (spl [] r) (by have := z8k r []; omega) _ _ (47 :: r).length 1 1 [] _ _ _ _ _ _ _ _ _ _ _ _ _ _ _ _ _ _ _ _ _ _ _ _ _ _ _ _ _ (by omega) (Nat.le_refl _) (Nat.le_refl _) (by simp) ?_ OwnS.nil rfl ?_
 ·simp
 ·intro S v3 b' ys v5 v6 g9 g10 g11 g12 g13 g14 g15 g16 g17 g18 g19 g20 g21 g22 g23 g24 g25 g26 g27 g28 g29 g30 g31 g32 g33 hb hy ho
  have hsl := zlh (S := S) (P := Try.prog) (t := 9) (s := 47 :: r) (lo := (b' : Int)) Try.underlying9 (by omega) (by omega)
  rw [Int.toNat_natCast] at hsl
  have hyl : ys.length < 1000000 := by
   have h1 := congrArg List.length hy
   have h2 := z8k r []
   simp at h1; omega
  obtain ⟨v', S', c, ha, ho', hfr, hlen⟩ := ap42 ((47 :: r).drop b') ho hyl
  simp (maxSteps := 1000000) (disch := first | assumption | omega | rfl) only [↓gp, gc, Nat.reduceAdd, hsl, ha]
  rw [← hy]
  exact zS rfl (z2j ho') (z4u ho')
theorem zdz {ops : Array Oper} {dst : Option Tmp} {k : List Oper} {T : List V} {S : zA} {F : Dfs} {Q : Post} {r : List UInt8} (hl : r.length < 900000) :
  WpR cfg ops dst k T S F Q (some (.enter 113 [.d (.str (47 :: r))])) = WpL cfg ops k (putT T dst (.d (.sl ((spl [] r).map .str)))) S F Q :=
 qA (ds := [.str (47 :: r)]) rfl (zid r hl)
end Go.Proofs.Ytghllhghboaagaa
end
section
namespace Go.Proofs.Ytghllhghboaagaa
open Go.Vm
theorem z8w : ∀ (r part : List UInt8), kT part r = if [] ∈ spl part r then none else some (spl part r)
 | [], part => by
  by_cases hp : part = []
  ·simp [kT, spl, hp]
  ·have : ¬ ([] : List UInt8) = part := fun h => hp h.symm
   simp [kT, spl, hp, this]
 | c :: r, part => by
  by_cases hc : c = 47
  ·by_cases hp : part = []
   ·simp [kT, spl, hp, hc]
   ·have hp' : ¬ ([] : List UInt8) = part := fun h => hp h.symm
    simp only [kT, spl, hc, hp, if_true, if_false, z8w r [], List.mem_cons, hp', false_or]
    split <;> rfl
  ·simp only [kT, spl, hc, if_false]
   exact z8w r _
theorem zgh : ∀ (r part x : List UInt8), x ∈ spl part r → x.length ≤ part.length + r.length
 | [], part, x, h => by simp [spl] at h; subst h; simp
 | c :: r, part, x, h => by
  unfold spl at h
  split at h
  ·rcases List.mem_cons.1 h with rfl | h
   ·simp
   ·have := zgh r [] x h; simp at this ⊢; omega
  ·have := zgh r _ x h; simp at this ⊢; omega
theorem zrt (l : List (List UInt8)) (hl : l.length < 1000000) (R : Post) (S : zA) (g0 g1 g2 g3 g4 : V) : ∀ (k i : Nat) (g5 g6 g7 g8 g9 g10 g11 g12 g13 g14 g15 g16 g17 g18 g19 g20 g21 g22 g23 g24 g28 g29 g30 g31 g32 g33 g34 g35 g36 g37 g38 g39 g40 g41 g42 g43 g44 : V), l.length - i = k → i ≤ l.length →
 (∀ i' g5 g6 g7 g8 g9 g10 g11 g12 g13 g14 g15 g16 g17 g18 g19 g20 g21 g22 g23 g24 g28 g29 g30 g31 g32 g33 g34 g35 g36 g37 g38 g39 g40 g41 g42 g43 g44, [] ∉ l.drop i → R (.exit 0) (g0 :: g1 :: g2 :: g3 :: g4 :: g5 :: g6 :: g7 :: g8 :: g9 :: g10 :: g11 :: g12 :: g13 :: g14 :: g15 :: g16 :: g17 :: g18 :: g19 :: g20 :: g21 :: g22 :: g23 :: g24 :: (.d (.sl (l.map .str))) :: (.d (.int .i64 l.length)) :: i' :: g28 :: g29 :: g30 :: g31 :: g32 :: g33 :: g34 :: g35 :: g36 :: g37 :: g38 :: g39 :: g40 :: g41 :: g42 :: g43 :: g44 :: []) S []) →
 (∀ i' g5 g6 g7 g8 g9 g10 g11 g12 g13 g14 g15 g16 g17 g18 g19 g20 g21 g22 g23 g24 g28 g29 g30 g31 g32 g33 g34 g35 g36 g37 g38 g39 g40 g41 g42 g43 g44, [] ∈ l.drop i → R .ret (g0 :: g1 :: (.ts []) :: (.d (.int .i64 15)) :: g4 :: g5 :: g6 :: g7 :: g8 :: g9 :: g10 :: g11 :: g12 :: g13 :: g14 :: g15 :: g16 :: g17 :: g18 :: g19 :: g20 :: g21 :: g22 :: g23 :: g24 :: (.d (.sl (l.map .str))) :: (.d (.int .i64 l.length)) :: i' :: g28 :: g29 :: g30 :: g31 :: g32 :: g33 :: g34 :: g35 :: g36 :: g37 :: g38 :: g39 :: g40 :: g41 :: g42 :: g43 :: g44 :: []) S []) →
 Wp cfg (.loop (lpOf (Try.f97.body.getD .skip) 0)) (g0 :: g1 :: g2 :: g3 :: g4 :: g5 :: g6 :: g7 :: g8 :: g9 :: g10 :: g11 :: g12 :: g13 :: g14 :: g15 :: g16 :: g17 :: g18 :: g19 :: g20 :: g21 :: g22 :: g23 :: g24 :: (.d (.sl (l.map .str))) :: (.d (.int .i64 l.length)) :: (.d (.int .i64 i)) :: g28 :: g29 :: g30 :: g31 :: g32 :: g33 :: g34 :: g35 :: g36 :: g37 :: g38 :: g39 :: g40 :: g41 :: g42 :: g43 :: g44 :: []) S [] R := by
 intro k
 induction k with
 | zero =>
  intro i g5 g6 g7 g8 g9 g10 g11 g12 g13 g14 g15 g16 g17 g18 g19 g20 g21 g22 g23 g24 g28 g29 g30 g31 g32 g33 g34 g35 g36 g37 g38 g39 g40 g41 g42 g43 g44 hk hi hE hR
  have hie : i = l.length := by omega
  rw [qO]
  refine zV ?_
  conv => arg 2; whnf
  simp (maxSteps := 1000000) (disch := first | assumption | omega | rfl) only [↓gp, gc, Nat.reduceAdd]
  exact hE _ _ _ _ _ _ _ _ _ _ _ _ _ _ _ _ _ _ _ _ _ _ _ _ _ _ _ _ _ _ _ _ _ _ _ _ _ _ (by rw [hie, List.drop_length]; simp)
 | succ k ih =>
  intro i g5 g6 g7 g8 g9 g10 g11 g12 g13 g14 g15 g16 g17 g18 g19 g20 g21 g22 g23 g24 g28 g29 g30 g31 g32 g33 g34 g35 g36 g37 g38 g39 g40 g41 g42 g43 g44 hk hi hE hR
  have hlt : i < l.length := by omega
  have hdr : l.drop i = l[i] :: l.drop (i + 1) := List.drop_eq_getElem_cons hlt
  rw [hdr] at hE hR
  rw [qO]
  refine zV ?_
  conv => arg 2; whnf
  by_cases hc : l[i] = []
  ·simp (maxSteps := 1000000) (disch := first | assumption | omega | rfl) only [↓gp, gc, Nat.reduceAdd]
   exact hR _ _ _ _ _ _ _ _ _ _ _ _ _ _ _ _ _ _ _ _ _ _ _ _ _ _ _ _ _ _ _ _ _ _ _ _ _ _ (by rw [hc]; exact List.mem_cons_self)
  ·have hc' : ¬ [] = l[i] := fun h => hc h.symm
   simp (maxSteps := 1000000) (disch := first | assumption | omega | rfl) only [↓gp, gc, Nat.reduceAdd]
   exact ih (i + 1) _ _ _ _ _ _ _ _ _ _ _ _ _ _ _ _ _ _ _ _ _ _ _ _ _ _ _ _ _ _ _ _ _ _ _ _ _ (by omega) (by omega) (fun i' g5 g6 g7 g8 g9 g10 g11 g12 g13 g14 g15 g16 g17 g18 g19 g20 g21 g22 g23 g24 g28 g29 g30 g31 g32 g33 g34 g35 g36 g37 g38 g39 g40 g41 g42 g43 g44 h => hE i' g5 g6 g7 g8 g9 g10 g11 g12 g13 g14 g15 g16 g17 g18 g19 g20 g21 g22 g23 g24 g28 g29 g30 g31 g32 g33 g34 g35 g36 g37 g38 g39 g40 g41 g42 g43 g44 (by rw [List.mem_cons]; exact fun hh => hh.elim hc' h)) (fun i' g5 g6 g7 g8 g9 g10 g11 g12 g13 g14 g15 g16 g17 g18 g19 g20 g21 g22 g23 g24 g28 g29 g30 g31 g32 g33 g34 g35 g36 g37 g38 g39 g40 g41 g42 g43 g44 h => hR i' g5 g6 g7 g8 g9 g10 g11 g12 g13 g14 g15 g16 g17 g18 g19 g20 g21 g22 g23 g24 g28 g29 g30 g31 g32 g33 g34 g35 g36 g37 g38 g39 g40 g41 g42 g43 g44 (List.mem_cons_of_mem _ h))
theorem ztb (l : List (List UInt8)) (hl : l.length < 1000000) (hm : ∀ x ∈ l, x.length < 1000000) (R : Post) (S : zA) (g0 g1 g2 g3 g4 : V) : ∀ (k i : Nat) (g5 g6 g7 g8 g9 g10 g11 g12 g13 g14 g15 g16 g17 g18 g19 g20 g21 g22 g23 g24 g25 g26 g27 g28 g29 g30 g31 g32 g33 g37 g38 g39 g40 g41 g42 g43 g44 : V), l.length - i = k → i ≤ l.length →
 (∀ i' g5 g6 g7 g8 g9 g10 g11 g12 g13 g14 g15 g16 g17 g18 g19 g20 g21 g22 g23 g24 g25 g26 g27 g28 g29 g30 g31 g32 g33 g37 g38 g39 g40 g41 g42 g43 g44, (l.drop i).all wO = true → R (.exit 2) (g0 :: g1 :: g2 :: g3 :: g4 :: g5 :: g6 :: g7 :: g8 :: g9 :: g10 :: g11 :: g12 :: g13 :: g14 :: g15 :: g16 :: g17 :: g18 :: g19 :: g20 :: g21 :: g22 :: g23 :: g24 :: g25 :: g26 :: g27 :: g28 :: g29 :: g30 :: g31 :: g32 :: g33 :: (.d (.sl (l.map .str))) :: (.d (.int .i64 l.length)) :: i' :: g37 :: g38 :: g39 :: g40 :: g41 :: g42 :: g43 :: g44 :: []) S []) →
 (∀ i' g5 g6 g7 g8 g9 g10 g11 g12 g13 g14 g15 g16 g17 g18 g19 g20 g21 g22 g23 g24 g25 g26 g27 g28 g29 g30 g31 g32 g33 g37 g38 g39 g40 g41 g42 g43 g44, (l.drop i).all wO = false → R .ret (g0 :: g1 :: (.ts []) :: (.d (.int .i64 3)) :: g4 :: g5 :: g6 :: g7 :: g8 :: g9 :: g10 :: g11 :: g12 :: g13 :: g14 :: g15 :: g16 :: g17 :: g18 :: g19 :: g20 :: g21 :: g22 :: g23 :: g24 :: g25 :: g26 :: g27 :: g28 :: g29 :: g30 :: g31 :: g32 :: g33 :: (.d (.sl (l.map .str))) :: (.d (.int .i64 l.length)) :: i' :: g37 :: g38 :: g39 :: g40 :: g41 :: g42 :: g43 :: g44 :: []) S []) →
 Wp cfg (.loop (lpOf (Try.f97.body.getD .skip) 2)) (g0 :: g1 :: g2 :: g3 :: g4 :: g5 :: g6 :: g7 :: g8 :: g9 :: g10 :: g11 :: g12 :: g13 :: g14 :: g15 :: g16 :: g17 :: g18 :: g19 :: g20 :: g21 :: g22 :: g23 :: g24 :: g25 :: g26 :: g27 :: g28 :: g29 :: g30 :: g31 :: g32 :: g33 :: (.d (.sl (l.map .str))) :: (.d (.int .i64 l.length)) :: (.d (.int .i64 i)) :: g37 :: g38 :: g39 :: g40 :: g41 :: g42 :: g43 :: g44 :: []) S [] R := by
 intro k
 induction k with
 | zero =>
  intro i g5 g6 g7 g8 g9 g10 g11 g12 g13 g14 g15 g16 g17 g18 g19 g20 g21 g22 g23 g24 g25 g26 g27 g28 g29 g30 g31 g32 g33 g37 g38 g39 g40 g41 g42 g43 g44 hk hi hE hR
  have hie : i = l.length := by omega
  rw [qO]
  refine zV ?_
  conv => arg 2; whnf
  simp (maxSteps := 1000000) (disch := first | assumption | omega | rfl) only [↓gp, gc, Nat.reduceAdd]
  exact hE _ _ _ _ _ _ _ _ _ _ _ _ _ _ _ _ _ _ _ _ _ _ _ _ _ _ _ _ _ _ _ _ _ _ _ _ _ _ (by rw [hie, List.drop_length]; rfl)
 | succ k ih =>
  intro i g5 g6 g7 g8 g9 g10 g11 g12 g13 g14 g15 g16 g17 g18 g19 g20 g21 g22 g23 g24 g25 g26 g27 g28 g29 g30 g31 g32 g33 g37 g38 g39 g40 g41 g42 g43 g44 hk hi hE hR
  have hlt : i < l.length := by omega
  have hdr : l.drop i = l[i] :: l.drop (i + 1) := List.drop_eq_getElem_cons hlt
  rw [hdr, List.all_cons] at hE hR
  have hml := hm _ (List.getElem_mem hlt)
  rw [qO]
  refine zV ?_
  conv => arg 2; whnf
  cases hc : wO l[i] with
  | false =>
   have hn : ¬ z51 l[i] = 0 := by simp [z51, hc]
   simp (maxSteps := 1000000) (disch := first | assumption | omega | rfl) only [↓gp, gc, Nat.reduceAdd, zaz]
   exact hR _ _ _ _ _ _ _ _ _ _ _ _ _ _ _ _ _ _ _ _ _ _ _ _ _ _ _ _ _ _ _ _ _ _ _ _ _ _ (by rw [hc]; rfl)
  | true =>
   have hn : z51 l[i] = 0 := by simp [z51, hc]
   rw [hc, Bool.true_and] at hE hR
   simp (maxSteps := 1000000) (disch := first | assumption | omega | rfl) only [↓gp, gc, Nat.reduceAdd, zaz, hn]
   exact ih (i + 1) _ _ _ _ _ _ _ _ _ _ _ _ _ _ _ _ _ _ _ _ _ _ _ _ _ _ _ _ _ _ _ _ _ _ _ _ _ (by omega) (by omega) hE hR
theorem zez (s : List UInt8) (hl : s.length < 900000) : Ev cfg 97 [.str s] (.ret (.tup [.d (.sl ((zN s).1.map .str)), .d (.int .i64 (zN s).2)])) := by
 refine wJ rfl rfl zxk ?_
 show Wp cfg (Try.f97.body.getD .skip) ((.d (.str s)) :: (.tup []) :: (.tup []) :: (.tup []) :: (.tup []) :: (.tup []) :: (.tup []) :: (.tup []) :: (.tup []) :: (.tup []) :: (.tup []) :: (.tup []) :: (.tup []) :: (.tup []) :: (.tup []) :: (.tup []) :: (.tup []) :: (.tup []) :: (.tup []) :: (.tup []) :: (.tup []) :: (.tup []) :: (.tup []) :: (.tup []) :: (.tup []) :: (.tup []) :: (.tup []) :: (.tup []) :: (.tup []) :: (.tup []) :: (.tup []) :: (.tup []) :: (.tup []) :: (.tup []) :: (.tup []) :: (.tup []) :: (.tup []) :: (.tup []) :: (.tup []) :: (.tup []) :: (.tup []) :: (.tup []) :: (.tup []) :: (.tup []) :: (.tup []) :: []) [] [] _
 conv => arg 2; whnf
 by_cases h0 : s = []
 ·subst h0
  simp (maxSteps := 1000000) (disch := first | assumption | omega | rfl) only [↓gp, gc, Nat.reduceAdd, decide_true, decide_false]
  exact kL rfl rfl rfl rfl rfl rfl
 ·by_cases h1 : (s.length : Int) > 200
  ·have e : zN s = ([], 15) := by unfold zN; rw [if_pos (.inr (.inl (by omega)))]
   simp (maxSteps := 1000000) (disch := first | assumption | omega | rfl) only [↓gp, gc, Nat.reduceAdd, decide_true, decide_false]
   rw [e]
   exact kL rfl rfl rfl rfl rfl rfl
  ·obtain ⟨c, r, rfl⟩ : ∃ c r, s = c :: r := by
    cases s with
    | nil => exact absurd rfl h0
    | cons c r => exact ⟨c, r, rfl⟩
   have hix : z4c Try.prog 9 (.d (.str (c :: r))) (.d (.int .i64 0)) = some (.d (.int .u8 c.toNat)) := zgp (i := 0) (s := c :: r) Try.underlying9 (by simp)
   have e47 : c = 47 ↔ (c.toNat : Int) = 47 := ⟨fun h => by rw [h]; rfl, fun h => UInt8.toNat_inj.1 (by show c.toNat = 47; omega)⟩
   by_cases h2 : (c.toNat : Int) = 47
   ·have hc : c = 47 := e47.2 h2
    subst hc
    by_cases h3 : r = []
    ·subst h3
     simp (maxSteps := 1000000) (disch := first | assumption | omega | rfl) only [↓gp, gc, Nat.reduceAdd, decide_true, decide_false, hix]
     exact kL rfl rfl rfl rfl rfl rfl
    ·have h3' : ¬ (47 :: r) = [47] := fun h => h3 (by simpa using h)
     have hrl : r.length < 900000 := by simp at hl; omega
     have hsl := z8k r []
     have hll : (spl [] r).length < 1000000 := by omega
     have e : zN (47 :: r) = match kT [] r with | none => ([], 15) | some l => if l.all wO then (l, 0) else ([], 3) := by
      unfold zN
      rw [if_neg (by simp at h1 ⊢; omega), if_neg (by intro h; exact h3 (by simpa using h))]
      rfl
     rw [z8w] at e
     simp (maxSteps := 1000000) (disch := first | assumption | omega | rfl) only [↓gp, gc, Nat.reduceAdd, decide_true, decide_false, hix, zdz]
     refine zrt (spl [] r) hll _ _ _ _ _ _ _ (spl [] r).length 0 _ _ _ _ _ _ _ _ _ _ _ _ _ _ _ _ _ _ _ _ _ _ _ _ _ _ _ _ _ _ _ _ _ _ _ _ _ rfl (by omega) ?_ ?_
     ·intro i' g5 g6 g7 g8 g9 g10 g11 g12 g13 g14 g15 g16 g17 g18 g19 g20 g21 g22 g23 g24 g28 g29 g30 g31 g32 g33 g34 g35 g36 g37 g38 g39 g40 g41 g42 g43 g44 hne
      rw [List.drop_zero] at hne
      rw [if_neg hne] at e
      simp only at e
      simp (maxSteps := 1000000) (disch := first | assumption | omega | rfl) only [↓gp, gc, Nat.reduceAdd, decide_true, decide_false]
      refine ztb (spl [] r) hll (fun x hx => by have := zgh r [] x hx; simp at this; omega) _ _ _ _ _ _ _ (spl [] r).length 0 _ _ _ _ _ _ _ _ _ _ _ _ _ _ _ _ _ _ _ _ _ _ _ _ _ _ _ _ _ _ _ _ _ _ _ _ _ rfl (by omega) ?_ ?_
      ·intro i' g5 g6 g7 g8 g9 g10 g11 g12 g13 g14 g15 g16 g17 g18 g19 g20 g21 g22 g23 g24 g25 g26 g27 g28 g29 g30 g31 g32 g33 g37 g38 g39 g40 g41 g42 g43 g44 ha
       rw [List.drop_zero] at ha
       rw [if_pos ha] at e
       simp (maxSteps := 1000000) (disch := first | assumption | omega | rfl) only [↓gp, gc, Nat.reduceAdd, decide_true, decide_false]
       rw [e]
       exact kL rfl rfl rfl rfl rfl rfl
      ·intro i' g5 g6 g7 g8 g9 g10 g11 g12 g13 g14 g15 g16 g17 g18 g19 g20 g21 g22 g23 g24 g25 g26 g27 g28 g29 g30 g31 g32 g33 g37 g38 g39 g40 g41 g42 g43 g44 ha
       rw [List.drop_zero] at ha
       rw [if_neg (by rw [ha]; exact Bool.noConfusion)] at e
       simp (maxSteps := 1000000) (disch := first | assumption | omega | rfl) only [↓gp, gc, Nat.reduceAdd, decide_true, decide_false]
       rw [e]
       exact kL rfl rfl rfl rfl rfl rfl
     ·intro i' g5 g6 g7 g8 g9 g10 g11 g12 g13 g14 g15 g16 g17 g18 g19 g20 g21 g22 g23 g24 g28 g29 g30 g31 g32 g33 g34 g35 g36 g37 g38 g39 g40 g41 g42 g43 g44 hne
      rw [List.drop_zero] at hne
      rw [if_pos hne] at e
      simp (maxSteps := 1000000) (disch := first | assumption | omega | rfl) only [↓gp, gc, Nat.reduceAdd, decide_true, decide_false]
      rw [e]
      exact kL rfl rfl rfl rfl rfl rfl
   ·have e : zN (c :: r) = ([], 15) := by
     unfold zN
     rw [if_pos (.inr (.inr (by simp; exact fun h => h2 (e47.1 h))))]
    simp (maxSteps := 1000000) (disch := first | assumption | omega | rfl) only [↓gp, gc, Nat.reduceAdd, decide_true, decide_false, hix]
    rw [e]
    exact kL rfl rfl rfl rfl rfl rfl
theorem z5k {ops : Array Oper} {dst : Option Tmp} {k : List Oper} {T : List V} {S : zA} {F : Dfs} {Q : Post} {s : List UInt8} (hl : s.length < 900000) :
  WpR cfg ops dst k T S F Q (some (.enter 97 [.d (.str s)])) = WpL cfg ops k (putT T dst (.tup [.d (.sl ((zN s).1.map .str)), .d (.int .i64 (zN s).2)])) S F Q :=
 qA (ds := [.str s]) rfl (zez s hl)
def upN (s : List UInt8) : List (List UInt8) × List UInt8 × Int :=
 if (zN s).2 ≠ 0 then ([], [], (zN s).2)
 else if (zN s).1.length = 0 then ([], [], 15)
 else ((zN s).1.take ((zN s).1.length - 1), (zN s).1.getD ((zN s).1.length - 1) [], 0)
theorem zzd (s : List UInt8) (hl : s.length < 900000) : Ev cfg 101 [.str s] (.ret (.tup [.d (.sl ((upN s).1.map .str)), .d (.str (upN s).2.1), .d (.int .i64 (upN s).2.2)])) := by
 refine wJ rfl rfl zsq ?_
 show Wp cfg (Try.f101.body.getD .skip) ((.d (.str s)) :: (.tup []) :: (.tup []) :: (.tup []) :: (.tup []) :: (.tup []) :: (.tup []) :: (.tup []) :: (.tup []) :: (.tup []) :: (.tup []) :: (.tup []) :: (.tup []) :: (.tup []) :: (.tup []) :: (.tup []) :: (.tup []) :: (.tup []) :: (.tup []) :: (.tup []) :: (.tup []) :: (.tup []) :: (.tup []) :: (.tup []) :: (.tup []) :: (.tup []) :: (.tup []) :: (.tup []) :: (.tup []) :: []) [] [] _
 conv => arg 2; whnf
 generalize hr : upN s = q
 unfold upN at hr
 have hn := z2v s
 by_cases h : (zN s).2 = 0
 ·rw [if_neg (by simp [h])] at hr
  by_cases h0 : (zN s).1.length = 0
  ·have h0' : ((zN s).1.length : Int) = 0 := by omega
   simp (maxSteps := 1000000) (disch := first | assumption | omega | rfl) only [↓gp, gc, Nat.reduceAdd, z5k]
   rw [if_pos h0] at hr
   subst hr
   exact z02 rfl rfl rfl rfl rfl rfl rfl rfl rfl
  ·have h0' : ¬ ((zN s).1.length : Int) = 0 := by omega
   rw [if_neg h0] at hr
   have hsl := zq1 (S := []) (P := Try.prog) (t := 42) (e := 9) (xs := (zN s).1.map D.str) (hi := ((zN s).1.length : Int) - 1) Try.underlying42 (by simp only [List.all_map, List.all_eq_true]; intro x _; exact zo1 x) zmf (by omega) (by simp only [List.length_map]; omega)
   rw [← List.map_take, show (((zN s).1.length : Int) - 1).toNat = (zN s).1.length - 1 by omega] at hsl
   have hlt : (zN s).1.length - 1 < (zN s).1.length := by omega
   have hix := ix42 (S := []) hlt
   rw [show (((zN s).1.length - 1 : Nat) : Int) = ((zN s).1.length : Int) - 1 by omega] at hix
   simp (maxSteps := 1000000) (disch := first | assumption | omega | rfl) only [↓gp, gc, Nat.reduceAdd, z5k]
   refine jE (is := [0, 1, 2, 3, 4, 5, 6, 7, 8, 9, 10, 11, 12, 13]) (h := 0) (by kernel_rfl) (by kernel_rfl) ?_
   simp (maxSteps := 1000000) (disch := first | assumption | omega | rfl) only [List.replicate_zero, eq_self, gd, ga, Nat.reduceAdd, ↓gq, Option.map_some, Option.map_none, hsl, hix]
   refine ⟨by kernel_rfl, ?_⟩
   simp (maxSteps := 1000000) (disch := first | assumption | omega | rfl) only [↓gp, gc, Nat.reduceAdd]
   subst hr
   rw [List.getD_eq_getElem?_getD, List.getElem?_eq_getElem hlt]
   exact z02 rfl rfl rfl rfl rfl rfl rfl rfl rfl
 ·simp (maxSteps := 1000000) (disch := first | assumption | omega | rfl) only [↓gp, gc, Nat.reduceAdd, z5k]
  rw [if_pos h] at hr
  subst hr
  exact z02 rfl rfl rfl rfl rfl rfl rfl rfl rfl
end Go.Proofs.Ytghllhghboaagaa
end
section
namespace Go.Proofs.Ytghllhghboaagaa
open Go.Vm
theorem zje {C : Cfg} {ops : Array Oper} {dst : Option Tmp} {ty : TypeId} {pos : String} {after : Array Edge} {l : List Oper} {T : List V} {S : zA} {F : Dfs} {Q : Post} {t : TypeId} : WpL C ops (⟨dst, .makeMap t none, ty, pos, after, none⟩ :: l) T S F Q = WpL C ops l (putT T dst (.mr S.length)) (S ++ [.mp [] 0]) F Q := by
 rw [z0k rfl]; rfl
def z9v (t : List Node) : List Int → Prop
 | [] => False
 | i :: r => hasN t i = true ∧ match r with
  | [] => i = 1
  | j :: _ => i ≠ 1 ∧ (getN t i).parent = j ∧ z9v t r
theorem eqI {a b : Int} : eqV Try.prog 3 (.d (.int .i64 a)) (.d (.int .i64 b)) = some (a == b) := by kernel_rfl
theorem keyI {k : Int} : zah Try.prog 3 (.d (.int .i64 k)) = true := by kernel_rfl
theorem z3 : zeroV Try.prog 3 = some (.d (.int .i64 0)) := by kernel_rfl
end Go.Proofs.Ytghllhghboaagaa
end
section
namespace Go.Proofs.Ytghllhghboaagaa
open Go.Vm
def mapD (t : List Node) : List (D × D) := t.map fun n => (.int .i64 n.ino, zB n)
theorem zd1 {S S' : zA} {v : V} {e : TypeId} {xs : List V} (h : OwnS S v e xs) (hk : ∀ (j : Nat) (ys : List V) (u : TypeId), S[j]? = some (.row ys u) → S'[j]? = some (.row ys u)) : OwnS S' v e xs := by
 rcases h with h | ⟨j, rfl, h1⟩
 ·exact .inl h
 ·exact .inr ⟨j, rfl, hk _ _ _ h1⟩
def MapN (S : zA) : Nat → List Node → List (D × V × Nat) → Prop
 | _, [], [] => True
 | c, n :: ns, e :: es => (∃ v1 v2, e = (.int .i64 n.ino, zC n v1 v2, c) ∧ OwnS S v1 5 (n.data.map fun b => .d (.int .u8 b.toNat)) ∧ OwnS S v2 88 (n.names.map fun x => .d (zK x))) ∧ MapN S (c + 1) ns es
 | _, _, _ => False
theorem MapN.keep {S S' : zA} (hk : ∀ (j : Nat) (ys : List V) (u : TypeId), S[j]? = some (.row ys u) → S'[j]? = some (.row ys u)) : ∀ {ns : List Node} {es : List (D × V × Nat)} {c : Nat}, MapN S c ns es → MapN S' c ns es
 | [], [], _, _ => trivial
 | n :: ns, e :: es, c, ⟨⟨v1, v2, h0, h1, h2⟩, h3⟩ => ⟨⟨v1, v2, h0, zd1 h1 hk, zd1 h2 hk⟩, MapN.keep hk h3⟩
theorem MapN.snoc {S : zA} {n : Node} {v1 v2 : V} (h1 : OwnS S v1 5 (n.data.map fun b => .d (.int .u8 b.toNat))) (h2 : OwnS S v2 88 (n.names.map fun x => .d (zK x))) : ∀ {ns : List Node} {es : List (D × V × Nat)} {c : Nat}, MapN S c ns es → MapN S c (ns ++ [n]) (es ++ [(.int .i64 n.ino, zC n v1 v2, c + ns.length)])
 | [], [], c, _ => ⟨⟨v1, v2, rfl, h1, h2⟩, trivial⟩
 | m :: ns, e :: es, c, ⟨h3, h4⟩ => by
  have := MapN.snoc h1 h2 h4
  rw [show c + 1 + ns.length = c + (m :: ns).length by simp; omega] at this
  exact ⟨h3, this⟩
theorem MapN.no {S : zA} {k : Int} : ∀ {ns : List Node} {es : List (D × V × Nat)} {c i : Nat}, MapN S c ns es → k ∉ ns.map (·.ino) → findD Try.prog 3 (.d (.int .i64 k)) es i = some none
 | [], [], _, _, _, _ => rfl
 | n :: ns, e :: es, c, i, ⟨⟨v1, v2, h0, _, _⟩, h3⟩, hk => by
  subst h0
  have h1 : (k == n.ino) = false := by rw [beq_eq_false_iff_ne]; rintro rfl; exact hk (by simp)
  simp only [findD, eqI, h1]
  exact MapN.no h3 (fun hh => hk (by simp at hh ⊢; exact .inr hh))
theorem MapN.frz {S : zA} : ∀ {ns : List Node} {es : List (D × V × Nat)} {c : Nat}, MapN S c ns es → allO (fun (e : D × V × Nat) => (frz S 9 e.2.1).map fun x => (e.1, x)) es = some (mapD ns)
 | [], [], _, _ => rfl
 | n :: ns, e :: es, c, ⟨⟨v1, v2, h0, h1, h2⟩, h3⟩ => by
  subst h0
  have hf : Go.Vm.frz S 9 (zC n v1 v2) = some (zB n) := zdd (k := 6) h1 h2
  simp only [allO, hf, Option.map_some, MapN.frz h3]
  rfl
theorem zzf {i : Nat} : vR Try.prog 127 [(0, .mr i)] = some (.agg [.mr i]) := by kernel_rfl
theorem zz1 {i : Nat} : qH Try.prog 127 (.agg [.mr i]) = true := by kernel_rfl
theorem vI {j x y : Nat} : zP Try.prog 127 0 (.ref j x y) = some (.ref j x (y + 0)) := by kernel_rfl
theorem vD {i : Nat} : kR Try.prog 125 0 (some (.agg [.mr i])) = some (.mr i) := by kernel_rfl
theorem jF {P : Program} {S : zA} {T : List V} {dst : Option Tmp} {ty : TypeId} {pos : String} {after : Array Edge} {g : Option (Nat × Bool)} {t : TypeId} {m k x : Operand} : opV P S T ⟨dst, .mapUpdate t m k x, ty, pos, after, g⟩ = (jT P S t (zG T m) (zG T k) (zG T x)).map fun S' => .skip S' 3 := rfl
def nilS (S : zA) : V → Option Rs
 | .ref i ix off => some (.val (.ref i ix off) S 0)
 | .d (.ptr x) => some (.val (.d (.ptr x)) S 0)
 | .fn (.func g) a b => some (.val (.fn (.func g) a b) S 0)
 | _ => none
theorem qK {P : Program} {S : zA} {T : List V} {dst : Option Tmp} {ty : TypeId} {pos : String} {after : Array Edge} {g : Option (Nat × Bool)} {x : Operand} : opV P S T ⟨dst, .nilCheck x, ty, pos, after, g⟩ = nilS S (zG T x) := by
 simp only [opV]
 generalize zG T x = v
 cases v with
 | d y => cases y <;> rfl
 | fn f a b => cases f <;> rfl
 | _ => rfl
theorem qF {S : zA} {i ix off : Nat} : nilS S (.ref i ix off) = some (.val (.ref i ix off) S 0) := rfl
theorem zpe {C : Cfg} {ops : Array Oper} {dst : Option Tmp} {ty : TypeId} {pos : String} {after : Array Edge} {l : List Oper} {T : List V} {S : zA} {F : Dfs} {Q : Post} {x : Operand} : WpL C ops (⟨dst, .nilCheck x, ty, pos, after, none⟩ :: l) T S F Q = WpR C ops dst l T S F Q (nilS S (zG T x)) := by
 rw [z0k rfl, qK]
end Go.Proofs.Ytghllhghboaagaa
end
section
namespace Go.Proofs.Ytghllhghboaagaa
open Go.Vm
def PanQ (o : Out) : Post := fun x T S F => ∃ v, x = .pan v ∧ F = [] ∧ z7x S (.pan v) = some o
theorem zdb {C : Cfg} {f : FuncId} {c : Code} {n : Nat} {rs : Array ResultVar} {ds : List D} {o : Out} (hx : C.ext f = none) (hc : C.catch_ f = none) (hb : zD C.P f = some ⟨c, n, rs⟩)
  (h : Wp C c (z1z n (ds.map .d)) [] [] (post C [] (PanQ o))) : Ev C f ds o := by
 obtain ⟨m, x, T, S, F, h1, v, rfl, rfl, h4⟩ := h
 refine ⟨m + 1, ?_⟩
 unfold runD answer
 simp only [hx, run, hc, hb, h1]
 exact h4
theorem zcn {C : Cfg} {S : zA} {ops : Array Oper} {dst : Option Tmp} {l : List Oper} {T : List V} {F : Dfs} {Q : Post} {f : FuncId} {ds : List D} {v : V} (hs : C.shared f = false) (he : Ev C f ds (.pan v)) :
  WpR C ops dst l T S F Q (some (.enter f (ds.map .d))) = Q (.pan v) T S F := by
 obtain ⟨n, hn⟩ := he
 have hn' : answer C (run C n) f ds = some (.pan v) := hn
 have hfz : ∀ ds : List D, allO (frz S zO) (ds.map V.d) = some ds := by
  intro ds
  induction ds with
  | nil => rfl
  | cons x r ih => simp only [List.map_cons, allO, ih, zh3]
 have hid : ((ds.map V.d).flatMap (zZ S zO)).isEmpty = true := by rw [zbr]; rfl
 have hc : kD C (run C n) f (ds.map .d) S = some (.pan v, S, 1) := by
  unfold kD
  simp only [hs, Bool.false_eq_true, if_false, hfz, hn', hid, if_true]
 apply propext
 constructor
 ·rintro ⟨m, o, S', c, h1, h2⟩
  have := z2s h1 hc
  simp only [Prod.mk.injEq] at this
  obtain ⟨rfl, rfl, rfl⟩ := this
  exact h2
 ·exact fun h => ⟨n, _, _, _, hc, h⟩
def panS (Q : Post) (T : List V) (S : zA) (F : Dfs) : V → Prop
 | .iface t v => Q (.pan (.iface t v)) T S F
 | .d (.iface t v) => Q (.pan (.d (.iface t v))) T S F
 | _ => False
theorem zn0 {C : Cfg} {ops : Array Oper} {dst : Option Tmp} {ty : TypeId} {pos : String} {after : Array Edge} {l : List Oper} {T : List V} {S : zA} {F : Dfs} {Q : Post} {x : Operand} : WpL C ops (⟨dst, .panic x, ty, pos, after, none⟩ :: l) T S F Q = panS Q T S F (zG T x) := by
 apply propext
 have hp : vM C.P T ⟨dst, .panic x, ty, pos, after, none⟩ l = none := z2d rfl
 generalize he : zG T x = v
 constructor
 ·rintro ⟨n, y, T', S', F', h1, h2⟩
  simp only [seqV, hp, zX, opV, he] at h1
  cases v with
  | iface t u => simp only [Option.some.injEq, Prod.mk.injEq] at h1; obtain ⟨rfl, rfl, rfl, rfl⟩ := h1; exact h2
  | d u => cases u <;> simp only [reduceCtorEq, Option.some.injEq, Prod.mk.injEq] at h1; obtain ⟨rfl, rfl, rfl, rfl⟩ := h1; exact h2
  | _ => cases h1
 ·intro h
  cases v with
  | iface t u => exact ⟨0, _, T, S, F, by simp only [seqV, hp, zX, opV, he], h⟩
  | d u => cases u <;> first | exact h.elim | exact ⟨0, _, T, S, F, by simp only [seqV, hp, zX, opV, he], h⟩
  | _ => exact h.elim
def zm1 (t : TypeId) (S : zA) (v : V) : Option Rs := if v.one = true then some (.val (.iface t v) S 0) else none
theorem zjm {ops : Array Oper} {dst : Option Tmp} {ty : TypeId} {pos : String} {after : Array Edge} {l : List Oper} {T : List V} {S : zA} {F : Dfs} {Q : Post} {x : Operand} : WpL cfg ops (⟨dst, .makeInterface 41 x, ty, pos, after, none⟩ :: l) T S F Q = WpR cfg ops dst l T S F Q (zm1 41 S (zG T x)) := by
 rw [z0k rfl]
 simp only [opV, hP, Try.underlying41, zm1]
theorem zo7 {t : TypeId} {S : zA} {x : D} : zm1 t S (.d x) = some (.val (.iface t (.d x)) S 0) := rfl
theorem zhq {P : Program} {x : Ex} {T : List V} {S : zA} (hx : x = .norm ∨ x = .ret) : RetQ P #[] (.ret (.tup [])) x T S [] := ⟨hx, rfl, .tup [], rfl, rfl⟩
def panD (e : Int) : Out := .pan (.d (.iface 41 (.int .i64 e)))
theorem zpq : zD Try.prog 98 = some ⟨Try.f98.body.getD .skip, 6, #[]⟩ := by
 unfold zD
 rw [Try.func98]
 rfl
theorem zku : zD Try.prog 102 = some ⟨Try.f102.body.getD .skip, 7, #[]⟩ := by
 unfold zD
 rw [Try.func102]
 rfl
theorem zxo : Ev cfg 98 [.int .i64 0] (.ret (.tup [])) := by
 refine wJ rfl rfl zpq ?_
 show Wp cfg (Try.f98.body.getD .skip) ((.d (.int .i64 0)) :: (.tup []) :: (.tup []) :: (.tup []) :: (.tup []) :: (.tup []) :: []) [] [] _
 conv => arg 2; whnf
 simp (maxSteps := 1000000) (disch := first | assumption | omega | rfl) only [↓gp, gc, Nat.reduceAdd, decide_false, ne_eq, not_true_eq_false]
 exact zhq (.inl rfl)
theorem zpp (e : Int) (he : e ≠ 0) : Ev cfg 98 [.int .i64 e] (panD e) := by
 refine zdb rfl rfl zpq ?_
 show Wp cfg (Try.f98.body.getD .skip) ((.d (.int .i64 e)) :: (.tup []) :: (.tup []) :: (.tup []) :: (.tup []) :: (.tup []) :: []) [] [] _
 conv => arg 2; whnf
 simp (maxSteps := 1000000) (disch := first | assumption | omega | rfl) only [↓gp, gc, Nat.reduceAdd, ↓zjm, zo7, ↓zn0, panS]
 exact ⟨_, rfl, rfl, rfl⟩
theorem zik {ops : Array Oper} {dst : Option Tmp} {k : List Oper} {T : List V} {S : zA} {F : Dfs} {Q : Post} {e : Int} (he : e ≠ 0) :
  WpR cfg ops dst k T S F Q (some (.enter 98 [.d (.int .i64 e)])) = Q (.pan (.d (.iface 41 (.int .i64 e)))) T S F :=
 zcn (ds := [.int .i64 e]) rfl (zpp e he)
theorem zxa (e : Int) : Ev cfg 102 [.bool false, .int .i64 e] (.ret (.tup [])) := by
 refine wJ rfl rfl zku ?_
 show Wp cfg (Try.f102.body.getD .skip) ((.d (.bool false)) :: (.d (.int .i64 e)) :: (.tup []) :: (.tup []) :: (.tup []) :: (.tup []) :: (.tup []) :: []) [] [] _
 conv => arg 2; whnf
 simp (maxSteps := 1000000) (disch := first | assumption | omega | rfl) only [↓gp, gc, Nat.reduceAdd]
 exact zhq (.inl rfl)
theorem zwd (e : Int) (he : e ≠ 0) : Ev cfg 102 [.bool true, .int .i64 e] (panD e) := by
 refine zdb rfl rfl zku ?_
 show Wp cfg (Try.f102.body.getD .skip) ((.d (.bool true)) :: (.d (.int .i64 e)) :: (.tup []) :: (.tup []) :: (.tup []) :: (.tup []) :: (.tup []) :: []) [] [] _
 conv => arg 2; whnf
 simp (maxSteps := 1000000) (disch := first | assumption | omega | rfl) only [↓gp, gc, Nat.reduceAdd, zik he]
 exact ⟨_, rfl, rfl, rfl⟩
theorem z8l {t : List Node} {k : Int} : ∀ {i : Nat}, findD Try.prog 3 (.d (.int .i64 k)) ((mapD t).map fun e => (e.1, V.d e.2)) i = some none ∧ t.find? (fun n => decide (n.ino = k)) = none ∨ ∃ j n, findD Try.prog 3 (.d (.int .i64 k)) ((mapD t).map fun e => (e.1, V.d e.2)) i = some (some (j, .d (zB n))) ∧ t.find? (fun n => decide (n.ino = k)) = some n := by
 induction t with
 | nil => exact fun {i} => .inl ⟨rfl, rfl⟩
 | cons n r ih =>
  intro i
  by_cases h : n.ino = k
  ·refine .inr ⟨i, n, ?_, by simp [h]⟩
   simp only [mapD, List.map_cons, findD, eqI, h, beq_self_eq_true]
  ·have h1 : (k == n.ino) = false := by rw [beq_eq_false_iff_ne]; exact fun hh => h hh.symm
   simp only [mapD, List.map_cons, findD, eqI, h1]
   rcases ih (i := i + 1) with ⟨h2, h3⟩ | ⟨j, m, h2, h3⟩
   ·exact .inl ⟨h2, by simp [h, h3]⟩
   ·exact .inr ⟨j, m, h2, by simp [h, h3]⟩
theorem zn1 {t : List Node} {i : Int} : hasN t i = decide (0 ≤ jD i 0 t) := by
 unfold hasN
 rcases z0e i t 0 with ⟨h1, h2⟩ | ⟨k, hk, h1, h2⟩
 ·rw [h1, h2]; rfl
 ·rw [h1, h2, decide_eq_true (by omega)]; rfl
theorem za8 {t : List Node} : ∀ {k : Nat} {i j : Int}, i ≤ j → j < z2p t k i → hasN t j = true
 | 0, i, j, h1, h2 => by simp only [z2p] at h2; omega
 | k + 1, i, j, h1, h2 => by
  unfold z2p at h2
  split at h2
  ·rename_i hf
   by_cases hij : i = j
   ·rw [zn1, ← hij]; exact decide_eq_true hf
   ·exact za8 (k := k) (i := i + 1) (by omega) h2
  ·omega
end Go.Proofs.Ytghllhghboaagaa
end
section
namespace Go.Proofs.Ytghllhghboaagaa
open Go.Vm
def fidx (s : List UInt8) : Nat → List Ent → Option Nat
 | _, [] => none
 | i, e :: r => if e.name = s then some i else fidx s (i + 1) r
theorem z0y {s : List UInt8} : ∀ {l : List Ent} {i : Nat}, (fidx s i l = none ∧ qR l s = -1) ∨ ∃ k, ∃ h : k < l.length, fidx s i l = some (i + k) ∧ qR l s = l[k].ino
 | [], i => .inl ⟨rfl, rfl⟩
 | e :: r, i => by
  by_cases h : e.name = s
  ·refine .inr ⟨0, by simp, ?_, ?_⟩
   ·simp [fidx, h]
   ·rw [zem h]; rfl
  ·rcases z0y (s := s) (l := r) (i := i + 1) with ⟨h1, h2⟩ | ⟨k, hk, h1, h2⟩
   ·exact .inl ⟨by simp only [fidx, h, if_false, h1], by rw [z8z h, h2]⟩
   ·refine .inr ⟨k + 1, by simp; omega, ?_, ?_⟩
    ·simp only [fidx, h, if_false, h1]
     rw [show i + 1 + k = i + (k + 1) by omega]
    ·rw [z8z h, h2]; rfl
theorem zqu (n : Node) (s : List UInt8) (hl : n.names.length < 1000000) (R : Post) (g3 g8 : V) : ∀ (k i : Nat) (S : zA) (v6 v7 g12 g13 g14 g15 g16 g17 g18 g19 g20 g21 : V), n.names.length - i = k → i ≤ n.names.length →
 (∀ S v6 v7 i' g12 g13 g14 g15 g16 g17 g18 g19 g20 g21, fidx s i (n.names.drop i) = none → R (.exit 0) ((.d (zB n)) :: (.d (.str s)) :: (.ref 0 0 0) :: g3 :: (.d (.int .i64 0)) :: (.d (.bool false)) :: v6 :: v7 :: g8 :: (.d (.sl (n.names.map zK))) :: (.d (.int .i64 n.names.length)) :: i' :: g12 :: g13 :: g14 :: g15 :: g16 :: g17 :: g18 :: g19 :: g20 :: g21 :: []) S []) →
 (∀ S v6 v7 i' (j : Nat) g12 g13 g14 g15 g16 g17 g18 g19 g20 g21, fidx s i (n.names.drop i) = some j → R .ret ((.d (zB n)) :: (.d (.str s)) :: (.ref 0 0 0) :: g3 :: (.d (.int .i64 j)) :: (.d (.bool true)) :: v6 :: v7 :: g8 :: (.d (.sl (n.names.map zK))) :: (.d (.int .i64 n.names.length)) :: i' :: g12 :: g13 :: g14 :: g15 :: g16 :: g17 :: g18 :: g19 :: g20 :: g21 :: []) S []) →
 Wp cfg (.loop (lpOf (Try.f105.body.getD .skip) 0)) ((.d (zB n)) :: (.d (.str s)) :: (.ref 0 0 0) :: g3 :: (.d (.int .i64 0)) :: (.d (.bool false)) :: v6 :: v7 :: g8 :: (.d (.sl (n.names.map zK))) :: (.d (.int .i64 n.names.length)) :: (.d (.int .i64 i)) :: g12 :: g13 :: g14 :: g15 :: g16 :: g17 :: g18 :: g19 :: g20 :: g21 :: []) S [] R := by
 intro k
 induction k with
 | zero =>
  intro i S v6 v7 g12 g13 g14 g15 g16 g17 g18 g19 g20 g21 hk hi hE hR
  have hie : i = n.names.length := by omega
  rw [qO]
  refine zV ?_
  conv => arg 2; whnf
  simp (maxSteps := 1000000) (disch := first | assumption | omega | rfl) only [↓gp, gc, Nat.reduceAdd]
  exact hE _ _ _ _ _ _ _ _ _ _ _ _ _ _ (by rw [hie, List.drop_length]; rfl)
 | succ k ih =>
  intro i S v6 v7 g12 g13 g14 g15 g16 g17 g18 g19 g20 g21 hk hi hE hR
  have hlt : i < n.names.length := by omega
  have hdr : n.names.drop i = n.names[i] :: n.names.drop (i + 1) := List.drop_eq_getElem_cons hlt
  rw [hdr] at hE hR
  rw [qO]
  refine zV ?_
  conv => arg 2; whnf
  by_cases hc : n.names[i].name = s
  ·have e : fidx s i (n.names[i] :: n.names.drop (i + 1)) = some i := by simp only [fidx, hc, if_true]
   simp (maxSteps := 1000000) (disch := first | assumption | omega | rfl) only [↓gp, gc, Nat.reduceAdd, zR, zQ]
   exact hR _ _ _ _ _ _ _ _ _ _ _ _ _ _ _ e
  ·have e : fidx s i (n.names[i] :: n.names.drop (i + 1)) = fidx s (i + 1) (n.names.drop (i + 1)) := by simp only [fidx, hc, if_false]
   rw [e] at hE hR
   simp (maxSteps := 1000000) (disch := first | assumption | omega | rfl) only [↓gp, gc, Nat.reduceAdd, zR, zQ]
   exact ih (i + 1) _ _ _ _ _ _ _ _ _ _ _ _ _ (by omega) (by omega) hE hR
def vV (n : Node) (s : List UInt8) : Int × Bool := match fidx s 0 n.names with | some j => ((j : Nat), true) | none => (0, false)
theorem zom (n : Node) (s : List UInt8) (hl : n.names.length < 1000000) : Ev cfg 105 [zB n, .str s] (.ret (.tup [.d (.int .i64 (vV n s).1), .d (.bool (vV n s).2)])) := by
 refine wJ rfl rfl zt4 ?_
 show Wp cfg (Try.f105.body.getD .skip) ((.d (zB n)) :: (.d (.str s)) :: (.tup []) :: (.tup []) :: (.tup []) :: (.tup []) :: (.tup []) :: (.tup []) :: (.tup []) :: (.tup []) :: (.tup []) :: (.tup []) :: (.tup []) :: (.tup []) :: (.tup []) :: (.tup []) :: (.tup []) :: (.tup []) :: (.tup []) :: (.tup []) :: (.tup []) :: (.tup []) :: []) [] [] _
 conv => arg 2; whnf
 simp (maxSteps := 1000000) (disch := first | assumption | omega | rfl) only [↓gp, gc, Nat.reduceAdd]
 refine zqu n s hl _ _ _ n.names.length 0 _ _ _ _ _ _ _ _ _ _ _ _ _ rfl (by omega) ?_ ?_
 ·intro S v6 v7 i' g12 g13 g14 g15 g16 g17 g18 g19 g20 g21 h
  rw [List.drop_zero] at h
  simp (maxSteps := 1000000) (disch := first | assumption | omega | rfl) only [↓gp, gc, Nat.reduceAdd]
  unfold vV
  rw [h]
  exact kL rfl rfl rfl rfl rfl rfl
 ·intro S v6 v7 i' j g12 g13 g14 g15 g16 g17 g18 g19 g20 g21 h
  rw [List.drop_zero] at h
  simp (maxSteps := 1000000) (disch := first | assumption | omega | rfl) only [↓gp, gc, Nat.reduceAdd]
  unfold vV
  rw [h]
  exact kL rfl rfl rfl rfl rfl rfl
structure Told (t : List Node) : Prop where
 root : hasN t 1 = true
 has : ∀ x, ∀ e ∈ (getN t x).names, hasN t e.ino = true
 ge2 : ∀ x, ∀ e ∈ (getN t x).names, 2 ≤ e.ino
end Go.Proofs.Ytghllhghboaagaa
end
section
namespace Go.Vm
open Go
section
variable {C : Cfg} {ops : Array Oper} {base : Nat} {F : Dfs} {Q : Post}
theorem jI {dst : Option Tmp} {l : List Oper} {T : List V} {S : zA} {f : FuncId} {args : List V} {R : Out → zA → Prop} (hs : C.shared f = true) (he : EvS C f args S R) (hk : ∀ v S', R (.ret v) S' → WpL C ops l (putT T dst v) S' F Q) (hpan : ∀ v S', R (.pan v) S' → Q (.pan v) T S' F) : WpR C ops dst l T S F Q (some (.enter f args)) := by
 obtain ⟨n, out, S', hn, hR⟩ := he
 have hc : kD C (run C n) f args S = some (out, S', 3) := by
  unfold kD
  simp only [hs, if_true, hn, Option.map_some]
 refine ⟨n, out, S', 3, hc, ?_⟩
 cases out with
 | ret v => exact hk v S' hR
 | pan v => exact hpan v S' hR
theorem zf0 {f g : FuncId} {first caps : List V} {S : zA} {R R' : Out → zA → Prop} {pst : Out → Option V} (hc : C.catch_ f = some pst) (he : EvS C g (first ++ caps) S R) (hR : ∀ o S', R o S' → ∃ v, pst o = some v ∧ R' (.ret v) S') : EvS C f [.fn (.func g) first caps] S R' := by
 obtain ⟨n, o, S', hn, hr⟩ := he
 obtain ⟨v, hv, hr'⟩ := hR o S' hr
 exact ⟨n + 1, .ret v, S', by simp only [run, hc, hn, hv], hr'⟩
def RQ (P : Program) (rs : Array ResultVar) (R : Out → zA → Prop) : Post := fun x T S F => F = [] ∧ match x with | .norm => ∃ v, jO P rs T S = some v ∧ R (.ret v) S | .ret => ∃ v, jO P rs T S = some v ∧ R (.ret v) S | .pan v => R (.pan v) S | .exit _ => False
theorem vH {f : FuncId} {c : Code} {n : Nat} {rs : Array ResultVar} {args : List V} {S : zA} {R : Out → zA → Prop} (hc : C.catch_ f = none) (hb : zD C.P f = some ⟨c, n, rs⟩) (h : Wp C c (z1z n args) S [] (RQ C.P rs R)) : EvS C f args S R := zmj hc hb h
def mfS (fn : Fn) (S : zA) (xs ys : List V) : Option Rs := if xs.all V.one && ys.all V.one then some (.val (.fn fn xs ys) S 0) else none
theorem z98 {dst : Option Tmp} {ty : TypeId} {pos : String} {after : Array Edge} {l : List Oper} {T : List V} {S : zA} {fn : Fn} {first caps : Array Operand} : WpL C ops (⟨dst, .makeFunc fn first caps, ty, pos, after, none⟩ :: l) T S F Q = WpR C ops dst l T S F Q (mfS fn S (first.toList.map (zG T)) (caps.toList.map (zG T))) := by
 rw [z0k rfl]; rfl
end
theorem z8b {P : Program} {T : List V} {dst : Option Tmp} {ty : TypeId} {pos : String} {after : Array Edge} {g : Option (Nat × Bool)} {e : TypeId} {z : V} (hz : zeroV P e = some z) (hf : qH P e z = true) : addO P T ⟨dst, .alloc e, ty, pos, after, g⟩ = some (.row [z] e, fun id => .ref id 0 0) := by
 simp only [addO, hz, hf, if_true]
end Go.Vm
end
section
namespace Go.Proofs.Ytghllhghboaagaa
open Go.Vm
end Go.Proofs.Ytghllhghboaagaa
end
section
namespace Go.Proofs.Ytghllhghboaagaa
open Go.Vm
theorem zym {fn : Fn} {S : zA} {a b c d e f g h i : Nat} : mfS fn S [] [.ref a b c, .ref d e f, .ref g h i] = some (.val (.fn fn [] [.ref a b c, .ref d e f, .ref g h i]) S 0) := rfl
theorem bo42 : (zD Try.prog 42).isSome = true := by kernel_rfl
end Go.Proofs.Ytghllhghboaagaa
end
section
namespace Go.Proofs.Ytghllhghboaagaa
open Go.Vm
theorem z8a {dst : Option Tmp} {ty : TypeId} {pos : String} {after : Array Edge} {g : Option (Nat × Bool)} {t : TypeId} : kP ⟨dst, .alloc t, ty, pos, after, g⟩ = true := rfl
theorem zst {t : List Node} (hT : Told t) : ∀ (ps : List (List UInt8)) (d : Int), hasN t d = true → (goN t ps d).2 = 0 → hasN t (goN t ps d).1 = true := fun ps => by
 induction ps with
 | nil => intro d hd _; exact hd
 | cons p r ih =>
  intro d hd h
  unfold goN at h ⊢
  split at h
  ·simp at h
  ·split at h
   ·simp at h
   ·rename_i h1 h2
    rw [if_neg h1, if_neg h2]
    rcases z0y (s := p) (l := (getN t d).names) (i := 0) with ⟨_, h3⟩ | ⟨j, hj, _, h3⟩
    ·rw [h3] at h2; exact absurd (by omega) h2
    ·rw [h3] at h ⊢
     exact ih _ (hT.has d _ (List.getElem_mem hj)) h
end Go.Proofs.Ytghllhghboaagaa
end
section
namespace Go.Proofs.Ytghllhghboaagaa
open Go.Vm
def upd (g : Int → Node) (m : Node) : Int → Node := fun x => if x = m.ino then m else g x
def del (g : Int → Node) (i : Int) : Int → Node := fun x => if x = i then zL else g x
inductive Up (g : Int → Node) (i : Int) : Int → Prop
 | root : i ≠ 1 → Up g i 1
 | step {x : Int} : x ≠ i → (g x).kind = 2 → x ≠ 1 → Up g i (g x).parent → Up g i x
theorem Up.mono {g g' : Int → Node} {i x : Int} (h : ∀ x, (g x).kind = 2 → x ≠ i → (g' x).kind = 2 ∧ (g' x).parent = (g x).parent) (hx : Up g i x) : Up g' i x := by
 induction hx with
 | root h1 => exact .root h1
 | step h1 h2 h3 _ ih => exact .step h1 (h _ h2 h1).1 h3 (by rw [(h _ h2 h1).2]; exact ih)
structure Inv (g : Int → Node) (i : Int) : Prop where
 root : (g 1).kind = 2
 ge2 : ∀ x, ∀ e ∈ (g x).names, 2 ≤ e.ino
 un : ∀ x, ∀ e ∈ (g x).names, ∀ e' ∈ (g x).names, e.name = e'.name → e.ino = e'.ino
 ln : ∀ x, (g x).kind = 2 → (g x).links = 1
 told : ∀ x, (g x).kind = 2 → x ≠ 1 → x ≠ i → (g (g x).parent).kind = 2 ∧ ∃ e ∈ (g (g x).parent).names, e.ino = x
 way : ∀ x, (g x).kind = 2 → Up g 0 x
 pos : ∀ x, (g x).kind = 2 → 1 ≤ x
theorem Inv.any {g : Int → Node} {i : Int} (h : Inv g 1) : Inv g i :=
 ⟨h.root, h.ge2, h.un, h.ln, fun x h1 h2 _ => h.told x h1 h2 h2, h.way, h.pos⟩
theorem Inv.file {g : Int → Node} {i : Int} {m : Node} (h : Inv g i) (hm : m.kind ≠ 2) (hg : (g m.ino).kind ≠ 2) (h2 : ∀ e ∈ m.names, 2 ≤ e.ino) (hu : ∀ e ∈ m.names, ∀ e' ∈ m.names, e.name = e'.name → e.ino = e'.ino) : Inv (upd g m) i := by
 have hk : ∀ x, (upd g m x).kind = 2 → x ≠ m.ino ∧ (g x).kind = 2 := fun x hx => by unfold upd at hx; grind
 have he : ∀ x, x ≠ m.ino → upd g m x = g x := fun x hx => by simp [upd, hx]
 have hs : upd g m m.ino = m := by simp [upd]
 refine ⟨?_, ?_, ?_, ?_, ?_, ?_, ?_⟩
 ·rw [he]; exact h.root
  intro h1; rw [← h1] at hg; exact hg h.root
 ·intro x e hx
  by_cases hxm : x = m.ino
  ·rw [hxm, hs] at hx; exact h2 e hx
  ·rw [he x hxm] at hx; exact h.ge2 x e hx
 ·intro x
  by_cases hxm : x = m.ino
  ·rw [hxm, hs]; exact hu
  ·rw [he x hxm]; exact h.un x
 ·intro x hx
  obtain ⟨h1, h3⟩ := hk x hx
  rw [he x h1]; exact h.ln x h3
 ·intro x hx n1 ni
  obtain ⟨h1, h3⟩ := hk x hx
  rw [he x h1]
  obtain ⟨h4, h5⟩ := h.told x h3 n1 ni
  have h6 : (g x).parent ≠ m.ino := fun hh => by rw [hh] at h4; exact hg h4
  rw [he _ h6]; exact ⟨h4, h5⟩
 ·intro x hx
  obtain ⟨h1, h3⟩ := hk x hx
  refine (h.way x h3).mono fun y hy _ => ?_
  have : y ≠ m.ino := fun hh => by rw [hh] at hy; exact hg hy
  rw [he y this]; exact ⟨hy, rfl⟩
 ·intro x hx
  exact h.pos x (hk x hx).2
theorem Inv.delFile {g : Int → Node} {i j : Int} (h : Inv g i) (hg : (g j).kind ≠ 2) : Inv (del g j) i := by
 have he : ∀ x, x ≠ j → del g j x = g x := fun x hx => by simp [del, hx]
 have hs : del g j j = zL := by simp [del]
 have hk : ∀ x, (del g j x).kind = 2 → x ≠ j ∧ (g x).kind = 2 := fun x hx => by
  by_cases hxj : x = j
  ·rw [hxj, hs] at hx; exact absurd hx (by simp [zL])
  ·rw [he x hxj] at hx; exact ⟨hxj, hx⟩
 refine ⟨?_, ?_, ?_, ?_, ?_, ?_, ?_⟩
 ·rw [he]; exact h.root
  intro h1; rw [← h1] at hg; exact hg h.root
 ·intro x e hx
  by_cases hxm : x = j
  ·rw [hxm, hs] at hx; simp [zL] at hx
  ·rw [he x hxm] at hx; exact h.ge2 x e hx
 ·intro x
  by_cases hxm : x = j
  ·rw [hxm, hs]; simp [zL]
  ·rw [he x hxm]; exact h.un x
 ·intro x hx
  obtain ⟨h1, h3⟩ := hk x hx
  rw [he x h1]; exact h.ln x h3
 ·intro x hx n1 ni
  obtain ⟨h1, h3⟩ := hk x hx
  rw [he x h1]
  obtain ⟨h4, h5⟩ := h.told x h3 n1 ni
  have h6 : (g x).parent ≠ j := fun hh => by rw [hh] at h4; exact hg h4
  rw [he _ h6]; exact ⟨h4, h5⟩
 ·intro x hx
  obtain ⟨h1, h3⟩ := hk x hx
  refine (h.way x h3).mono fun y hy _ => ?_
  have : y ≠ j := fun hh => by rw [hh] at hy; exact hg hy
  rw [he y this]; exact ⟨hy, rfl⟩
 ·intro x hx
  exact h.pos x (hk x hx).2
theorem Inv.delDir {g : Int → Node} {j : Int} (h : Inv g j) (hj : j ≠ 1) (hn : (g j).names = []) : Inv (del g j) 1 := by
 have he : ∀ x, x ≠ j → del g j x = g x := fun x hx => by simp [del, hx]
 have hs : del g j j = zL := by simp [del]
 have hk : ∀ x, (del g j x).kind = 2 → x ≠ j ∧ (g x).kind = 2 := fun x hx => by
  by_cases hxj : x = j
  ·rw [hxj, hs] at hx; exact absurd hx (by simp [zL])
  ·rw [he x hxj] at hx; exact ⟨hxj, hx⟩
 have hp : ∀ x, (g x).kind = 2 → x ≠ 1 → x ≠ j → (g x).parent ≠ j := fun x h1 h2 h3 hh => by
  obtain ⟨_, e, h5, _⟩ := h.told x h1 h2 h3
  rw [hh, hn] at h5
  simp at h5
 refine ⟨?_, ?_, ?_, ?_, ?_, ?_, ?_⟩
 ·rw [he _ (fun h1 => hj h1.symm)]; exact h.root
 ·intro x e hx
  by_cases hxm : x = j
  ·rw [hxm, hs] at hx; simp [zL] at hx
  ·rw [he x hxm] at hx; exact h.ge2 x e hx
 ·intro x
  by_cases hxm : x = j
  ·rw [hxm, hs]; simp [zL]
  ·rw [he x hxm]; exact h.un x
 ·intro x hx
  obtain ⟨h1, h3⟩ := hk x hx
  rw [he x h1]; exact h.ln x h3
 ·intro x hx n1 ni
  obtain ⟨h1, h3⟩ := hk x hx
  rw [he x h1, he _ (hp x h3 n1 h1)]
  exact h.told x h3 n1 h1
 ·intro x hx
  obtain ⟨h1, h3⟩ := hk x hx
  have hw := h.way x h3
  clear hx h3
  induction hw with
  | root h0 => exact .root h0
  | step h4 h5 h6 _ ih => exact .step h4 (by rw [he _ h1]; exact h5) h6 (by rw [he _ h1]; exact ih (hp _ h5 h6 h1))
 ·intro x hx
  exact h.pos x (hk x hx).2
theorem Inv.names {g : Int → Node} {i j d : Int} {m : Node} (h : Inv g i) (hd : (g d).kind = 2) (hi : m.ino = d) (hk : m.kind = 2) (hl : m.links = (g d).links) (hp : m.parent = (g d).parent)
  (h2 : ∀ e ∈ m.names, 2 ≤ e.ino) (hu : ∀ e ∈ m.names, ∀ e' ∈ m.names, e.name = e'.name → e.ino = e'.ino)
  (ht : ∀ x, (g x).kind = 2 → x ≠ 1 → x ≠ j → (g (g x).parent).kind = 2 ∧ ∃ e ∈ (if (g x).parent = d then m.names else (g (g x).parent).names), e.ino = x) : Inv (upd g m) j := by
 have he : ∀ x, x ≠ d → upd g m x = g x := fun x hx => by simp [upd, hi, hx]
 have hs : upd g m d = m := by simp [upd, hi]
 have hkk : ∀ x, (upd g m x).kind = (g x).kind := fun x => by
  by_cases hx : x = d
  ·rw [hx, hs, hk, hd]
  ·rw [he x hx]
 have hpp : ∀ x, (upd g m x).parent = (g x).parent := fun x => by
  by_cases hx : x = d
  ·rw [hx, hs, hp]
  ·rw [he x hx]
 have hnn : ∀ x, (upd g m x).names = if x = d then m.names else (g x).names := fun x => by
  by_cases hx : x = d
  ·rw [if_pos hx, hx, hs]
  ·rw [if_neg hx, he x hx]
 refine ⟨?_, ?_, ?_, ?_, ?_, ?_, ?_⟩
 ·rw [hkk]; exact h.root
 ·intro x e hx
  rw [hnn] at hx
  split at hx
  ·exact h2 e hx
  ·exact h.ge2 x e hx
 ·intro x
  rw [hnn]
  split
  ·exact hu
  ·exact h.un x
 ·intro x hx
  rw [hkk] at hx
  by_cases hxd : x = d
  ·rw [hxd, hs, hl]; exact h.ln d hd
  ·rw [he x hxd]; exact h.ln x hx
 ·intro x hx n1 nj
  rw [hkk] at hx
  rw [hpp, hkk, hnn]
  exact ht x hx n1 nj
 ·intro x hx
  rw [hkk] at hx
  exact (h.way x hx).mono fun y hy _ => ⟨by rw [hkk]; exact hy, hpp y⟩
 ·intro x hx
  rw [hkk] at hx
  exact h.pos x hx
theorem Inv.newDir {g : Int → Node} {m : Node} (h : Inv g 1) (hg : (g m.ino).kind ≠ 2) (hm : m.kind = 2) (hl : m.links = 1) (hn : m.names = []) (hp : (g m.parent).kind = 2) (h2 : 2 ≤ m.ino) : Inv (upd g m) m.ino := by
 have he : ∀ x, x ≠ m.ino → upd g m x = g x := fun x hx => by simp [upd, hx]
 have hs : upd g m m.ino = m := by simp [upd]
 have hmono : ∀ x, Up g 0 x → Up (upd g m) 0 x := fun x hx => hx.mono fun y hy _ => by
  have : y ≠ m.ino := fun hh => by rw [hh] at hy; exact hg hy
  rw [he y this]; exact ⟨hy, rfl⟩
 refine ⟨?_, ?_, ?_, ?_, ?_, ?_, ?_⟩
 ·rw [he _ (by omega)]; exact h.root
 ·intro x e hx
  by_cases hxm : x = m.ino
  ·rw [hxm, hs, hn] at hx; simp at hx
  ·rw [he x hxm] at hx; exact h.ge2 x e hx
 ·intro x
  by_cases hxm : x = m.ino
  ·rw [hxm, hs, hn]; simp
  ·rw [he x hxm]; exact h.un x
 ·intro x hx
  by_cases hxm : x = m.ino
  ·rw [hxm, hs, hl]
  ·rw [he x hxm] at hx ⊢; exact h.ln x hx
 ·intro x hx n1 ni
  rw [he x ni] at hx ⊢
  obtain ⟨h4, h5⟩ := h.told x hx n1 n1
  have h6 : (g x).parent ≠ m.ino := fun hh => by rw [hh] at h4; exact hg h4
  rw [he _ h6]; exact ⟨h4, h5⟩
 ·intro x hx
  by_cases hxm : x = m.ino
  ·rw [hxm]
   refine .step (by omega) (by rw [hs]; exact hm) (by omega) ?_
   rw [hs]
   exact hmono _ (h.way _ hp)
  ·rw [he x hxm] at hx; exact hmono _ (h.way x hx)
 ·intro x hx
  by_cases hxm : x = m.ino
  ·omega
  ·rw [he x hxm] at hx; exact h.pos x hx
theorem Inv.move {g : Int → Node} {i d : Int} {m : Node} (h : Inv g i) (hi : m.ino = i) (hk : m.kind = 2) (hki : (g i).kind = 2) (h1 : i ≠ 1) (hl : m.links = (g i).links) (hp : m.parent = d) (hn : m.names = (g i).names)
  (hd : (g d).kind = 2) (hid : d ≠ i) (ht : ∃ e ∈ (g d).names, e.ino = i) (hu : Up g i d) : Inv (upd g m) 1 := by
 have he : ∀ x, x ≠ i → upd g m x = g x := fun x hx => by simp [upd, hi, hx]
 have hs : upd g m i = m := by simp [upd, hi]
 have hkk : ∀ x, (upd g m x).kind = (g x).kind := fun x => by
  by_cases hx : x = i
  ·rw [hx, hs, hk, hki]
  ·rw [he x hx]
 have hnn : ∀ x, (upd g m x).names = (g x).names := fun x => by
  by_cases hx : x = i
  ·rw [hx, hs, hn]
  ·rw [he x hx]
 have hpi := h.pos i hki
 have hup : ∀ x, Up g i x → Up (upd g m) 0 x := fun x hx => by
  induction hx with
  | root _ => exact .root (by omega)
  | step a b c _ ih =>
   have := h.pos _ b
   exact .step (by omega) (by rw [hkk]; exact b) c (by rw [he _ a]; exact ih)
 refine ⟨?_, ?_, ?_, ?_, ?_, ?_, ?_⟩
 ·rw [hkk]; exact h.root
 ·intro x e hx
  rw [hnn] at hx; exact h.ge2 x e hx
 ·intro x
  rw [hnn]; exact h.un x
 ·intro x hx
  rw [hkk] at hx
  by_cases hxi : x = i
  ·rw [hxi, hs, hl]; exact h.ln i hki
  ·rw [he x hxi]; exact h.ln x hx
 ·intro x hx n1 _
  rw [hkk] at hx
  by_cases hxi : x = i
  ·rw [hxi, hs, hp, hkk, hnn]; exact ⟨hd, ht⟩
  ·rw [he x hxi, hkk, hnn]; exact h.told x hx n1 hxi
 ·intro x hx
  rw [hkk] at hx
  have hw := h.way x hx
  clear hx
  induction hw with
  | root h0 => exact .root h0
  | @step x a b c _ ih =>
   by_cases hxi : x = i
   ·refine .step a (by rw [hkk]; exact b) c ?_
    rw [hxi, hs, hp]
    exact hup _ hu
   ·exact .step a (by rw [hkk]; exact b) c (by rw [he _ hxi]; exact ih)
 ·intro x hx
  rw [hkk] at hx; exact h.pos x hx
end Go.Proofs.Ytghllhghboaagaa
end
section
namespace Go.Proofs.Ytghllhghboaagaa
open Go.Vm
def Uniq (t : List Node) : Prop := ∀ n ∈ t, ∀ m ∈ t, n.ino = m.ino → n = m
theorem z66 {t : List Node} (hu : Uniq t) {n : Node} (hn : n ∈ t) : getN t n.ino = n := by
 rcases jN t n.ino with ⟨_, h⟩ | ⟨h1, h2⟩
 ·exact absurd rfl (h n hn)
 ·exact hu _ h1 _ hn h2
theorem z1v {t : List Node} {x : Int} (h : ∀ n ∈ t, n.ino ≠ x) : getN t x = zL := by
 rcases jN t x with ⟨h1, _⟩ | ⟨h1, h2⟩
 ·exact h1
 ·exact absurd h2 (h _ h1)
theorem z19 {t : List Node} {m : Node} (hu : Uniq t) : Uniq (qQ t m) := by
 intro n hn n' hn' he
 rw [wY] at hn hn'
 rcases hn with rfl | ⟨h1, h2⟩ <;> rcases hn' with rfl | ⟨h3, h4⟩
 ·rfl
 ·exact absurd he.symm h4
 ·exact absurd he h2
 ·exact hu _ h1 _ h3 he
theorem jB {t : List Node} {m : Node} (hu : Uniq t) : getN (qQ t m) = upd (getN t) m := by
 funext x
 unfold upd
 split
 ·rename_i hx
  rw [hx]
  exact z66 (z19 hu) (wY.2 (.inl rfl))
 ·rename_i hx
  rcases jN t x with ⟨h1, h2⟩ | ⟨h1, h2⟩
  ·rw [h1]
   refine z1v fun n hn => ?_
   rcases wY.1 hn with rfl | ⟨h3, _⟩
   ·exact fun h => hx h.symm
   ·exact h2 n h3
  ·have h3 : getN t x ∈ qQ t m := wY.2 (.inr ⟨h1, by rw [h2]; exact hx⟩)
   have := z66 (z19 hu) h3
   rw [h2] at this
   exact this
theorem z5n {t : List Node} {p : Node → Bool} (hu : Uniq t) : Uniq (t.filter p) :=
 fun n hn m hm => hu n (List.mem_filter.1 hn).1 m (List.mem_filter.1 hm).1
theorem z1x {t : List Node} {i : Int} (hu : Uniq t) : getN (t.filter (fun n => n.ino ≠ i)) = del (getN t) i := by
 funext x
 unfold del
 split
 ·rename_i hx
  refine z1v fun n hn => ?_
  have := (List.mem_filter.1 hn).2
  rw [hx]
  simpa using this
 ·rename_i hx
  rcases jN t x with ⟨h1, h2⟩ | ⟨h1, h2⟩
  ·rw [h1]
   exact z1v fun n hn => h2 n (List.mem_filter.1 hn).1
  ·have h3 : getN t x ∈ t.filter (fun n => n.ino ≠ i) := List.mem_filter.2 ⟨h1, by rw [h2]; simpa using hx⟩
   have := z66 (z5n hu) h3
   rw [h2] at this
   exact this
theorem jG {t : List Node} {d : Int} (h : (getN t d).kind = 2) : (getN t d).ino = d := by
 rcases jN t d with ⟨h1, _⟩ | ⟨_, h2⟩
 ·rw [h1] at h; simp [zL] at h
 ·exact h2
theorem zc9 {t : List Node} {i x : Int} (h : Inv (getN t) i) (hx : (getN t x).kind ≠ 2) : (getN t (getN t x).ino).kind ≠ 2 := by
 rcases jN t x with ⟨h1, _⟩ | ⟨_, h2⟩
 ·rw [h1]
  intro hh
  have := h.pos _ hh
  simp [zL] at this
 ·rw [h2]; exact hx
structure TInv (t : List Node) (i : Int) : Prop where
 uniq : Uniq t
 inv : Inv (getN t) i
theorem vQ {l : List Ent} {s : List UInt8} (h : 0 ≤ qR l s) : ∃ e ∈ l, e.name = s ∧ e.ino = qR l s := by
 unfold qR at h ⊢
 cases hf : l.find? (fun e => decide (e.name = s)) with
 | none => rw [hf] at h; simp at h
 | some e =>
  refine ⟨e, List.mem_of_find?_eq_some hf, ?_, rfl⟩
  have := List.find?_some hf
  simpa using this
theorem z0o {l : List Ent} {s : List UInt8} (h2 : ∀ e ∈ l, 2 ≤ e.ino) (h : qR l s < 0) : ∀ e ∈ l, e.name ≠ s := by
 unfold qR at h
 cases hf : l.find? (fun e => decide (e.name = s)) with
 | none =>
  intro e he hs
  have := List.find?_eq_none.1 hf e he
  simp [hs] at this
 | some e =>
  rw [hf] at h
  have := h2 e (List.mem_of_find?_eq_some hf)
  simp only at h
  omega
theorem TInv.drop {t : List Node} {i d : Int} {s : List UInt8} (h : TInv t i) (hd : (getN t d).kind = 2) (hs : ∀ e ∈ (getN t d).names, e.name = s → (getN t e.ino).kind ≠ 2 ∨ e.ino = i) : TInv (zT t d s) i := by
 refine ⟨z19 h.uniq, ?_⟩
 unfold zT
 rw [jB h.uniq]
 refine h.inv.names hd (jG hd) hd rfl rfl ?_ ?_ ?_
 ·intro e he
  exact h.inv.ge2 d e (List.mem_filter.1 he).1
 ·intro e he e' he'
  exact h.inv.un d e (List.mem_filter.1 he).1 e' (List.mem_filter.1 he').1
 ·intro x hx n1 ni
  obtain ⟨h1, e, h2, h3⟩ := h.inv.told x hx n1 ni
  refine ⟨h1, e, ?_, h3⟩
  split
  ·rename_i hp
   rw [hp] at h2
   refine List.mem_filter.2 ⟨h2, ?_⟩
   rw [decide_eq_true_eq]
   intro hes
   rcases hs e h2 hes with h4 | h4
   ·rw [h3] at h4; exact h4 hx
   ·rw [h3] at h4; exact ni h4
  ·exact h2
theorem TInv.put {t : List Node} {i j d x : Int} {s : List UInt8} (h : TInv t i) (hd : (getN t d).kind = 2) (hs : ∀ e ∈ (getN t d).names, e.name ≠ s) (h2 : 2 ≤ x) (hj : i ≠ j → (x = i ∧ (getN t i).parent = d)) : TInv (putN t d s x) j := by
 refine ⟨z19 h.uniq, ?_⟩
 unfold putN
 rw [jB h.uniq]
 refine h.inv.names hd (jG hd) hd rfl rfl ?_ ?_ ?_
 ·intro e he
  rcases mem_putA.1 he with ⟨_, rfl⟩ | he
  ·exact h2
  ·exact h.inv.ge2 d e he
 ·intro e he e' he'
  rcases mem_putA.1 he with ⟨_, rfl⟩ | he <;> rcases mem_putA.1 he' with ⟨_, rfl⟩ | he'
  ·exact fun _ => rfl
  ·exact fun hh => absurd hh.symm (hs _ he')
  ·exact fun hh => absurd hh (hs _ he)
  ·exact h.inv.un d e he e' he'
 ·intro y hy n1 nj
  by_cases hyi : y = i
  ·have hij : i ≠ j := fun hh => nj (hyi.trans hh)
   obtain ⟨hx, hp⟩ := hj hij
   rw [hyi, hp, if_pos rfl]
   exact ⟨hd, ⟨s, x⟩, mem_putA.2 (.inl ⟨rfl, rfl⟩), hx⟩
  ·obtain ⟨h1, e, h3, h4⟩ := h.inv.told y hy n1 hyi
   refine ⟨h1, e, ?_, h4⟩
   split
   ·rename_i hp
    rw [hp] at h3
    exact mem_putA.2 (.inr h3)
   ·exact h3
theorem TInv.loses {t : List Node} {i x : Int} (h : TInv t i) (hx : (getN t x).kind ≠ 2) : TInv (jM t x) i := by
 unfold jM
 split
 ·refine ⟨z5n h.uniq, ?_⟩
  rw [z1x h.uniq]
  exact h.inv.delFile hx
 ·refine ⟨z19 h.uniq, ?_⟩
  rw [jB h.uniq]
  exact h.inv.file hx (zc9 h.inv hx) (h.inv.ge2 x) (h.inv.un x)
theorem TInv.with {t : List Node} {i : Int} {m : Node} (h : TInv t i) (hm : m.kind ≠ 2) (hg : (getN t m.ino).kind ≠ 2) (h2 : ∀ e ∈ m.names, 2 ≤ e.ino) (hu : ∀ e ∈ m.names, ∀ e' ∈ m.names, e.name = e'.name → e.ino = e'.ino) : TInv (qQ t m) i := by
 refine ⟨z19 h.uniq, ?_⟩
 rw [jB h.uniq]
 exact h.inv.file hm hg h2 hu
theorem kB {t : List Node} {s : List UInt8} (h : (zJ t s).2.2 = 0) : (getN t (zJ t s).1).kind = 2 := by
 unfold zJ at h ⊢
 by_cases h1 : (zN s).2 ≠ 0
 ·rw [if_pos h1] at h; exact absurd h h1
 ·rw [if_neg h1] at h ⊢
  by_cases h2 : (zN s).1.length = 0
  ·rw [if_pos h2] at h; simp at h
  ·rw [if_neg h2] at h ⊢
   split at h
   ·rename_i h3; exact absurd h h3
   ·split at h
    ·simp at h
    ·rename_i h3 h4
     rw [if_neg h3, if_neg h4]
     simpa using h4
theorem zqb {t : List Node} (h2 : ∀ x, ∀ e ∈ (getN t x).names, 2 ≤ e.ino) : ∀ {ps : List (List UInt8)} {d : Int}, (goN t ps d).2 = 0 → (goN t ps d).1 = d ∨ 2 ≤ (goN t ps d).1
 | [], d, _ => .inl rfl
 | p :: r, d, h => by
  unfold goN at h ⊢
  split at h
  ·simp at h
  ·split at h
   ·simp at h
   ·rename_i h3 h4
    rw [if_neg h3, if_neg h4]
    obtain ⟨e, h5, _, h6⟩ := vQ (l := (getN t d).names) (s := p) (by omega)
    have h7 := h2 d e h5
    rcases zqb h2 h with h8 | h8
    ·right; rw [h8]; omega
    ·exact .inr h8
theorem zgq {t : List Node} {s : List UInt8} (h2 : ∀ x, ∀ e ∈ (getN t x).names, 2 ≤ e.ino) (h : (zF t s).2 = 0) : (zF t s).1 = 1 ∨ 2 ≤ (zF t s).1 := by
 unfold zF at h ⊢
 split at h
 ·rename_i h1; exact absurd h h1
 ·rename_i h1
  rw [if_neg h1]
  exact zqb h2 h
theorem TInv.make {t : List Node} {o : Opn} (h : TInv t 1) : TInv (z12 t o).1 1 := by
 unfold z12
 split
 ·exact h
 ·rename_i h1
  split
  ·exact h
  ·rename_i h2
   have hd := kB (t := t) (s := o.a) (by simpa using h1)
   obtain ⟨hn1, hn2, _⟩ := z1q t
   have hz : getN t (qZ t) = zL := z1v hn1
   have hnd : (zJ t o.a).1 ≠ qZ t := fun hh => by rw [hh, hz] at hd; simp [zL] at hd
   have hkz : (getN t (qZ t)).kind ≠ 2 := by rw [hz]; simp [zL]
   have hfresh := z0o (h.inv.ge2 (zJ t o.a).1) (Int.not_le.1 h2)
   have hi : (zY t o).ino = qZ t := by unfold zY; split <;> rfl
   have hgd : getN (qQ t (zY t o)) (zJ t o.a).1 = getN t (zJ t o.a).1 := by
    rw [jB h.uniq]
    unfold upd
    rw [hi, if_neg hnd]
   by_cases ho : o.does = 2
   ·have hm : zY t o = ⟨qZ t, 2, 1, (zJ t o.a).1, 0, [], []⟩ := by unfold zY; rw [if_pos ho]
    have h3 : TInv (qQ t (zY t o)) (qZ t) := by
     refine ⟨z19 h.uniq, ?_⟩
     rw [jB h.uniq]
     have := h.inv.newDir (m := zY t o) (by rw [hi]; exact hkz) (by rw [hm]) (by rw [hm]) (by rw [hm]) (by rw [hm]; exact hd) (by rw [hi]; exact hn2)
     rw [hi] at this
     exact this
    have hgi : getN (qQ t (zY t o)) (qZ t) = zY t o := by
     rw [jB h.uniq]
     unfold upd
     rw [hi, if_pos rfl]
    exact h3.put (by rw [hgd]; exact hd) (by rw [hgd]; exact hfresh) hn2 (fun _ => ⟨rfl, by rw [hgi, hm]⟩)
   ·have hm : (zY t o).kind ≠ 2 := by unfold zY; rw [if_neg ho]; simp
    have hn : (zY t o).names = [] := by unfold zY; rw [if_neg ho]
    have h3 : TInv (qQ t (zY t o)) 1 := h.with hm (by rw [hi]; exact hkz) (by rw [hn]; simp) (by rw [hn]; simp)
    exact h3.put (by rw [hgd]; exact hd) (by rw [hgd]; exact hfresh) hn2 (fun hh => absurd rfl hh)
theorem TInv.link {t : List Node} {o : Opn} (h : TInv t 1) : TInv (z07 t o).1 1 := by
 unfold z07
 split
 ·exact h
 ·rename_i h1
  split
  ·exact h
  ·rename_i h2
   split
   ·exact h
   ·rename_i h3
    split
    ·exact h
    ·rename_i h4
     have hd := kB (t := t) (s := o.b) (by simpa using h3)
     have hge := zgq (t := t) (s := o.a) h.inv.ge2 (by simpa using h1)
     have hfresh := z0o (h.inv.ge2 (zJ t o.b).1) (Int.not_le.1 h4)
     have hfi := zc9 h.inv h2
     have h5 : TInv (qQ t (more (getN t (zF t o.a).1))) 1 := h.with h2 hfi (h.inv.ge2 _) (h.inv.un _)
     have hgd : getN (qQ t (more (getN t (zF t o.a).1))) (zJ t o.b).1 = getN t (zJ t o.b).1 := by
      rw [jB h.uniq]
      unfold upd
      rw [if_neg]
      intro hh
      have hh : (zJ t o.b).1 = (getN t (zF t o.a).1).ino := hh
      rw [hh] at hd
      exact hfi hd
     refine h5.put (by rw [hgd]; exact hd) (by rw [hgd]; exact hfresh) ?_ (fun hh => absurd rfl hh)
     rcases hge with hg | hg
     ·rw [hg] at h2; exact absurd h.inv.root h2
     ·exact hg
theorem TInv.bytes {t : List Node} {o : Opn} (h : TInv t 1) : TInv (kQ t o).1 1 := by
 unfold kQ
 split
 ·exact h
 ·unfold z1f
  split
  ·exact h
  ·rename_i hk
   have hfi := zc9 h.inv hk
   have hw : ∀ m : Node, m.ino = (getN t (zF t o.a).1).ino → m.kind = (getN t (zF t o.a).1).kind → m.names = (getN t (zF t o.a).1).names → TInv (qQ t m) 1 := fun m a b c =>
    h.with (by rw [b]; exact hk) (by rw [a]; exact hfi) (by rw [c]; exact h.inv.ge2 _) (by rw [c]; exact h.inv.un _)
   repeat' split
   all_goals first | exact h | exact hw _ rfl rfl rfl
theorem vU {t : List Node} {d y : Int} {s : List UInt8} (hu : Uniq t) (hd : (getN t d).kind = 2) : getN (zT t d s) y = if y = d then { getN t d with names := (getN t d).names.filter (fun e => decide (e.name ≠ s)) } else getN t y := by
 unfold zT
 rw [jB hu]
 unfold upd
 have : (getN t d).ino = d := jG hd
 simp only [this]
theorem qY {t : List Node} {d y : Int} {s : List UInt8} (hu : Uniq t) (hd : (getN t d).kind = 2) : (getN (zT t d s) y).kind = (getN t y).kind ∧ (getN (zT t d s) y).parent = (getN t y).parent ∧ (getN (zT t d s) y).links = (getN t y).links := by
 rw [vU hu hd]
 split
 ·rename_i h; rw [h]; exact ⟨rfl, rfl, rfl⟩
 ·exact ⟨rfl, rfl, rfl⟩
theorem z1t {t : List Node} {d y : Int} {s : List UInt8} (hu : Uniq t) (hd : (getN t d).kind = 2) : ∀ e ∈ (getN (zT t d s) y).names, e ∈ (getN t y).names ∧ (y = d → e.name ≠ s) := by
 rw [vU hu hd]
 split
 ·rename_i h
  rw [h]
  intro e he
  exact ⟨(List.mem_filter.1 he).1, fun _ => by have := (List.mem_filter.1 he).2; simpa using this⟩
 ·rename_i h
  exact fun e he => ⟨he, fun hh => absurd hh h⟩
theorem z0s {t : List Node} {x y : Int} (hu : Uniq t) (hy : y ≠ x) : getN (jM t x) y = getN t y := by
 unfold jM
 split
 ·rw [z1x hu]; simp [del, hy]
 ·rename_i hl
  rw [jB hu]
  unfold upd
  rw [if_neg]
  rcases jN t x with ⟨h1, _⟩ | ⟨_, h2⟩
  ·rw [h1] at hl; simp [zL] at hl
  ·intro hh
   have hh : y = (getN t x).ino := hh
   exact hy (hh.trans h2)
theorem TInv.remove {t : List Node} {o : Opn} (h : TInv t 1) (hdo : o.does = 4 ∨ o.does = 5) : TInv (wA t o).1 1 := by
 unfold wA
 split
 ·exact h
 ·rename_i h1
  split
  ·exact h
  ·rename_i h2
   have hd := kB (t := t) (s := o.a) (by simpa using h1)
   generalize zJ t o.a = w at *
   obtain ⟨e0, he0, hs0, hi0⟩ := vQ (l := (getN t w.1).names) (s := w.2.1) (by omega)
   have hge : 2 ≤ qR (getN t w.1).names w.2.1 := by rw [← hi0]; exact h.inv.ge2 _ e0 he0
   have hall : ∀ e ∈ (getN t w.1).names, e.name = w.2.1 → e.ino = qR (getN t w.1).names w.2.1 := fun e he hs => by
    rw [← hi0]; exact h.inv.un _ e he e0 he0 (hs.trans hs0.symm)
   generalize qR (getN t w.1).names w.2.1 = ino at *
   split
   ·exact h
   ·rename_i h3
    split
    ·exact h
    ·rename_i h4
     split
     ·exact h
     ·rename_i h5
      rcases hdo with d4 | d5
      ·have hk : (getN t ino).kind ≠ 2 := fun hh => h3 ⟨d4, hh⟩
       have hD := h.drop (d := w.1) (s := w.2.1) hd (fun e he hs => .inl (by rw [hall e he hs]; exact hk))
       exact hD.loses (by rw [(qY h.uniq hd).1]; exact hk)
      ·have hk : (getN t ino).kind = 2 := Decidable.byContradiction fun hh => h4 ⟨d5, hh⟩
       have hn : (getN t ino).names = [] := by
        have : ¬ 0 < (getN t ino).names.length := fun hh => h5 ⟨d5, hh⟩
        exact List.length_eq_zero_iff.1 (by omega)
       have hne : ino ≠ w.1 := fun hh => by rw [← hh, hn] at he0; simp at he0
       have hD : TInv (zT t w.1 w.2.1) ino := TInv.drop ⟨h.uniq, h.inv.any⟩ hd (fun e he hs => .inr (hall e he hs))
       have hg : getN (zT t w.1 w.2.1) ino = getN t ino := by rw [vU h.uniq hd, if_neg hne]
       unfold jM
       rw [if_pos (by rw [hg, h.inv.ln ino hk]; omega)]
       refine ⟨z5n hD.uniq, ?_⟩
       rw [z1x hD.uniq]
       exact hD.inv.delDir (by omega) (by rw [hg]; exact hn)
end Go.Proofs.Ytghllhghboaagaa
end
section
namespace Go.Proofs.Ytghllhghboaagaa
open Go.Vm
theorem zfs {t : List Node} {x : Int} (h : (getN t x).kind = 2) : hasN t x = true := by
 unfold hasN
 cases hf : t.find? (fun n => decide (n.ino = x)) with
 | none => unfold getN at h; rw [hf] at h; simp [zL] at h
 | some n => rfl
theorem znt {t : List Node} {x : Int} (h : hasN t x = true) : x ∈ t.map (·.ino) := by
 unfold hasN at h
 cases hf : t.find? (fun n => decide (n.ino = x)) with
 | none => rw [hf] at h; cases h
 | some n =>
  have h1 := List.mem_of_find?_eq_some hf
  have h2 := List.find?_some hf
  exact List.mem_map.2 ⟨n, h1, by simpa using h2⟩
theorem zhm {t : List Node} {x : Int} (hr : (getN t 1).kind = 2) (h : Up (getN t) 0 x) : ∃ c, z9v t (x :: c) ∧ ∀ y ∈ x :: c, (getN t y).kind = 2 := by
 induction h with
 | root _ => exact ⟨[], ⟨zfs hr, rfl⟩, fun y hy => by simp at hy; rw [hy]; exact hr⟩
 | @step x a b c _ ih =>
  obtain ⟨l, h1, h2⟩ := ih
  refine ⟨_ :: l, ⟨zfs b, c, rfl, h1⟩, fun y hy => ?_⟩
  rcases List.mem_cons.1 hy with rfl | hy
  ·exact b
  ·exact h2 y hy
theorem zb2 {t : List Node} : ∀ {c c' : List Int} {x : Int}, z9v t (x :: c) → z9v t (x :: c') → c = c'
 | [], [], x, _, _ => rfl
 | [], j :: r, x, h, h' => absurd h.2 h'.2.1
 | j :: r, [], x, h, h' => absurd h'.2 h.2.1
 | j :: r, j' :: r', x, h, h' => by
  have e : j = j' := h.2.2.1.symm.trans h'.2.2.1
  subst e
  rw [zb2 h.2.2.2 h'.2.2.2]
theorem z7y {t : List Node} : ∀ {c : List Int} {x y : Int}, z9v t (x :: c) → y ∈ c → ∃ c', z9v t (y :: c') ∧ c'.length < c.length
 | [], x, y, _, hy => by simp at hy
 | j :: r, x, y, h, hy => by
  rcases List.mem_cons.1 hy with rfl | hy
  ·exact ⟨r, h.2.2.2, by simp⟩
  ·obtain ⟨c', h1, h2⟩ := z7y h.2.2.2 hy
   exact ⟨c', h1, by simp; omega⟩
theorem z5h {t : List Node} : ∀ {c : List Int} {x : Int}, z9v t (x :: c) → (x :: c).Nodup
 | [], x, _ => by simp
 | j :: r, x, h => by
  refine List.nodup_cons.2 ⟨fun hx => ?_, z5h h.2.2.2⟩
  obtain ⟨c', h1, h2⟩ := z7y h hx
  rw [zb2 h1 h] at h2
  omega
theorem zd9 {t : List Node} : ∀ {c : List Int} {x : Int}, z9v t (x :: c) → ∀ y ∈ x :: c, hasN t y = true
 | [], x, h, y, hy => by simp at hy; rw [hy]; exact h.1
 | j :: r, x, h, y, hy => by
  rcases List.mem_cons.1 hy with rfl | hy
  ·exact h.1
  ·exact zd9 h.2.2.2 y hy
theorem zdv : ∀ {l m : List Int}, l.Nodup → (∀ x ∈ l, x ∈ m) → l.length ≤ m.length
 | [], m, _, _ => Nat.zero_le _
 | x :: r, m, hn, hs => by
  obtain ⟨h1, h2⟩ := List.nodup_cons.1 hn
  have hx := hs x (by simp)
  have := zdv (l := r) (m := m.erase x) h2 (fun y hy => (List.mem_erase_of_ne (fun h : y = x => h1 (by rw [← h]; exact hy))).2 (hs y (by simp [hy])))
  rw [List.length_erase_of_mem hx] at this
  have := List.length_pos_of_mem hx
  simp only [List.length_cons]
  omega
theorem zmk {t : List Node} {c : List Int} {x : Int} (h : z9v t (x :: c)) : (x :: c).length ≤ t.length := by
 have := zdv (m := t.map (·.ino)) (z5h h) (fun y hy => znt (zd9 h y hy))
 rwa [List.length_map] at this
theorem z9w {t : List Node} {i : Int} : ∀ {c : List Int} {x : Int} {k : Nat}, z9v t (x :: c) → i ∈ x :: c → (x :: c).length ≤ k → wL t i k x = true
 | _, x, 0, _, _, hk => by simp at hk
 | [], x, k + 1, _, hi, _ => by simp at hi; rw [hi]; simp [wL]
 | j :: r, x, k + 1, h, hi, hk => by
  unfold wL
  split
  ·rfl
  ·rename_i hx
   rw [h.2.2.1]
   refine z9w h.2.2.2 ?_ (by simpa using hk)
   rcases List.mem_cons.1 hi with rfl | hi
   ·exact absurd rfl hx
   ·exact hi
theorem zhh {t : List Node} {i : Int} : ∀ {c : List Int} {x : Int}, z9v t (x :: c) → (∀ y ∈ x :: c, (getN t y).kind = 2) → i ∉ x :: c → Up (getN t) i x
 | [], x, h, _, hi => by
  have hx : x = 1 := h.2
  rw [hx] at hi ⊢
  exact .root (fun hh => hi (by simp [hh]))
 | j :: r, x, h, hk, hi => by
  refine .step (fun hh => hi (by simp [hh])) (hk x (by simp)) h.2.1 ?_
  rw [h.2.2.1]
  exact zhh h.2.2.2 (fun y hy => hk y (by simp [hy])) (fun hh => hi (by simp [hh]))
theorem zmh {t : List Node} {i d : Int} (h : TInv t 1) (hd : (getN t d).kind = 2) (hb : wL t i (t.length + 1) d = false) : Up (getN t) i d := by
 obtain ⟨c, h1, h2⟩ := zhm h.inv.root (h.inv.way d hd)
 refine zhh h1 h2 fun hi => ?_
 rw [z9w h1 hi (by have := zmk h1; omega)] at hb
 cases hb
theorem z8f {t : List Node} {d y x : Int} {s : List UInt8} (hu : Uniq t) (hd : (getN t d).kind = 2) : (getN (putN t d s x) y).kind = (getN t y).kind ∧ (getN (putN t d s x) y).parent = (getN t y).parent ∧ (y = d → ∀ e, e ∈ (getN (putN t d s x) y).names ↔ (e = ⟨s, x⟩ ∨ e ∈ (getN t d).names)) := by
 unfold putN
 rw [jB hu]
 unfold upd
 have hi : (getN t d).ino = d := jG hd
 simp only [hi]
 split
 ·rename_i h
  rw [h]
  refine ⟨rfl, rfl, fun _ e => ?_⟩
  exact mem_putA.trans (by simp)
 ·rename_i h
  exact ⟨rfl, rfl, fun hh => absurd hh h⟩
theorem TInv.rename {t : List Node} {o : Opn} (h : TInv t 1) : TInv (kZ t o).1 1 := by
 unfold kZ
 split
 ·exact h
 ·rename_i h1
  split
  ·exact h
  ·rename_i h2
   split
   ·exact h
   ·rename_i h3
    have hf := kB (t := t) (s := o.a) (by simpa using h1)
    have hd := kB (t := t) (s := o.b) (by simpa using h3)
    generalize zJ t o.a = w at *
    generalize zJ t o.b = v at *
    obtain ⟨f, old, _⟩ := w
    obtain ⟨d, s, _⟩ := v
    simp only at *
    obtain ⟨e0, he0, hs0, hi0⟩ := vQ (l := (getN t f).names) (s := old) (by omega)
    have hge : 2 ≤ qR (getN t f).names old := by rw [← hi0]; exact h.inv.ge2 _ e0 he0
    have hall : ∀ e ∈ (getN t f).names, e.name = old → e.ino = qR (getN t f).names old := fun e he hs => by
     rw [← hi0]; exact h.inv.un _ e he e0 he0 (hs.trans hs0.symm)
    generalize qR (getN t f).names old = ino at *
    unfold z46
    split
    ·exact h
    ·rename_i h4
     split
     ·exact h
     ·rename_i h5
      split
      ·exact h
      ·rename_i h6
       split
       ·exact h
       ·rename_i h7
        unfold renamed
        by_cases hk : (getN t ino).kind = 2
        ·
         have hw : ¬ 0 ≤ qR (getN t d).names s := fun hh => h6 ⟨hh, hk⟩
         have hbl : wL t ino (t.length + 1) d = false := by
          cases hb : wL t ino (t.length + 1) d with
          | false => rfl
          | true => exact absurd ⟨hk, hb⟩ h5
         have hid : d ≠ ino := fun hh => by rw [hh] at hbl; simp [wL] at hbl
         have hup := zmh h hd hbl
         have hfresh := z0o (h.inv.ge2 d) (Int.not_le.1 hw)
         simp only [if_neg hw, if_pos hk]
         have hD : TInv (zT t f old) ino := TInv.drop ⟨h.uniq, h.inv.any⟩ hf (fun e he hs => .inr (hall e he hs))
         have hkd : (getN (zT t f old) d).kind = 2 := by rw [(qY h.uniq hf).1]; exact hd
         have hP : TInv (putN (zT t f old) d s ino) ino := hD.put hkd (fun e he => hfresh e ((z1t h.uniq hf) e he).1) hge (fun hh => absurd rfl hh)
         have hk2 : ∀ y, (getN (putN (zT t f old) d s ino) y).kind = (getN t y).kind := fun y => by
          rw [(z8f hD.uniq hkd).1, (qY h.uniq hf).1]
         have hp2 : ∀ y, (getN (putN (zT t f old) d s ino) y).parent = (getN t y).parent := fun y => by
          rw [(z8f hD.uniq hkd).2.1, (qY h.uniq hf).2.1]
         refine ⟨z19 hP.uniq, ?_⟩
         rw [jB hP.uniq]
         have hki : (getN (putN (zT t f old) d s ino) ino).kind = 2 := by rw [hk2]; exact hk
         exact hP.inv.move (i := ino) (d := d) (jG hki) hki hki (by omega) rfl rfl rfl (by rw [hk2]; exact hd) hid
          ⟨⟨s, ino⟩, ((z8f hD.uniq hkd).2.2 rfl _).2 (.inl rfl), rfl⟩ (hup.mono fun y hy _ => ⟨by rw [hk2]; exact hy, hp2 y⟩)
        ·
         simp only [if_neg hk]
         have main : ∀ u : List Node, TInv u 1 → (getN u f).kind = 2 → (getN u d).kind = 2 → (∀ e ∈ (getN u f).names, e ∈ (getN t f).names) → (∀ e ∈ (getN u d).names, e.name ≠ s) → (getN u ino).kind ≠ 2 → TInv (putN (zT u f old) d s ino) 1 := fun u hu kf kd nf nd ki => by
          have hD : TInv (zT u f old) 1 := hu.drop kf (fun e he hs => .inl (by rw [hall e (nf e he) hs]; exact ki))
          exact hD.put (by rw [(qY hu.uniq kf).1]; exact kd) (fun e he => nd e ((z1t hu.uniq kf) e he).1) hge (fun hh => absurd rfl hh)
         split
         ·rename_i hw
          have hkw : (getN t (qR (getN t d).names s)).kind ≠ 2 := fun hh => h7 ⟨hw, hh⟩
          obtain ⟨e1, he1, hs1, hi1⟩ := vQ hw
          have hall1 : ∀ e ∈ (getN t d).names, e.name = s → e.ino = qR (getN t d).names s := fun e he hs => by
           rw [← hi1]; exact h.inv.un _ e he e1 he1 (hs.trans hs1.symm)
          generalize qR (getN t d).names s = was at *
          have hD : TInv (zT t d s) 1 := h.drop hd (fun e he hs => .inl (by rw [hall1 e he hs]; exact hkw))
          have hL : TInv (jM (zT t d s) was) 1 := hD.loses (by rw [(qY h.uniq hd).1]; exact hkw)
          have hnf : f ≠ was := fun hh => by rw [hh] at hf; exact hkw hf
          have hnd : d ≠ was := fun hh => by rw [hh] at hd; exact hkw hd
          refine main _ hL ?_ ?_ ?_ ?_ ?_
          ·rw [z0s hD.uniq hnf, (qY h.uniq hd).1]; exact hf
          ·rw [z0s hD.uniq hnd, (qY h.uniq hd).1]; exact hd
          ·rw [z0s hD.uniq hnf]; exact fun e he => ((z1t h.uniq hd) e he).1
          ·rw [z0s hD.uniq hnd]; exact fun e he => ((z1t h.uniq hd) e he).2 rfl
          ·rw [z0s hD.uniq (fun hh => h4 hh.symm), (qY h.uniq hd).1]; exact hk
         ·rename_i hw
          exact main t h hf hd (fun e he => he) (z0o (h.inv.ge2 d) (Int.not_le.1 hw)) hk
theorem TInv.step {t : List Node} {o : Opn} (h : TInv t 1) : TInv (qN t o).1 1 := by
 unfold qN
 split
 ·exact h
 ·rename_i hm
  repeat' split
  ·exact h.make
  ·exact h.link
  ·exact h.remove (by omega)
  ·exact h.rename
  ·exact h.bytes
  ·exact h
  ·exact h
theorem z5y (x : Int) : getN newN x = if x = 1 then ⟨1, 2, 1, 1, 0, [], []⟩ else zL := by
 unfold getN newN
 by_cases hx : x = 1
 ·subst hx; rfl
 ·have : ¬ (1 : Int) = x := fun hh => hx hh.symm
  simp [hx, this]
theorem TInv.new : TInv newN 1 := by
 have hn : ∀ x, (getN newN x).names = [] := fun x => by rw [z5y]; split <;> rfl
 have hk : ∀ x, (getN newN x).kind = 2 → x = 1 := fun x hx => by
  rw [z5y] at hx
  split at hx
  ·assumption
  ·simp [zL] at hx
 refine ⟨fun n hn m hm _ => ?_, ⟨rfl, fun x e he => by rw [hn] at he; simp at he, fun x e he => by rw [hn] at he; simp at he, fun x hx => by rw [hk x hx]; rfl, fun x hx n1 _ => absurd (hk x hx) n1, fun x hx => by rw [hk x hx]; exact .root (by omega), fun x hx => by rw [hk x hx]; omega⟩⟩
 simp only [newN, List.mem_singleton] at hn hm
 rw [hn, hm]
theorem TInv.play (l : List Opn) : TInv (zil l) 1 := by
 have : ∀ (l : List Opn) (t : List Node), TInv t 1 → TInv (l.foldl (fun t o => (qN t o).1) t) 1 := fun l => by
  induction l with
  | nil => exact fun t h => h
  | cons o r ih => exact fun t h => ih _ h.step
 exact this l newN TInv.new
end Go.Proofs.Ytghllhghboaagaa
end
section
namespace Go.Proofs.Ytghllhghboaagaa
theorem zhk : ∀ {a : List UInt8}, kV a a = false
 | [] => rfl
 | x :: a => by simp [kV, zhk (a := a)]
theorem z77 : ∀ {a b c : List UInt8}, kV a b = true → kV b c = true → kV a c = true
 | [], [], _, h, _ => by cases h
 | [], _ :: _, [], _, h => by simp [kV] at h
 | [], _ :: _, _ :: _, _, _ => rfl
 | _ :: _, [], _, h, _ => by simp [kV] at h
 | _ :: _, _ :: _, [], _, h => by simp [kV] at h
 | x :: a, y :: b, z :: c, h1, h2 => by
  simp only [kV] at h1 h2 ⊢
  by_cases hxy : x = y
  ·subst hxy
   by_cases hxz : x = z
   ·subst hxz
    simp only [ne_eq, not_true_eq_false, if_false] at h1 h2 ⊢
    exact z77 h1 h2
   ·rw [if_pos hxz] at h2 ⊢
    exact h2
  ·rw [if_pos hxy, decide_eq_true_eq] at h1
   by_cases hyz : y = z
   ·subst hyz
    rw [if_pos hxy, decide_eq_true_eq]
    exact h1
   ·rw [if_pos hyz, decide_eq_true_eq] at h2
    have h3 : x < z := by rw [UInt8.lt_iff_toNat_lt] at *; omega
    have hne : x ≠ z := fun hh => by subst hh; rw [UInt8.lt_iff_toNat_lt] at h3; omega
    rw [if_pos hne, decide_eq_true_eq]
    exact h3
theorem zci : ∀ {a b : List UInt8}, kV b a = !(kV a b || a == b)
 | [], [] => rfl
 | [], _ :: _ => rfl
 | _ :: _, [] => rfl
 | x :: a, y :: b => by
  by_cases hxy : x = y
  ·subst hxy
   have := zci (a := a) (b := b)
   simp [kV, this]
  ·have hyx : y ≠ x := fun hh => hxy hh.symm
   have h1 : decide (y < x) = !(decide (x < y)) := by
    by_cases h : x < y
    ·have : ¬ y < x := by rw [UInt8.lt_iff_toNat_lt] at *; omega
     simp [h, this]
    ·have hn : x.toNat ≠ y.toNat := fun hh => hxy (UInt8.toNat_inj.1 hh)
     have : y < x := by rw [UInt8.lt_iff_toNat_lt] at *; omega
     simp [h, this]
   simp [kV, hxy, hyx, h1]
theorem zbj : ∀ {a b : List UInt8}, Op.bytesLess a b = kV a b
 | [], [] => rfl
 | [], _ :: _ => rfl
 | _ :: _, [] => rfl
 | x :: a, y :: b => by
  by_cases hxy : x = y
  ·subst hxy
   have h : ¬ x < x := by rw [UInt8.lt_iff_toNat_lt]; omega
   simp [kV, Op.bytesLess, zbj, h]
  ·simp [kV, Op.bytesLess, hxy]
def Ord (l : List Ent) : Prop := (l.map (·.name)).Pairwise fun a b => kV a b = true
theorem Ord.cons {e : Ent} {l : List Ent} : Ord (e :: l) ↔ (∀ x ∈ l, kV e.name x.name = true) ∧ Ord l := by
 unfold Ord
 rw [List.map_cons, List.pairwise_cons]
 simp
theorem Ord.nodup {l : List Ent} (h : Ord l) : (l.map (·.name)).Nodup := List.Pairwise.imp (fun {a b} h => fun hh => by rw [hh, zhk] at h; cases h) h
theorem Ord.filter {l : List Ent} {p : Ent → Bool} (h : Ord l) : Ord (l.filter p) := by
 unfold Ord at *
 exact h.sublist (List.filter_sublist.map _)
theorem z8y {s : List UInt8} {i : Int} : ∀ {l : List Ent}, putA s i true l = l
 | [] => rfl
 | e :: r => by simp [putA, z8y (l := r)]
theorem Ord.put {s : List UInt8} {i : Int} : ∀ {l : List Ent}, Ord l → (∀ e ∈ l, e.name ≠ s) → Ord (putA s i false l)
 | [], _, _ => by simp [putA, Ord]
 | e :: r, h, hs => by
  obtain ⟨h1, h2⟩ := Ord.cons.1 h
  cases hl : kV s e.name with
  | true =>
   have e1 : putA s i false (e :: r) = ⟨s, i⟩ :: e :: r := by simp [putA, hl, z8y]
   rw [e1]
   refine Ord.cons.2 ⟨fun x hx => ?_, h⟩
   rcases List.mem_cons.1 hx with rfl | hx
   ·exact hl
   ·exact z77 hl (h1 x hx)
  | false =>
   have e1 : putA s i false (e :: r) = e :: putA s i false r := by simp [putA, hl]
   have hes : kV e.name s = true := by
    rw [zci (a := s) (b := e.name), hl]
    have : ¬ s = e.name := fun hh => hs e (by simp) hh.symm
    simp [this]
   rw [e1]
   refine Ord.cons.2 ⟨fun x hx => ?_, Ord.put h2 (fun x hx => hs x (List.mem_cons_of_mem _ hx))⟩
   rcases mem_putA.1 hx with ⟨_, rfl⟩ | hx
   ·exact hes
   ·exact h1 x hx
theorem zpt {s : List UInt8} {i : Int} : ∀ {l : List Ent} {k : Nat}, k ≤ l.length → (∀ j (h : j < l.length), j < k → kV s l[j].name = false) → (∀ h : k < l.length, kV s l[k].name = true) → putA s i false l = l.take k ++ ⟨s, i⟩ :: l.drop k
 | [], k, hk, _, _ => by
  have : k = 0 := by simpa using hk
  subst this
  rfl
 | e :: r, 0, hk, _, h2 => by
  have := h2 (by simp)
  simp only [List.getElem_cons_zero] at this
  simp [putA, this, z8y]
 | e :: r, k + 1, hk, h1, h2 => by
  have h0 := h1 0 (by simp) (by omega)
  simp only [List.getElem_cons_zero] at h0
  have ih := zpt (s := s) (i := i) (l := r) (k := k) (by simpa using hk) (fun j h hj => by have := h1 (j + 1) (by simpa using h) (by omega); simpa using this) (fun h => by have := h2 (by simpa using h); simpa using this)
  simp [putA, h0, ih]
theorem zqf {l : List Ent} {k : Nat} (h : (l.map (·.name)).Nodup) (hk : k < l.length) : l.filter (fun e => decide (e.name ≠ l[k].name)) = l.take k ++ l.drop (k + 1) := by
 have hs : l = l.take k ++ l[k] :: l.drop (k + 1) := by rw [← List.drop_eq_getElem_cons hk, List.take_append_drop]
 generalize l[k] = e at *
 generalize l.take k = a at *
 generalize l.drop (k + 1) = b at *
 subst hs
 rw [List.map_append, List.map_cons, List.nodup_append] at h
 obtain ⟨_, h2, h3⟩ := h
 rw [List.nodup_cons] at h2
 rw [List.filter_append, List.filter_cons_of_neg (by simp), List.filter_eq_self.2, List.filter_eq_self.2]
 ·intro x hx
  rw [decide_eq_true_eq]
  exact fun hh => h2.1 (List.mem_map.2 ⟨x, hx, hh⟩)
 ·intro x hx
  rw [decide_eq_true_eq]
  exact fun hh => h3 _ (List.mem_map.2 ⟨x, hx, rfl⟩) _ (by simp) hh
end Go.Proofs.Ytghllhghboaagaa
end
section
namespace Go.Proofs.Ytghllhghboaagaa
def cp (l : List Ent) (x : Int) : Nat := l.countP fun e => decide (e.ino = x)
def cnt (t : List Node) (x : Int) : Nat := (t.map fun n => cp n.names x).sum
theorem zrr (x : Int) : cnt [] x = 0 := rfl
theorem z24 (n : Node) (r : List Node) (x : Int) : cnt (n :: r) x = cp n.names x + cnt r x := by simp [cnt]
theorem zq4 (x : Int) : cp [] x = 0 := rfl
theorem z9f (e : Ent) (l : List Ent) (x : Int) : cp (e :: l) x = cp l x + if e.ino = x then 1 else 0 := by simp [cp, List.countP_cons]
theorem zpd {l : List Ent} {e : Ent} (h : e ∈ l) : cp l e.ino ≠ 0 := by
 have : 0 < cp l e.ino := List.countP_pos_iff.2 ⟨e, h, by simp⟩
 omega
theorem zkw {t : List Node} {n : Node} (h : n ∈ t) (x : Int) : cp n.names x ≤ cnt t x := by
 induction t with
 | nil => cases h
 | cons m r ih =>
  rw [z24]
  rcases List.mem_cons.1 h with rfl | h
  ·omega
  ·have := ih h; omega
def Srt (t : List Node) : Prop := (t.map (·.ino)).Pairwise (· < ·)
theorem Srt.cons {n : Node} {r : List Node} : Srt (n :: r) ↔ (∀ m ∈ r, n.ino < m.ino) ∧ Srt r := by
 unfold Srt
 rw [List.map_cons, List.pairwise_cons]
 simp
theorem Srt.nodup {t : List Node} (h : Srt t) : (t.map (·.ino)).Nodup := List.Pairwise.imp (fun h => Int.ne_of_lt h) h
theorem Srt.uniq {t : List Node} (h : Srt t) : Uniq t := by
 induction t with
 | nil => intro n hn; cases hn
 | cons x r ih =>
  obtain ⟨h1, h2⟩ := Srt.cons.1 h
  intro n hn m hm he
  rcases List.mem_cons.1 hn with e | hn <;> rcases List.mem_cons.1 hm with e' | hm
  ·rw [e, e']
  ·have := h1 m hm; rw [e] at he; omega
  ·have := h1 n hn; rw [e'] at he; omega
  ·exact ih h2 n hn m hm he
theorem Srt.filter {t : List Node} {p : Node → Bool} (h : Srt t) : Srt (t.filter p) := by
 unfold Srt at *
 exact h.sublist (List.filter_sublist.map _)
theorem z34 {n : Node} : ∀ {l : List Node}, wG n true l = l.filter (fun m => m.ino ≠ n.ino)
 | [] => rfl
 | x :: r => by
  have ih := z34 (n := n) (l := r)
  by_cases h : x.ino = n.ino <;> simp [wG, h, ih]
theorem zdw {n : Node} : ∀ {l : List Node}, Srt l → Srt (wG n false l)
 | [], _ => by simp [wG, Srt]
 | x :: r, h => by
  obtain ⟨h1, h2⟩ := Srt.cons.1 h
  by_cases hx : n.ino ≤ x.ino
  ·have e : wG n false (x :: r) = n :: (x :: r).filter (fun m => m.ino ≠ n.ino) := by
    rw [← z34]
    simp [wG, hx]
   rw [e]
   refine Srt.cons.2 ⟨fun m hm => ?_, h.filter⟩
   obtain ⟨hm1, hm2⟩ := List.mem_filter.1 hm
   have hm2 : m.ino ≠ n.ino := by simpa using hm2
   rcases List.mem_cons.1 hm1 with rfl | hm1
   ·omega
   ·have := h1 m hm1; omega
  ·have e : wG n false (x :: r) = x :: wG n false r := by
    have : x.ino ≠ n.ino := by omega
    simp [wG, hx, this]
   rw [e]
   refine Srt.cons.2 ⟨fun m hm => ?_, zdw h2⟩
   rcases z8o.1 hm with ⟨_, rfl⟩ | ⟨hm1, _⟩
   ·omega
   ·exact h1 m hm1
theorem Srt.with {t : List Node} {n : Node} (h : Srt t) : Srt (qQ t n) := zdw h
theorem zdc {n : Node} {x : Int} : ∀ {l : List Node}, cnt (wG n false l) x = cp n.names x + cnt (l.filter (fun m => m.ino ≠ n.ino)) x
 | [] => by simp [wG, z24, zrr]
 | y :: r => by
  by_cases hy : n.ino ≤ y.ino
  ·have e : wG n false (y :: r) = n :: (y :: r).filter (fun m => m.ino ≠ n.ino) := by
    rw [← z34]
    simp [wG, hy]
   rw [e, z24]
  ·have e : wG n false (y :: r) = y :: wG n false r := by
    have : y.ino ≠ n.ino := by omega
    simp [wG, hy, this]
   have hne : y.ino ≠ n.ino := by omega
   rw [e, z24, zdc, List.filter_cons_of_pos (by simpa using hne), z24]
   omega
theorem zl1 (n : Node) (r : List Node) (i : Int) : getN (n :: r) i = if n.ino = i then n else getN r i := by
 unfold getN
 by_cases h : n.ino = i
 ·rw [if_pos h, List.find?_cons_of_pos (by simpa using h)]; rfl
 ·rw [if_neg h, List.find?_cons_of_neg (by simpa using h)]
theorem z7b {i x : Int} : ∀ {t : List Node}, Srt t → cnt (t.filter (fun m => m.ino ≠ i)) x + cp (getN t i).names x = cnt t x
 | [], _ => rfl
 | n :: r, h => by
  obtain ⟨h1, h2⟩ := Srt.cons.1 h
  have ih := z7b (i := i) (x := x) h2
  rw [zl1]
  by_cases hn : n.ino = i
  ·rw [if_pos hn, List.filter_cons_of_neg (by simpa using hn), z24]
   have : r.filter (fun m => m.ino ≠ i) = r := List.filter_eq_self.2 fun m hm => by have := h1 m hm; simp; omega
   rw [this]; omega
  ·rw [if_neg hn, List.filter_cons_of_pos (by simpa using hn), z24, z24]
   omega
theorem zhj {t : List Node} {n : Node} {x : Int} (h : Srt t) : cnt (qQ t n) x + cp (getN t n.ino).names x = cnt t x + cp n.names x := by
 have := z7b (i := n.ino) (x := x) h
 unfold qQ
 rw [zdc]
 omega
theorem zmw {s : List UInt8} {i x : Int} : ∀ {l : List Ent} {b : Bool}, cp (putA s i b l) x = cp l x + if b = false ∧ i = x then 1 else 0
 | [], b => by cases b <;> simp [putA, z9f, zq4]
 | e :: r, b => by
  have ih := zmw (s := s) (i := i) (x := x) (l := r) (b := b || kV s e.name)
  cases b <;> cases hl : kV s e.name <;> simp only [hl, Bool.or_true, Bool.or_false, Bool.true_or, Bool.false_or] at ih <;> simp [putA, z9f, hl, ih] <;> split <;> omega
theorem zfa {s : List UInt8} {i x : Int} : ∀ {l : List Ent}, (l.map (·.name)).Nodup → (∃ e ∈ l, e.name = s ∧ e.ino = i) → cp (l.filter (fun e => decide (e.name ≠ s))) x + (if i = x then 1 else 0) = cp l x
 | [], _, h => by obtain ⟨e, he, _⟩ := h; cases he
 | e :: r, hn, h => by
  rw [List.map_cons, List.nodup_cons] at hn
  obtain ⟨h1, h2⟩ := hn
  by_cases hs : e.name = s
  ·have hi : e.ino = i := by
    obtain ⟨e', he', hs', hi'⟩ := h
    rcases List.mem_cons.1 he' with rfl | he'
    ·exact hi'
    ·exact absurd (List.mem_map.2 ⟨e', he', hs'.trans hs.symm⟩) h1
   rw [List.filter_cons_of_neg (by simpa using hs), z9f, hi]
   have : r.filter (fun e => decide (e.name ≠ s)) = r := List.filter_eq_self.2 fun m hm => by
    simp only [decide_eq_true_eq]
    exact fun hh => h1 (List.mem_map.2 ⟨m, hm, hh.trans hs.symm⟩)
   rw [this]
  ·have ih := zfa (x := x) h2 (by
    obtain ⟨e', he', hs', hi'⟩ := h
    rcases List.mem_cons.1 he' with rfl | he'
    ·exact absurd hs' hs
    ·exact ⟨e', he', hs', hi'⟩)
   rw [List.filter_cons_of_pos (by simpa using hs), z9f, z9f]
   omega
end Go.Proofs.Ytghllhghboaagaa
end
section
namespace Go.Proofs.Ytghllhghboaagaa
structure LJ (t : List Node) (d : Int → Int) : Prop where
 srt : Srt t
 knd : ∀ n ∈ t, n.kind ≠ 0
 lnk : ∀ x, (getN t x).kind ≠ 0 → x ≠ 1 → (getN t x).links = cnt t x + d x
 has : ∀ x, cnt t x ≠ 0 → (getN t x).kind ≠ 0
 fil : ∀ x, (getN t x).kind ≠ 2 → (getN t x).names = []
 nod : ∀ x, Ord (getN t x).names
theorem z0g {t : List Node} {x : Int} (h : (getN t x).kind ≠ 0) : (getN t x).ino = x := by
 rcases jN t x with ⟨h1, _⟩ | ⟨_, h2⟩
 ·rw [h1] at h; exact absurd rfl h
 ·exact h2
theorem zof {t : List Node} {x : Int} (h : (getN t x).kind ≠ 0) : hasN t x = true := by
 unfold hasN
 cases hf : t.find? (fun n => decide (n.ino = x)) with
 | none => unfold getN at h; rw [hf] at h; exact absurd rfl h
 | some n => rfl
theorem LJ.hasK {t : List Node} {d : Int → Int} (h : LJ t d) {x : Int} (hx : hasN t x = true) : (getN t x).kind ≠ 0 := by
 unfold hasN at hx
 unfold getN
 cases hf : t.find? (fun n => decide (n.ino = x)) with
 | none => rw [hf] at hx; cases hx
 | some n => exact h.knd n (List.mem_of_find?_eq_some hf)
theorem LJ.congr {t : List Node} {d d' : Int → Int} (h : LJ t d) (e : ∀ x, d x = d' x) : LJ t d' := (funext e : d = d') ▸ h
theorem LJ.told {t : List Node} {d : Int → Int} (h : LJ t d) {x : Int} {e : Ent} (he : e ∈ (getN t x).names) : (getN t e.ino).kind ≠ 0 := by
 refine h.has _ ?_
 rcases jN t x with ⟨h1, _⟩ | ⟨h1, _⟩
 ·rw [h1] at he; cases he
 ·have := zkw h1 e.ino
  have := zpd he
  omega
theorem LJ.toTold {t : List Node} {d : Int → Int} (h : LJ t d) (hT : TInv t 1) : Told t :=
 ⟨zfs hT.inv.root, fun x e he => zof (h.told he), hT.inv.ge2⟩
theorem LJ.with {t : List Node} {d d' : Int → Int} {m : Node} (h : LJ t d) (hk : m.kind ≠ 0) (hn : m.names = (getN t m.ino).names) (hf : m.kind ≠ 2 → m.names = []) (hd : ∀ x, x ≠ m.ino → d' x = d x) (hl : m.ino ≠ 1 → m.links = cnt t m.ino + d' m.ino) : LJ (qQ t m) d' := by
 have hc : ∀ x, cnt (qQ t m) x = cnt t x := fun x => by have := zhj (n := m) (x := x) h.srt; rw [hn] at this; omega
 have hg := jB (m := m) h.srt.uniq
 refine ⟨h.srt.with, ?_, ?_, ?_, ?_, ?_⟩
 ·intro n hn'
  rcases wY.1 hn' with rfl | ⟨h1, _⟩
  ·exact hk
  ·exact h.knd n h1
 ·intro x hx n1
  rw [hg] at hx ⊢
  rw [hc]
  unfold upd at hx ⊢
  split
  ·rename_i e; subst e; exact hl n1
  ·rename_i e
   rw [if_neg e] at hx
   rw [hd x e]; exact h.lnk x hx n1
 ·intro x hx
  rw [hc] at hx
  rw [hg]
  unfold upd
  split
  ·exact hk
  ·exact h.has x hx
 ·intro x
  rw [hg]
  unfold upd
  split
  ·exact hf
  ·exact h.fil x
 ·intro x
  rw [hg]
  unfold upd
  split
  ·rw [hn]; exact h.nod _
  ·exact h.nod x
theorem LJ.names {t : List Node} {d d' : Int → Int} {d0 : Int} {l : List Ent} (h : LJ t d) (hd : (getN t d0).kind = 2) (hl : Ord l) (hc : ∀ x, (cp l x : Int) + d' x = cp (getN t d0).names x + d x) (hh : ∀ x, cp (getN t d0).names x < cp l x → (getN t x).kind ≠ 0) : LJ (qQ t { getN t d0 with names := l }) d' := by
 have hi : (getN t d0).ino = d0 := jG hd
 have hct : ∀ x, cnt (qQ t { getN t d0 with names := l }) x + cp (getN t d0).names x = cnt t x + cp l x := fun x => by
  have := zhj (n := { getN t d0 with names := l }) (x := x) h.srt
  rw [show ({ getN t d0 with names := l } : Node).ino = d0 from hi] at this
  exact this
 have hg : ∀ x, getN (qQ t { getN t d0 with names := l }) x = if x = d0 then { getN t d0 with names := l } else getN t x := fun x => by
  rw [jB h.srt.uniq]
  unfold upd
  simp only [hi]
 have hkd : ∀ x, (getN (qQ t { getN t d0 with names := l }) x).kind = (getN t x).kind ∧ (getN (qQ t { getN t d0 with names := l }) x).links = (getN t x).links := fun x => by
  rw [hg]
  split
  ·rename_i e; subst e; exact ⟨rfl, rfl⟩
  ·exact ⟨rfl, rfl⟩
 refine ⟨h.srt.with, ?_, ?_, ?_, ?_, ?_⟩
 ·intro n hn'
  rcases wY.1 hn' with rfl | ⟨h1, _⟩
  ·show (getN t d0).kind ≠ 0
   rw [hd]; decide
  ·exact h.knd n h1
 ·intro x hx n1
  rw [(hkd x).1] at hx
  rw [(hkd x).2, h.lnk x hx n1]
  have := hct x
  have := hc x
  omega
 ·intro x hx
  rw [(hkd x).1]
  by_cases hlt : cp (getN t d0).names x < cp l x
  ·exact hh x hlt
  ·refine h.has x ?_
   have := hct x
   have : cp (getN t d0).names x ≤ cnt t x := by
    rcases jN t d0 with ⟨h1, _⟩ | ⟨h1, _⟩
    ·rw [h1]; exact Nat.zero_le _
    ·exact zkw h1 x
   omega
 ·intro x hx
  rw [(hkd x).1] at hx
  rw [hg]
  split
  ·rename_i e; subst e; exact absurd hd hx
  ·exact h.fil x hx
 ·intro x
  rw [hg]
  split
  ·exact hl
  ·exact h.nod x
theorem LJ.drop {t : List Node} {d : Int → Int} {d0 i : Int} {s : List UInt8} (h : LJ t d) (hd : (getN t d0).kind = 2) (he : ∃ e ∈ (getN t d0).names, e.name = s ∧ e.ino = i) : LJ (zT t d0 s) (fun x => d x + if i = x then 1 else 0) := by
 unfold zT
 refine h.names hd ?_ ?_ ?_
 ·exact (h.nod d0).filter
 ·intro x
  have := zfa (x := x) (h.nod d0).nodup he
  split <;> rename_i e <;> simp only [e, if_true, if_false] at this <;> omega
 ·intro x hx
  have := zfa (x := x) (h.nod d0).nodup he
  omega
theorem LJ.put {t : List Node} {d : Int → Int} {d0 i : Int} {s : List UInt8} (h : LJ t d) (hd : (getN t d0).kind = 2) (hs : ∀ e ∈ (getN t d0).names, e.name ≠ s) (hi : (getN t i).kind ≠ 0) : LJ (putN t d0 s i) (fun x => d x - if i = x then 1 else 0) := by
 unfold putN
 refine h.names hd ((h.nod d0).put hs) ?_ ?_
 ·intro x
  rw [zmw]
  by_cases e : i = x <;> simp [e]
  omega
 ·intro x hx
  rw [zmw] at hx
  by_cases e : i = x
  ·rw [← e]; exact hi
  ·simp [e] at hx
theorem LJ.loses {t : List Node} {d : Int → Int} {i : Int} (h : LJ t d) (hk : (getN t i).kind ≠ 0) (hn : (getN t i).names = []) (h1 : i ≠ 1) (hd : d i = 1) : LJ (jM t i) (fun x => if x = i then 0 else d x) := by
 have hi := z0g hk
 have hl := h.lnk i hk h1
 unfold jM
 split
 ·rename_i hlt
  have hc : ∀ x, cnt (t.filter (fun n => n.ino ≠ i)) x = cnt t x := fun x => by have := z7b (i := i) (x := x) h.srt; rw [hn, zq4] at this; exact this
  have hg := z1x (i := i) h.srt.uniq
  refine ⟨h.srt.filter, fun n hn => h.knd n (List.mem_filter.1 hn).1, ?_, ?_, ?_, ?_⟩
  ·intro x hx n1
   rw [hg] at hx ⊢
   unfold del at hx ⊢
   split
   ·rename_i e; rw [if_pos e] at hx; exact absurd rfl hx
   ·rename_i e
    rw [if_neg e] at hx
    rw [hc]
    exact h.lnk x hx n1
  ·intro x hx
   rw [hc] at hx
   rw [hg]
   unfold del
   split
   ·rename_i e; subst e; omega
   ·exact h.has x hx
  ·intro x
   rw [hg]
   unfold del
   split
   ·exact fun _ => rfl
   ·exact h.fil x
  ·intro x
   rw [hg]
   unfold del
   split
   ·simp [zL, Ord]
   ·exact h.nod x
 ·refine h.with hk ?_ (fun _ => hn) ?_ ?_
  ·show (getN t i).names = (getN t (getN t i).ino).names
   rw [hi]
  ·intro x hx
   have hx : x ≠ (getN t i).ino := hx
   rw [hi] at hx
   exact if_neg hx
  ·intro _
   show (getN t i).links - 1 = _
   have e : (({ getN t i with links := (getN t i).links - 1 } : Node).ino) = i := hi
   rw [e, if_pos rfl]
   omega
theorem LJ.new : LJ newN (fun _ => 0) := by
 have hc : ∀ x, cnt newN x = 0 := fun x => rfl
 refine ⟨by simp [Srt, newN], ?_, ?_, ?_, ?_, ?_⟩
 ·intro n hn
  simp only [newN, List.mem_singleton] at hn
  subst hn
  decide
 ·intro x hx n1
  rw [z5y, if_neg n1] at hx
  exact absurd rfl hx
 ·intro x hx; exact absurd (hc x) hx
 ·intro x _; rw [z5y]; split <;> rfl
 ·intro x; rw [z5y]; split <;> simp [zL, Ord]
theorem LJ.make {t : List Node} {o : Opn} (h : LJ t (fun _ => 0)) (hT : TInv t 1) : LJ (z12 t o).1 (fun _ => 0) := by
 unfold z12
 split
 ·exact h
 ·rename_i h1
  split
  ·exact h
  ·rename_i h2
   have hd := kB (t := t) (s := o.a) (by simpa using h1)
   obtain ⟨hn1, hn2, _⟩ := z1q t
   have hz : getN t (qZ t) = zL := z1v hn1
   have hnd : (zJ t o.a).1 ≠ qZ t := fun hh => by rw [hh, hz] at hd; simp [zL] at hd
   have hfresh := z0o (hT.inv.ge2 (zJ t o.a).1) (Int.not_le.1 h2)
   have hi : (zY t o).ino = qZ t := by unfold zY; split <;> rfl
   have hns : (zY t o).names = [] := by unfold zY; split <;> rfl
   have hlk : (zY t o).links = 1 := by unfold zY; split <;> rfl
   have hkd : (zY t o).kind ≠ 0 := by unfold zY; split <;> simp
   have hc : cnt t (qZ t) = 0 := Classical.byContradiction fun hh => h.has _ hh (by rw [hz]; rfl)
   have hgd : getN (qQ t (zY t o)) (zJ t o.a).1 = getN t (zJ t o.a).1 := by
    rw [jB h.srt.uniq]
    unfold upd
    rw [hi, if_neg hnd]
   have h3 : LJ (qQ t (zY t o)) (fun x => if qZ t = x then 1 else 0) := h.with hkd (by rw [hns, hi, hz]; rfl) (fun _ => hns)
    (fun x hx => by rw [hi] at hx; exact if_neg fun hh => hx hh.symm) (fun _ => by rw [hlk, hi, hc, if_pos rfl]; rfl)
   have h4 := h3.put (d0 := (zJ t o.a).1) (s := (zJ t o.a).2.1) (i := qZ t) (by rw [hgd]; exact hd) (by rw [hgd]; exact hfresh) (by
    rw [jB h.srt.uniq]
    unfold upd
    rw [hi, if_pos rfl]
    exact hkd)
   exact h4.congr fun x => by simp
theorem wU {t : List Node} (hT : Told t) {s : List UInt8} (h : (zF t s).2 = 0) : hasN t (zF t s).1 = true := by
 unfold zF at h ⊢
 split at h
 ·rename_i h1; exact absurd h h1
 ·rename_i h1
  rw [if_neg h1]
  exact zst hT _ _ hT.root h
theorem LJ.link {t : List Node} {o : Opn} (h : LJ t (fun _ => 0)) (hT : TInv t 1) : LJ (z07 t o).1 (fun _ => 0) := by
 unfold z07
 split
 ·exact h
 ·rename_i h1
  split
  ·exact h
  ·rename_i h2
   split
   ·exact h
   ·rename_i h3
    split
    ·exact h
    ·rename_i h4
     have hd := kB (t := t) (s := o.b) (by simpa using h3)
     have hfresh := z0o (hT.inv.ge2 (zJ t o.b).1) (Int.not_le.1 h4)
     have hk := h.hasK (wU (h.toTold hT) (s := o.a) (by simpa using h1))
     generalize (zF t o.a).1 = r at *
     have hr := z0g hk
     have hne : (zJ t o.b).1 ≠ r := fun hh => by rw [hh] at hd; exact h2 hd
     have hmi : (more (getN t r)).ino = r := hr
     have hgd : getN (qQ t (more (getN t r))) (zJ t o.b).1 = getN t (zJ t o.b).1 := by
      rw [jB h.srt.uniq]
      unfold upd
      rw [hmi, if_neg hne]
     have h5 : LJ (qQ t (more (getN t r))) (fun x => if r = x then 1 else 0) := h.with hk (by rw [hmi]; rfl) (fun _ => h.fil r h2)
      (fun x hx => by rw [hmi] at hx; exact if_neg fun hh => hx hh.symm) (fun n1 => by
       rw [hmi] at n1 ⊢
       rw [if_pos rfl]
       show (getN t r).links + 1 = _
       rw [h.lnk r hk n1]; omega)
     have h6 := h5.put (d0 := (zJ t o.b).1) (s := (zJ t o.b).2.1) (i := r) (by rw [hgd]; exact hd) (by rw [hgd]; exact hfresh) (by
      rw [jB h.srt.uniq]
      unfold upd
      rw [hmi, if_pos rfl]
      exact hk)
     exact h6.congr fun x => by simp
theorem LJ.bytes {t : List Node} {o : Opn} (h : LJ t (fun _ => 0)) (hT : TInv t 1) : LJ (kQ t o).1 (fun _ => 0) := by
 unfold kQ
 split
 ·exact h
 ·rename_i h1
  have hk := h.hasK (wU (h.toTold hT) (s := o.a) (by simpa using h1))
  generalize (zF t o.a).1 = r at *
  have hr := z0g hk
  have go : ∀ m : Node, m.ino = (getN t r).ino → m.kind = (getN t r).kind → m.links = (getN t r).links → m.names = (getN t r).names → LJ (qQ t m) (fun _ => 0) := fun m e1 e2 e3 e4 =>
   h.with (by rw [e2]; exact hk) (by rw [e4, e1, hr]) (fun h2 => by rw [e4]; exact h.fil r (by rw [← e2]; exact h2)) (fun _ _ => rfl) (fun n1 => by
    rw [e1, hr] at n1 ⊢
    rw [e3]; exact h.lnk r hk n1)
  unfold z1f
  repeat' split
  all_goals first | exact h | exact go _ rfl rfl rfl rfl
theorem LJ.remove {t : List Node} {o : Opn} (h : LJ t (fun _ => 0)) (hT : TInv t 1) (hdo : o.does = 4 ∨ o.does = 5) : LJ (wA t o).1 (fun _ => 0) := by
 unfold wA
 split
 ·exact h
 ·rename_i h1
  split
  ·exact h
  ·rename_i h2
   have hd := kB (t := t) (s := o.a) (by simpa using h1)
   generalize zJ t o.a = w at *
   obtain ⟨e0, he0, hs0, hi0⟩ := vQ (l := (getN t w.1).names) (s := w.2.1) (by omega)
   have hge : 2 ≤ qR (getN t w.1).names w.2.1 := by rw [← hi0]; exact hT.inv.ge2 _ e0 he0
   have hk0 : (getN t (qR (getN t w.1).names w.2.1)).kind ≠ 0 := by rw [← hi0]; exact h.told he0
   generalize qR (getN t w.1).names w.2.1 = ino at *
   split
   ·exact h
   ·rename_i h3
    split
    ·exact h
    ·rename_i h4
     split
     ·exact h
     ·rename_i h5
      have hn : (getN t ino).names = [] := by
       rcases hdo with d4 | d5
       ·exact h.fil _ fun hh => h3 ⟨d4, hh⟩
       ·have : ¬ 0 < (getN t ino).names.length := fun hh => h5 ⟨d5, hh⟩
        exact List.length_eq_zero_iff.1 (by omega)
      have hne : ino ≠ w.1 := fun hh => by rw [← hh, hn] at he0; cases he0
      have hgi : getN (zT t w.1 w.2.1) ino = getN t ino := by rw [vU h.srt.uniq hd, if_neg hne]
      have hD := h.drop (i := ino) (s := w.2.1) hd ⟨e0, he0, hs0, hi0⟩
      have hL := hD.loses (i := ino) (by rw [hgi]; exact hk0) (by rw [hgi]; exact hn) (by omega) (by simp)
      exact hL.congr fun x => by
       by_cases e : x = ino
       ·simp [e]
       ·have : ¬ ino = x := fun hh => e hh.symm
        simp [e, this]
theorem LJ.rename {t : List Node} {o : Opn} (h : LJ t (fun _ => 0)) (hT : TInv t 1) : LJ (kZ t o).1 (fun _ => 0) := by
 unfold kZ
 split
 ·exact h
 ·rename_i h1
  split
  ·exact h
  ·rename_i h2
   split
   ·exact h
   ·rename_i h3
    have hf := kB (t := t) (s := o.a) (by simpa using h1)
    have hd := kB (t := t) (s := o.b) (by simpa using h3)
    generalize zJ t o.a = w at *
    generalize zJ t o.b = v at *
    obtain ⟨f, old, _⟩ := w
    obtain ⟨d, s, _⟩ := v
    simp only at *
    obtain ⟨e0, he0, hs0, hi0⟩ := vQ (l := (getN t f).names) (s := old) (by omega)
    have hk0 : (getN t (qR (getN t f).names old)).kind ≠ 0 := by rw [← hi0]; exact h.told he0
    have hwas : ∀ e ∈ (getN t f).names, e.name = old → e.ino = qR (getN t f).names old := fun e he hs => by
     rw [← hi0]; exact hT.inv.un _ e he e0 he0 (hs.trans hs0.symm)
    generalize qR (getN t f).names old = ino at *
    unfold z46
    split
    ·exact h
    ·rename_i h4
     split
     ·exact h
     ·split
      ·exact h
      ·rename_i h6
       split
       ·exact h
       ·rename_i h7
        unfold renamed
        have main : ∀ u : List Node, LJ u (fun _ => 0) → (getN u f).kind = 2 → (getN u d).kind = 2 → (∃ e ∈ (getN u f).names, e.name = old ∧ e.ino = ino) → (∀ e ∈ (getN u d).names, e.name ≠ s) → (getN u ino).kind ≠ 0 → (getN u ino).kind = (getN t ino).kind → LJ (if (getN t ino).kind = 2 then qQ (putN (zT u f old) d s ino) (moved (getN (putN (zT u f old) d s ino) ino) d) else putN (zT u f old) d s ino) (fun _ => 0) := fun u hu kf kd nf nd ki kt => by
         have hD := hu.drop (i := ino) (s := old) kf nf
         have hP := (hD.put (d0 := d) (s := s) (i := ino) (by rw [(qY hu.srt.uniq kf).1]; exact kd) (fun e he => nd e ((z1t hu.srt.uniq kf) e he).1) (by rw [(qY hu.srt.uniq kf).1]; exact ki)).congr (d' := fun _ => 0) (fun x => by omega)
         split
         ·rename_i hk
          have hki : (getN (putN (zT u f old) d s ino) ino).kind = 2 := by
           rw [(z8f hD.srt.uniq (by rw [(qY hu.srt.uniq kf).1]; exact kd)).1, (qY hu.srt.uniq kf).1, kt]; exact hk
          generalize putN (zT u f old) d s ino = p at *
          have hin : (moved (getN p ino) d).ino = ino := jG hki
          refine hP.with (by show (getN p ino).kind ≠ 0; rw [hki]; decide) (by rw [hin]; rfl) (fun hh => absurd hki hh) (fun _ _ => rfl) (fun n1 => ?_)
          rw [hin] at n1 ⊢
          exact hP.lnk ino (by rw [hki]; decide) n1
         ·exact hP
        by_cases hw : 0 ≤ qR (getN t d).names s
        ·simp only [if_pos hw]
         have hkw : (getN t (qR (getN t d).names s)).kind ≠ 2 := fun hh => h7 ⟨hw, hh⟩
         obtain ⟨e1, he1, hs1, hi1⟩ := vQ hw
         have hk1 : (getN t (qR (getN t d).names s)).kind ≠ 0 := by rw [← hi1]; exact h.told he1
         have hg1 : 2 ≤ qR (getN t d).names s := by rw [← hi1]; exact hT.inv.ge2 _ e1 he1
         generalize qR (getN t d).names s = was at *
         have hnf : f ≠ was := fun hh => by rw [hh] at hf; exact hkw hf
         have hnd : d ≠ was := fun hh => by rw [hh] at hd; exact hkw hd
         have hni : ino ≠ was := fun hh => h4 hh.symm
         have hgw : getN (zT t d s) was = getN t was := by rw [vU h.srt.uniq hd, if_neg (fun hh => hnd hh.symm)]
         have hD := h.drop (i := was) (s := s) hd ⟨e1, he1, hs1, hi1⟩
         have hL := (hD.loses (i := was) (by rw [hgw]; exact hk1) (by rw [hgw]; exact h.fil _ hkw) (by omega) (by simp)).congr (d' := fun _ => 0) (fun x => by
          by_cases e : x = was
          ·simp [e]
          ·have : ¬ was = x := fun hh => e hh.symm
           simp [e, this])
         have hgl : ∀ y, y ≠ was → getN (jM (zT t d s) was) y = getN (zT t d s) y := fun y hy => z0s hD.srt.uniq hy
         refine main _ hL ?_ ?_ ?_ ?_ ?_ ?_
         ·rw [hgl f hnf, (qY h.srt.uniq hd).1]; exact hf
         ·rw [hgl d hnd, (qY h.srt.uniq hd).1]; exact hd
         ·rw [hgl f hnf, vU h.srt.uniq hd]
          split
          ·rename_i hfd
           subst hfd
           refine ⟨e0, List.mem_filter.2 ⟨he0, ?_⟩, hs0, hi0⟩
           rw [decide_eq_true_eq]
           intro hh
           have := hT.inv.un _ e0 he0 e1 he1 (hh.trans hs1.symm)
           exact hni (hi0.symm.trans (this.trans hi1))
          ·exact ⟨e0, he0, hs0, hi0⟩
         ·rw [hgl d hnd]; exact fun e he => ((z1t h.srt.uniq hd) e he).2 rfl
         ·rw [hgl ino hni, (qY h.srt.uniq hd).1]; exact hk0
         ·rw [hgl ino hni, (qY h.srt.uniq hd).1]
        ·simp only [if_neg hw]
         exact main t h hf hd ⟨e0, he0, hs0, hi0⟩ (z0o (hT.inv.ge2 d) (Int.not_le.1 hw)) hk0 rfl
theorem LJ.step {t : List Node} {o : Opn} (h : LJ t (fun _ => 0)) (hT : TInv t 1) : LJ (qN t o).1 (fun _ => 0) := by
 unfold qN
 split
 ·exact h
 ·rename_i hm
  have := of_decide_eq_true ((Bool.not_eq_false _).mp hm)
  repeat' split
  ·exact h.make hT
  ·exact h.link hT
  ·exact h.remove hT (by omega)
  ·exact h.rename hT
  ·exact h.bytes hT
  ·exact h
  ·exact h
theorem LJ.play (l : List Opn) : LJ (zil l) (fun _ => 0) := by
 have : ∀ (l : List Opn) (t : List Node), TInv t 1 → LJ t (fun _ => 0) → LJ (l.foldl (fun t o => (qN t o).1) t) (fun _ => 0) := fun l => by
  induction l with
  | nil => exact fun t _ h => h
  | cons o r ih => exact fun t hT h => ih _ hT.step (h.step hT)
 exact this l newN TInv.new LJ.new
end Go.Proofs.Ytghllhghboaagaa
end
