/- A node of the store is put anew: frames; parts of slices. -/
import Derived.Test.YtghllhghboaagaaB09
set_option linter.unusedVariables false
set_option linter.unusedSimpArgs false
set_option maxRecDepth 100000
set_option maxHeartbeats 4000000
set_option linter.defProp false
section
namespace Go.Proofs.Ytghllhghboaagaa
open Go.Vm
def KeepL (S S' : zA) : Prop := ∀ (j : Nat) (ys : List V) (e : TypeId), e ≠ 5 → e ≠ 88 → S[j]? = some (.row ys e) → S'[j]? = some (.row ys e)
theorem Keep.toL {S S' : zA} (h : Keep S S') : KeepL S S' := fun j ys e _ _ hj => h j _ hj
theorem KeepL.refl {S : zA} : KeepL S S := fun _ _ _ _ _ h => h
theorem KeepL.trans {S S' S'' : zA} (h : KeepL S S') (h' : KeepL S' S'') : KeepL S S'' := fun j ys e h1 h2 hj => h' j ys e h1 h2 (h j ys e h1 h2 hj)
theorem KeepL.set {S S' : zA} {i : Nat} {o : Ob} (h : KeepL S S') (hi : S.length ≤ i) : KeepL S (S'.set i o) := fun j ys e h1 h2 hj => by
 have := qM hj
 rw [List.getElem?_set_ne (by omega)]
 exact h j ys e h1 h2 hj
section
variable {α : Type} {enc : α → D} {S S' : zA} {v : V} {e : TypeId} {xs : List α}
theorem SlE.cells (h : SlE enc S v e xs) : v.cells = [v] := by
 rcases h with ⟨rfl, _⟩ | ⟨id, ys, rfl, _⟩ <;> rfl
theorem SlE.one (h : SlE enc S v e xs) : v.one = true := by
 rcases h with ⟨rfl, _⟩ | ⟨id, ys, rfl, _⟩ <;> rfl
theorem SlE.same (h : SlE enc S v e xs) : z3q v v = true := by
 rcases h with ⟨rfl, _⟩ | ⟨id, ys, rfl, _⟩ <;> simp [z3q, wP, wQ, z0i]
theorem SlE.row (h : SlE enc S v e xs) {i : Nat} (hi : idOf v = some i) : ∃ ys, S[i]? = some (.row ys e) := by
 rcases h with ⟨rfl, _⟩ | ⟨id, ys, rfl, h1⟩
 ·cases hi
 ·cases hi; exact ⟨_, h1⟩
theorem SlE.frame2 (h : SlE enc S v e xs) (hf : ∀ (j : Nat) (o : Ob), S[j]? = some o → idOf v = some j → S'[j]? = some o) : SlE enc S' v e xs := by
 rcases h with h | ⟨id, ys, rfl, h1⟩
 ·exact .inl h
 ·exact .inr ⟨id, ys, rfl, hf _ _ h1 rfl⟩
end
section
variable {S S' : zA} {m : Nat} {A B : Int → V} {t : List Node} {x : Int}
abbrev All : Int → Prop := fun _ => True
theorem St.apart (h : St All S m A B t) (x y : Int) (i : Nat) (hi : idOf (A x) = some i) : idOf (B y) ≠ some i := fun hj => by
 obtain ⟨ys, h1⟩ := (h.da x trivial).row hi
 obtain ⟨zs, h2⟩ := (h.na y trivial).row hj
 rw [h1] at h2
 cases h2
theorem St.out (h : St All S m A B t) (hf : ∀ (j : Nat) (o : Ob), S[j]? = some o → idOf (A x) ≠ some j → idOf (B x) ≠ some j → S'[j]? = some o) : St (fun y => True ∧ y ≠ x) S' m A B t := by
 obtain ⟨L, c, h1, h2⟩ := h.mp
 have hm : ∀ v : V, (∀ i, idOf v = some i → ∃ ys e, S[i]? = some (.row ys e)) → idOf v ≠ some m := fun v hv hh => by
  obtain ⟨ys, e, q⟩ := hv m hh
  rw [h1] at q; cases q
 refine ⟨⟨L, c, hf _ _ h1 (hm _ fun i hi => by obtain ⟨ys, q⟩ := (h.da x trivial).row hi; exact ⟨ys, 5, q⟩) (hm _ fun i hi => by obtain ⟨ys, q⟩ := (h.na x trivial).row hi; exact ⟨ys, 88, q⟩), h2⟩, ?_, ?_, h.z, fun y w i _ _ => h.sa y w i trivial trivial, fun y w i _ _ => h.sb y w i trivial trivial⟩
 ·rintro y ⟨_, hne⟩
  exact (h.da y trivial).frame2 fun j o ho hj => hf j o ho (h.sa y x j trivial trivial hne hj) (h.apart y x j hj)
 ·rintro y ⟨_, hne⟩
  exact (h.na y trivial).frame2 fun j o ho hj => hf j o ho (fun hh => h.apart x y j hh hj) (h.sb y x j trivial trivial hne hj)
theorem St.renew {n : Node} {a b : V} (hs : Srt t) (h : St All S m A B t) (hx : n.ino = x) (hf : ∀ (j : Nat) (o : Ob), S[j]? = some o → idOf (A x) ≠ some j → idOf (B x) ≠ some j → S'[j]? = some o)
  (ha : SlE encU S' a 5 n.data) (hb : SlE zJ S' b 88 n.names) (ha2 : ∀ i, idOf a = some i → idOf (A x) = some i ∨ S.length ≤ i) (hb2 : ∀ i, idOf b = some i → idOf (B x) = some i ∨ S.length ≤ i) :
  ∃ o, jI Try.prog S' 125 (.mr m) (.d (.int .i64 x)) (zD n a b) = some (S'.set m o) ∧ St All (S'.set m o) m (fun y => if y = x then a else A y) (fun y => if y = x then b else B y) (qR t n) := by
 refine (h.out hf).upd hs hx ha hb ?_ ?_
 ·intro y i _ hne hi
  rcases ha2 i hi with hq | hq
  ·exact h.sa x y i trivial trivial (Ne.symm hne) hq
  ·intro hj
   have := (h.da y trivial).lt hj
   omega
 ·intro y i _ hne hi
  rcases hb2 i hi with hq | hq
  ·exact h.sb x y i trivial trivial (Ne.symm hne) hq
  ·intro hj
   have := (h.na y trivial).lt hj
   omega
theorem St.keepL (h : St All S m A B t) (hf : ∀ (j : Nat) (o : Ob), S[j]? = some o → idOf (A x) ≠ some j → idOf (B x) ≠ some j → S'[j]? = some o) {o : Ob} : KeepL S (S'.set m o) := fun j ys e h1 h2 hj => by
 obtain ⟨L, c, hm, _⟩ := h.mp
 have hne : m ≠ j := by rintro rfl; rw [hm] at hj; cases hj
 rw [List.getElem?_set_ne hne]
 refine hf j _ hj (fun hh => ?_) (fun hh => ?_)
 ·obtain ⟨zs, q⟩ := (h.da x trivial).row hh
  rw [hj] at q; cases q; exact h1 rfl
 ·obtain ⟨zs, q⟩ := (h.na x trivial).row hh
  rw [hj] at q; cases q; exact h2 rfl
end
section
variable {S : zA} {v : V} {l : List Ent} {k : Nat}
theorem z6u {xs : List V} {id k n : Nat} {zs : List V} (h : S[id]? = some (.row zs 88)) (hx : (zs.drop k).take n = xs) (hl : k + n ≤ zs.length) (hf : xs.all (qH Try.prog 88) = true) : srcV Try.prog S 88 30 (.rs id k n) = some xs := by
 have hz : (sz Try.prog 88).isSome = true := by kernel_rfl
 simp only [srcV, Try.underlying30, wH, h, hl, hx, if_true, hf, hz, Bool.and_self]
theorem zcr {l : List Ent} : (l.map fun a => V.d (zJ a)).all (qH Try.prog 88) = true := by
 rw [List.all_eq_true]
 intro x hx
 obtain ⟨a, _, rfl⟩ := List.mem_map.1 hx
 exact zgu a
theorem sz88 : (sz Try.prog 88).isSome = true := by kernel_rfl
theorem zl2 : zOk Try.prog 88 = true := by kernel_rfl
theorem zdt {n : Nat} (h : n ≤ 1000000) : room Try.prog 88 n = true := z5n (P := Try.prog) (e := 88) rfl (by decide) h
theorem bnd {y d k : Nat} (h : k ≤ y) : wO y (some (.d (.int .i64 (k : Int)))) d = some k := by
 have := z3e (n := y) (d := d) (i := (k : Int)) (by omega) (by omega)
 rw [this, Int.toNat_natCast]
theorem zcl (h : SlE zJ S v 88 l) (hk : k ≤ l.length) : ∃ va, jM Try.prog S 30 v none (some (.d (.int .i64 k))) = some va ∧ ((v = .ts [] ∧ l = [] ∧ va = .ts []) ∨ ∃ id ys, v = .rs id 0 l.length ∧ S[id]? = some (.row ((l ++ ys).map fun a => .d (zJ a)) 88) ∧ va = .rs id 0 k) := by
 rcases h with ⟨rfl, rfl⟩ | ⟨id, ys, rfl, h1⟩
 ·have : k = 0 := by simpa using hk
  subst this
  refine ⟨.ts [], ?_, .inl ⟨rfl, rfl, rfl⟩⟩
  have h1 := bnd (y := ([] : List D).length) (d := ([] : List D).length) (k := 0) (by simp)
  simp only [jM, Try.underlying30, h1, z1l, List.all_nil, sz88, Bool.and_self, if_true]
  rfl
 ·refine ⟨.rs id 0 k, ?_, .inr ⟨id, ys, rfl, h1, rfl⟩⟩
  have h3 : rowT S id 88 = true := by simp only [rowT, h1, beq_self_eq_true]
  simp only [jM, Try.underlying30, bnd hk, z1l, h3, sz88, Bool.and_self, if_true, Nat.zero_add, Nat.sub_zero]
theorem zih (h : SlE zJ S v 88 l) (hk : k ≤ l.length) : ∃ vb, jM Try.prog S 30 v (some (.d (.int .i64 k))) none = some vb ∧ ((v = .ts [] ∧ l = [] ∧ vb = .ts []) ∨ ∃ id ys, v = .rs id 0 l.length ∧ S[id]? = some (.row ((l ++ ys).map fun a => .d (zJ a)) 88) ∧ vb = .rs id k (l.length - k)) := by
 rcases h with ⟨rfl, rfl⟩ | ⟨id, ys, rfl, h1⟩
 ·have : k = 0 := by simpa using hk
  subst this
  refine ⟨.ts [], ?_, .inl ⟨rfl, rfl, rfl⟩⟩
  have h1 := bnd (y := ([] : List D).length) (d := 0) (k := 0) (by simp)
  simp only [jM, Try.underlying30, z1l, h1, List.all_nil, sz88, Bool.and_self, if_true]
  rfl
 ·refine ⟨.rs id k (l.length - k), ?_, .inr ⟨id, ys, rfl, h1, rfl⟩⟩
  have h3 : rowT S id 88 = true := by simp only [rowT, h1, beq_self_eq_true]
  simp only [jM, Try.underlying30, z1l, bnd hk, h3, sz88, Bool.and_self, if_true, Nat.zero_add]
theorem zs3 {e : Ent} (h : SlE zJ S v 88 l) (hk : k ≤ l.length) (hl : l.length < 900000) : ∃ va vb v6 S1 v7 S2 c1 c2, jM Try.prog S 30 v none (some (.d (.int .i64 k))) = some va ∧ jM Try.prog S 30 v (some (.d (.int .i64 k))) none = some vb ∧ jM Try.prog S1 30 v none (some (.d (.int .i64 k))) = some va ∧ z3q va va = true ∧
  qI Try.prog S 30 30 (.ts [zJ e]) vb = some (v6, S1, c1) ∧ qI Try.prog S1 30 30 va v6 = some (v7, S2, c2) ∧ (c1 = 1 ∧ c2 = 2 ∨ c1 = 1 ∧ c2 = 3 ∨ c1 = 2 ∧ c2 = 3) ∧ Keep S S1 ∧ SlE zJ S2 v7 88 (l.take k ++ e :: l.drop k) ∧ (∀ (j : Nat) (o : Ob), S[j]? = some o → idOf v ≠ some j → S2[j]? = some o) ∧ (∀ i, idOf v7 = some i → S.length ≤ i) := by
 obtain ⟨va, ha, hva⟩ := zcl h hk
 obtain ⟨vb, hb, hvb⟩ := zih h hk
 have hfe : ([zJ e].map V.d).all (qH Try.prog 88) = true := by rw [List.map_cons, List.map_nil, List.all_cons, List.all_nil, zgu e]; rfl
 have hfd : [zJ e].all (z0e Try.prog 88) = true := by rw [List.all_cons, List.all_nil, zin e]; rfl
 have src1 : srcV Try.prog S 88 30 (.ts [zJ e]) = some [.d (zJ e)] := by
  simp only [srcV, Try.underlying30, wH]
  rw [if_pos (by rw [hfe, sz88]; rfl)]
  rfl
 rcases hva with ⟨rfl, rfl, rfl⟩ | ⟨id, ys, rfl, hrow, rfl⟩
 ·rcases hvb with ⟨_, _, rfl⟩ | ⟨id, ys, q, _⟩
  ·have hk0 : k = 0 := by simpa using hk
   subst hk0
   refine ⟨_, _, .ts [zJ e], S, .rs S.length 0 1, S ++ [.row [.d (zJ e)] 88], 1, 2, ha, hb, ha, rfl, ?_, ?_, .inl ⟨rfl, rfl⟩, Keep.refl, ?_, fun j o hj _ => Keep.app _ _ hj, ?_⟩
   ·simp only [qI, Try.underlying30, srcV, wH, List.map_nil, List.all_nil, sz88, Bool.and_self, if_true]
   ·have := zdt (n := 0 + (0 + 1)) (by omega)
    simp only [qI, Try.underlying30, src1, zl2, if_true, List.all_nil, List.length_nil, this, Bool.and_self, List.map_nil, List.nil_append]
   ·exact .inr ⟨S.length, [], rfl, by simp⟩
   ·intro i hi; cases hi; omega
  ·cases q
 ·rcases hvb with ⟨q, _⟩ | ⟨id', ys', q, hrow', rfl⟩
  ·cases q
  ·cases q
   have hlen : ((l ++ ys).map fun a => V.d (zJ a)).length = l.length + ys.length := by simp
   have htk : ((l ++ ys).map fun a => V.d (zJ a)).take k = (l.take k).map fun a => V.d (zJ a) := by rw [← List.map_take, List.take_append_of_le_length hk]
   have hid := qM hrow
   by_cases hkl : k = l.length
   ·subst hkl
    have srcb : srcV Try.prog S 88 30 (.rs id l.length (l.length - l.length)) = some [] := z6u hrow (by simp) (by rw [hlen]; omega) rfl
    refine ⟨_, _, .ts [zJ e], S, .rs S.length 0 (l.length + 1), S.set id .dead ++ [.row ((l.take l.length).map (fun a => V.d (zJ a)) ++ [.d (zJ e)]) 88], 1, 3, ha, hb, ha, by simp [z3q, wP, wQ], ?_, ?_, .inr (.inl ⟨rfl, rfl⟩), Keep.refl, ?_, ?_, ?_⟩
    ·simp only [qI, Try.underlying30, srcb]
    ·have h1 := zdt (n := l.length + (0 + 1)) (by omega)
     have h2 : l.length ≤ l.length + ys.length := by omega
     simp only [qI, Try.underlying30, src1, zl2, if_true, hrow, hlen, h1, h2, htk, List.length_nil, decide_true, Bool.and_self, Nat.zero_add]
    ·refine .inr ⟨S.length, [], by simp, ?_⟩
     rw [List.getElem?_append_right (by simp)]
     simp
    ·intro j o hj hn
     have hjl := qM hj
     rw [List.getElem?_append_left (by simpa using hjl), List.getElem?_set_ne]
     ·exact hj
     ·rintro rfl; exact hn rfl
    ·intro i hi; cases hi; omega
   ·have hkl' : k < l.length := by omega
    have hdr : l.drop k = l[k] :: l.drop (k + 1) := List.drop_eq_getElem_cons hkl'
    have srcb : srcV Try.prog S 88 30 (.rs id k (l.length - k)) = some ((l.drop k).map fun a => .d (zJ a)) := by
     refine z6u hrow ?_ (by rw [hlen]; omega) zcr
     rw [← List.map_drop, ← List.map_take, List.drop_append_of_le_length hk, List.take_append_of_le_length (by rw [List.length_drop]; omega), List.take_of_length_le (by rw [List.length_drop]; omega)]
    have hl3 : ((l.drop (k + 1)).map fun a => V.d (zJ a)).length = l.length - (k + 1) := by rw [List.length_map, List.length_drop]
    have hS1row : (S ++ [Ob.row ([zJ e].map V.d ++ (l.drop k).map fun a => V.d (zJ a)) 88])[S.length]? = some (.row ([zJ e].map V.d ++ (l.drop k).map fun a => V.d (zJ a)) 88) := jC
    have srcc : srcV Try.prog (S ++ [Ob.row ([zJ e].map V.d ++ (l.drop k).map fun a => V.d (zJ a)) 88]) 88 30 (.rs S.length 0 (1 + (l.length - (k + 1) + 1))) = some (.d (zJ e) :: (l.drop k).map fun a => .d (zJ a)) := by
     refine z6u hS1row ?_ ?_ ?_
     ·rw [List.drop_zero, List.take_of_length_le (by simp; omega)]; rfl
     ·simp; omega
     ·rw [List.all_cons, zgu e, zcr]; rfl
    have hrow2 : (S ++ [Ob.row ([zJ e].map V.d ++ (l.drop k).map fun a => V.d (zJ a)) 88])[id]? = some (.row ((l ++ ys).map fun a => .d (zJ a)) 88) := qS hrow
    refine ⟨_, _, .rs S.length 0 (1 + (l.length - (k + 1) + 1)), S ++ [Ob.row ([zJ e].map V.d ++ (l.drop k).map fun a => V.d (zJ a)) 88], .rs (S.length + 1) 0 (k + (l.length - k + 1)), (S ++ [Ob.row ([zJ e].map V.d ++ (l.drop k).map fun a => V.d (zJ a)) 88]).set id .dead ++ [Ob.row ((l.take k).map (fun a => V.d (zJ a)) ++ .d (zJ e) :: (l.drop k).map fun a => V.d (zJ a)) 88], 2, 3, ha, hb, ?_, by simp [z3q, wP, wQ], ?_, ?_, .inr (.inr ⟨rfl, rfl⟩), Keep.app, ?_, ?_, ?_⟩
    ·obtain ⟨va2, q1, q2⟩ := zcl (h.keep (Keep.app (l := [Ob.row ([zJ e].map V.d ++ (l.drop k).map fun a => V.d (zJ a)) 88]))) hk
     rcases q2 with ⟨q2, _⟩ | ⟨id2, _, q2, _, q3⟩
     ·cases q2
     ·cases q2; rw [q1, q3]
    ·have h1 := zdt (n := 1 + (l.length - (k + 1) + 1)) (by omega)
     simp only [qI, Try.underlying30, srcb, hdr, List.map_cons, zl2, if_true, hfd, hl3, List.length_cons, List.length_nil, Nat.zero_add, h1, Bool.and_self]
    ·have h1 := zdt (n := k + (l.length - k + 1)) (by omega)
     have h2 : k ≤ l.length + ys.length := by omega
     have hl4 : ((l.drop k).map fun a => V.d (zJ a)).length = l.length - k := by rw [List.length_map, List.length_drop]
     simp only [qI, Try.underlying30, srcc, zl2, if_true, hrow2, hlen, hl4, h1, h2, htk, decide_true, Bool.and_self, List.length_append, List.length_cons, List.length_nil, Nat.zero_add]
    ·refine .inr ⟨S.length + 1, [], by simp [List.length_take, List.length_drop]; omega, ?_⟩
     rw [List.getElem?_append_right (by simp)]
     simp
    ·intro j o hj hn
     have hjl := qM hj
     rw [List.getElem?_append_left (by simp; omega), List.getElem?_set_ne]
     ·exact qS hj
     ·rintro rfl; exact hn rfl
    ·intro i hi; cases hi; omega
theorem zpb (h : SlE zJ S v 88 l) (hk : k < l.length) (hl : l.length < 900000) : ∃ va vb v7 S2 c, jM Try.prog S 30 v none (some (.d (.int .i64 k))) = some va ∧ jM Try.prog S 30 v (some (.d (.int .i64 ((k + 1 : Nat) : Int)))) none = some vb ∧
  qI Try.prog S 30 30 va vb = some (v7, S2, c) ∧ (c = 1 ∧ S2 = S ∨ c = 3) ∧ SlE zJ S2 v7 88 (l.take k ++ l.drop (k + 1)) ∧ (∀ (j : Nat) (o : Ob), S[j]? = some o → idOf v ≠ some j → S2[j]? = some o) ∧ (∀ i, idOf v7 = some i → idOf v = some i ∨ S.length ≤ i) := by
 obtain ⟨va, ha, hva⟩ := zcl h (Nat.le_of_lt hk)
 obtain ⟨vb, hb, hvb⟩ := zih h (k := k + 1) hk
 rcases hva with ⟨rfl, rfl, rfl⟩ | ⟨id, ys, rfl, hrow, rfl⟩
 ·exact absurd hk (by simp)
 ·rcases hvb with ⟨q, _⟩ | ⟨id', ys', q, hrow', rfl⟩
  ·cases q
  ·cases q
   have hlen : ((l ++ ys).map fun a => V.d (zJ a)).length = l.length + ys.length := by simp
   have htk : ((l ++ ys).map fun a => V.d (zJ a)).take k = (l.take k).map fun a => V.d (zJ a) := by rw [← List.map_take, List.take_append_of_le_length (Nat.le_of_lt hk)]
   have hid := qM hrow
   by_cases hkl : k + 1 = l.length
   ·have srcb : srcV Try.prog S 88 30 (.rs id (k + 1) (l.length - (k + 1))) = some [] := z6u hrow (by rw [hkl, Nat.sub_self, List.take_zero]) (by rw [hlen]; omega) rfl
    have hd : l.drop (k + 1) = [] := by rw [hkl, List.drop_length]
    refine ⟨_, _, .rs id 0 k, S, 1, ha, hb, ?_, .inl ⟨rfl, rfl⟩, ?_, fun j o hj _ => hj, fun i hi => .inl hi⟩
    ·simp only [qI, Try.underlying30, srcb]
    ·refine .inr ⟨id, l.drop k ++ ys, ?_, ?_⟩
     ·rw [hd, List.append_nil, List.length_take, Nat.min_eq_left (Nat.le_of_lt hk)]
     ·rw [hd, List.append_nil, ← List.append_assoc, List.take_append_drop]
      exact hrow
   ·have hkl' : k + 1 < l.length := by omega
    have hdr : l.drop (k + 1) = l[k + 1] :: l.drop (k + 2) := List.drop_eq_getElem_cons hkl'
    have srcb : srcV Try.prog S 88 30 (.rs id (k + 1) (l.length - (k + 1))) = some ((l.drop (k + 1)).map fun a => .d (zJ a)) := by
     refine z6u hrow ?_ (by rw [hlen]; omega) zcr
     rw [← List.map_drop, ← List.map_take, List.drop_append_of_le_length hk, List.take_append_of_le_length (by rw [List.length_drop]; omega), List.take_of_length_le (by rw [List.length_drop]; omega)]
    have hl3 : ((l.drop (k + 2)).map fun a => V.d (zJ a)).length = l.length - (k + 2) := by rw [List.length_map, List.length_drop]
    refine ⟨_, _, .rs S.length 0 (k + (l.length - (k + 2) + 1)), S.set id .dead ++ [Ob.row ((l.take k).map (fun a => V.d (zJ a)) ++ (l.drop (k + 1)).map fun a => V.d (zJ a)) 88], 3, ha, hb, ?_, .inr rfl, ?_, ?_, ?_⟩
    ·have h1 := zdt (n := k + (l.length - (k + 2) + 1)) (by omega)
     have h2 : k ≤ l.length + ys.length := by omega
     simp only [qI, Try.underlying30, srcb, hdr, List.map_cons, zl2, if_true, hrow, hlen, hl3, h1, h2, htk, decide_true, Bool.and_self]
    ·refine .inr ⟨S.length, [], by simp [List.length_take, List.length_drop]; omega, ?_⟩
     rw [List.getElem?_append_right (by simp)]
     simp
    ·intro j o hj hn
     have hjl := qM hj
     rw [List.getElem?_append_left (by simpa using hjl), List.getElem?_set_ne]
     ·exact hj
     ·rintro rfl; exact hn rfl
    ·intro i hi; cases hi; exact .inr (Nat.le_refl _)
end
end Go.Proofs.Ytghllhghboaagaa
end
section
namespace Go.Proofs.Ytghllhghboaagaa
open Go.Vm
def gw := And.intro gd <| And.intro @dw1 <| And.intro @dw2 <| And.intro @dw3 <| And.intro @dw4 <| And.intro @dw5 <| And.intro @dw6 <| And.intro @dw7 <| And.intro @dw8 <| And.intro @dw9 <| And.intro @dw10 <| And.intro @dw11 @dw12
theorem zqe {a b : List UInt8} : z25 .gtr a b = some (.bool (kV b a)) := by
 rw [zc8 (a := a) (b := b)]
 simp only [z25, zbp]
theorem le0 {e : Ent} : kS Try.prog 9 0 (some (.d (zJ e))) = some (.d (.str e.name)) := by kernel_rfl
theorem sv6 {n : Node} {a b v : V} (h1 : qH Try.prog 30 v = true) (h2 : v.cells = [v]) : qX Try.prog 30 6 v (zD n a b) = some (zD n a v) := zd1 h1 h2
theorem zvn {S : zA} {v : V} {l : List Ent} (h : SlE zJ S v 88 l) : qH Try.prog 30 v = true := by
 rcases h with ⟨rfl, _⟩ | ⟨id, ys, rfl, _⟩ <;> kernel_rfl
variable {t : List Node} {A B : Int → V}
theorem zy5 (S : zA) (D0 : Node) (i8 : Nat) (va vb : V) (h8 : S[i8]? = some (.row [zD D0 va vb] 32)) (hb : SlE zJ S vb 88 D0.names) (hl : D0.names.length < 900000) (s : List UInt8) (x0 x1 x3 : V) (R : Post) (g4 g5 g6 g7 : V) : ∀ (k : Nat) (gH gO gI gD gA gE gF gG gB gC gJ gK gN gL gM gP gQ gU gR gS gT gV gW gX gY gZ gf gg gh gi gj gk gm gn gr gz hC xA hH hJ hY hZ xB xC xD : V), k ≤ D0.names.length → (∀ j (h : j < D0.names.length), k ≤ j → kV s D0.names[j].name = true) →
 (∀ (k : Nat) gH gO gI gD gA gE gF gG gB gC gJ gK gN gL gM gP gQ gU gR gS gT gV gW gX gY gZ gf gg gh gi gj gk gm gn gr gz hC xA hH hJ hY hZ xB xC xD, k ≤ D0.names.length → (∀ j (h : j < D0.names.length), k ≤ j → kV s D0.names[j].name = true) → (∀ j (h : j < D0.names.length), j + 1 = k → kV s D0.names[j].name = false) → R (.exit 0) (x0 :: x1 :: (.d (.str s)) :: x3 :: g4 :: g5 :: g6 :: g7 :: (.ref i8 0 0) :: (.d (.int .i64 k)) :: gH :: gO :: gI :: gD :: gA :: gE :: gF :: gG :: gB :: gC :: gJ :: gK :: gN :: gL :: gM :: gP :: gQ :: gU :: gR :: gS :: gT :: gV :: gW :: gX :: gY :: gZ :: gf :: gg :: gh :: gi :: gj :: gk :: gm :: gn :: gr :: gz :: hC :: xA :: hH :: hJ :: hY :: hZ :: xB :: xC :: xD :: []) S []) →
 Wp cfgS (.loop (lpOf (Try.f106.body.getD .skip) 0)) (x0 :: x1 :: (.d (.str s)) :: x3 :: g4 :: g5 :: g6 :: g7 :: (.ref i8 0 0) :: (.d (.int .i64 k)) :: gH :: gO :: gI :: gD :: gA :: gE :: gF :: gG :: gB :: gC :: gJ :: gK :: gN :: gL :: gM :: gP :: gQ :: gU :: gR :: gS :: gT :: gV :: gW :: gX :: gY :: gZ :: gf :: gg :: gh :: gi :: gj :: gk :: gm :: gn :: gr :: gz :: hC :: xA :: hH :: hJ :: hY :: hZ :: xB :: xC :: xD :: []) S [] R := by
 have hr8 := zF h8
 intro k
 induction k with
 | zero =>
  intro gH gO gI gD gA gE gF gG gB gC gJ gK gN gL gM gP gQ gU gR gS gT gV gW gX gY gZ gf gg gh gi gj gk gm gn gr gz hC xA hH hJ hY hZ xB xC xD hk hj hE
  rw [qL]
  refine zU ?_
  conv => arg 2; whnf
  simp (maxSteps:=1000000) (disch:=first|assumption|omega|rfl) only [↓gp, gc, Nat.reduceAdd, hPS, hr8, lv6]
  exact hE 0 _ _ _ _ _ _ _ _ _ _ _ _ _ _ _ _ _ _ _ _ _ _ _ _ _ _ _ _ _ _ _ _ _ _ _ _ _ _ _ _ _ _ _ _ _ hk hj (fun j _ h => by omega)
 | succ k ih =>
  intro gH gO gI gD gA gE gF gG gB gC gJ gK gN gL gM gP gQ gU gR gS gT gV gW gX gY gZ gf gg gh gi gj gk gm gn gr gz hC xA hH hJ hY hZ xB xC xD hk hj hE
  have hkl : k < D0.names.length := by omega
  obtain ⟨id, hix, hre, _⟩ := hb.ix (t := 30) Try.underlying30 (by kernel_rfl) hkl
  have hw : ((k + 1 : Nat) : Int) - 1 = (k : Int) := by omega
  rw [qL]
  refine zU ?_
  conv => arg 2; whnf
  cases hs : kV s D0.names[k].name with
  | true =>
   simp (maxSteps:=1000000) (disch:=first|assumption|omega|rfl) only [↓gp, gc, Nat.reduceAdd, hPS, hr8, lv6, hw, hix, hre, le0, zqe, hs]
   refine ih _ _ _ _ _ _ _ _ _ _ _ _ _ _ _ _ _ _ _ _ _ _ _ _ _ _ _ _ _ _ _ _ _ _ _ _ _ _ _ _ _ _ _ _ _ (by omega) (fun j h hkj => ?_) hE
   by_cases hjk : j = k
   ·subst hjk; exact hs
   ·exact hj j h (by omega)
  | false =>
   simp (maxSteps:=1000000) (disch:=first|assumption|omega|rfl) only [↓gp, gc, Nat.reduceAdd, hPS, hr8, lv6, hw, hix, hre, le0, zqe, hs]
   exact hE (k + 1) _ _ _ _ _ _ _ _ _ _ _ _ _ _ _ _ _ _ _ _ _ _ _ _ _ _ _ _ _ _ _ _ _ _ _ _ _ _ _ _ _ _ _ _ _ hk hj (fun j h hjk => by
    have : j = k := by omega
    subst this; exact hs)
theorem zwb (S0 : zA) (a m : Nat) (hT0 : Tree S0 a m A B t) (hsr : Srt t) (k0 : Nat) (hk0 : k0 < 300000) (hS : Small k0 t) (dir : Int) (hd : (getN t dir).ino = dir) (ho : Ord (getN t dir).names) (s : List UInt8) (ino : Int) :
  EvS cfgS 106 [.ref a 0 0, .d (.int .i64 dir), .d (.str s), .d (.int .i64 ino)] S0 fun o S => (∃ v, o = .ret v) ∧ KeepL S0 S ∧ ∃ A' B', Tree S a m A' B' (putN t dir s ino) ∧ ∀ y, y ≠ dir → A' y = A y ∧ B' y = B y := by
 refine wU rfl zto ?_
 show Wp cfgS (Try.f106.body.getD .skip) ((.ref a 0 0) :: (.d (.int .i64 dir)) :: (.d (.str s)) :: (.d (.int .i64 ino)) :: uZ (uZ (uZ (uZ (uZ ((.tup []) :: [])))))) S0 [] _
 unfold uZ
 conv => arg 2; whnf
 rw [qL]
 have hln : (getN t dir).names.length < 900000 := Nat.lt_of_le_of_lt (hS.gnms dir) (by omega)
 have hra := hT0.row
 have hlk := fun x => (hT0.st.look x).2
 have hT1 := hT0.keep (Keep.app (l := [Ob.row [zD (getN t dir) (A dir) (B dir)] 32]))
 have h8 : (S0 ++ [Ob.row [zD (getN t dir) (A dir) (B dir)] 32])[S0.length]? = some (.row [zD (getN t dir) (A dir) (B dir)] 32) := jC
 have hr8 := zF h8
 have hb1 := hT1.st.na dir trivial
 have hlen := hb1.len Try.underlying30
 simp (maxSteps:=1000000) (disch:=first|assumption|omega|rfl) only [↓gp, gc, Nat.reduceAdd, hPS, zagg, z32v, kW, qF, vK, vC, hra, hlk, svz, sv, zT, zQ, hr8, lv6, hlen]
 refine zy5 _ (getN t dir) S0.length (A dir) (B dir) h8 hb1 hln s _ _ _ _ _ _ _ _ (getN t dir).names.length _ _ _ _ _ _ _ _ _ _ _ _ _ _ _ _ _ _ _ _ _ _ _ _ _ _ _ _ _ _ _ _ _ _ _ _ _ _ _ _ _ _ _ _ _ (Nat.le_refl _) (fun j h hj => by omega) ?_
 intro k gH gO gI gD gA gE gF gG gB gC gJ gK gN gL gM gP gQ gU gR gS gT gV gW gX gY gZ gf gg gh gi gj gk gm gn gr gz hC xA hH hJ hY hZ xB xC xD hk hj hlast
 have hput : putA s ino false (getN t dir).names = (getN t dir).names.take k ++ ⟨s, ino⟩ :: (getN t dir).names.drop k := by
  refine zr2 hk (fun j h hjk => ?_) (fun h => hj k h (Nat.le_refl _))
  have hk1 : k - 1 < (getN t dir).names.length := by omega
  have h1 := hlast (k - 1) hk1 (by omega)
  cases hh : kV s (getN t dir).names[j].name with
  | false => rfl
  | true =>
   by_cases hjk1 : j = k - 1
   ·subst hjk1; rw [hh] at h1; cases h1
   ·have h2 : kV (getN t dir).names[j].name (getN t dir).names[k - 1].name = true := by
     have h3 := List.pairwise_iff_getElem.1 ho j (k - 1) (by simpa using h) (by simpa using hk1) (by omega)
     simpa using h3
    rw [z79 hh h2] at h1; cases h1
 obtain ⟨va, vb, v6, S1, v7, S2, c1, c2, e1, e2, e1', hsv, e3, e4, hc, hK1, hS7, hf, hnew⟩ := zs3 (e := ⟨s, ino⟩) hb1 hk hln
 have hBlt : ∀ j, idOf (B dir) = some j → j < S0.length := fun j hj => (hT0.st.na dir trivial).lt hj
 have h81 : S1[S0.length]? = some (.row [zD (getN t dir) (A dir) (B dir)] 32) := hK1 _ _ h8
 have hr81 := zF h81
 have h82 : S2[S0.length]? = some (.row [zD (getN t dir) (A dir) (B dir)] 32) := hf _ _ h8 (fun hh => by have := hBlt _ hh; omega)
 have hr82 := zF h82
 have hpr8 := fun y => qB (y := y) h82
 have hst6 := sv6 (n := getN t dir) (a := A dir) (b := B dir) (zvn hS7) hS7.cells
 have hsame := hb1.same
 have hload : jZ Try.prog S1 30 (.ref S0.length 0 6) = some (B dir) := (jU hr81).trans lv6
 have hfr' : ∀ (j : Nat) (o : Ob), S0[j]? = some o → idOf (B dir) ≠ some j → (S2.set S0.length (.row [zD (getN t dir) (A dir) v7] 32))[j]? = some o := fun j o hj hb => by
  have := qM hj
  rw [List.getElem?_set_ne (by omega)]
  exact hf j o (qS hj) hb
 have hfr : ∀ (j : Nat) (o : Ob), S0[j]? = some o → idOf (A dir) ≠ some j → idOf (B dir) ≠ some j → (S2.set S0.length (.row [zD (getN t dir) (A dir) v7] 32))[j]? = some o := fun j o hj _ hb => hfr' j o hj hb
 have h83 : (S2.set S0.length (.row [zD (getN t dir) (A dir) v7] 32))[S0.length]? = some (.row [zD (getN t dir) (A dir) v7] 32) := jL h82
 have hr83 := zF h83
 have hcell : (S2.set S0.length (.row [zD (getN t dir) (A dir) v7] 32))[a]? = some (.row [.agg [.mr m]] 127) := by
  refine hfr a _ hT0.cell (fun hh => ?_) (fun hh => ?_)
  ·obtain ⟨zs, q⟩ := (hT0.st.da dir trivial).row hh
   rw [hT0.cell] at q; cases q
  ·obtain ⟨zs, q⟩ := (hT0.st.na dir trivial).row hh
   rw [hT0.cell] at q; cases q
 have hra3 := zF hcell
 obtain ⟨o, hup, hst⟩ := hT0.st.renew (x := dir) (n := { getN t dir with names := putA s ino false (getN t dir).names }) (a := A dir) (b := v7) (S' := S2.set S0.length (.row [zD (getN t dir) (A dir) v7] 32)) hsr hd hfr
  ((hT0.st.da dir trivial).frame2 fun j o hj hi => hfr' j o hj (hT0.st.apart dir dir j hi))
  (by
   show SlE zJ _ v7 88 (putA s ino false (getN t dir).names)
   rw [hput]
   refine hS7.frame2 fun j o hj hi => ?_
   have h1 := hnew j hi
   rw [List.length_append, List.length_singleton] at h1
   rw [List.getElem?_set_ne (by omega)]
   exact hj)
  (fun i hi => .inl hi) (fun i hi => .inr (by have h1 := hnew i hi; rw [List.length_append] at h1; omega))
 have hup : jI Try.prog (S2.set S0.length (.row [zD (getN t dir) (A dir) v7] 32)) 125 (.mr m) (.d (.int .i64 dir)) (zD (getN t dir) (A dir) v7) = some ((S2.set S0.length (.row [zD (getN t dir) (A dir) v7] 32)).set m o) := hup
 have hfin : (∃ v : V, Out.ret (.tup []) = .ret v) ∧ KeepL S0 ((S2.set S0.length (.row [zD (getN t dir) (A dir) v7] 32)).set m o) ∧ ∃ A' B', Tree ((S2.set S0.length (.row [zD (getN t dir) (A dir) v7] 32)).set m o) a m A' B' (putN t dir s ino) ∧ ∀ y, y ≠ dir → A' y = A y ∧ B' y = B y :=
  ⟨⟨_, rfl⟩, hT0.st.keepL hfr, _, _, ⟨by rw [List.getElem?_set_ne (Ne.symm hT0.ne)]; exact hcell, hst⟩, fun y hy => ⟨if_neg hy, if_neg hy⟩⟩
 have hlk3 := hup
 rcases hc with ⟨rfl, rfl⟩ | ⟨rfl, rfl⟩ | ⟨rfl, rfl⟩
 ·simp (maxSteps:=1000000) (disch:=first|assumption|omega|rfl) only [↓gp, gc, Nat.reduceAdd, hPS]
  refine vM (is := [0, 1, 2, 3, 4, 5, 6, 7, 8, 9, 10, 11, 12, 13, 14, 15]) (h := 0) (by kernel_rfl) (by kernel_rfl) ?_
  simp (maxSteps:=1000000) (disch:=first|assumption|omega|rfl) only [List.replicate_zero, eq_self, gw, ga, Nat.reduceAdd, ↓gq, hPS, List.append_nil, vso, bd88, zlk, hr8, lv6, e1, e2, e3, e4, Option.map_some, Option.map_none, hr82, hst6, hpr8]
  refine ⟨(zH (by kernel_rfl) (zH (by kernel_rfl) (zH (by kernel_rfl) (zH (by kernel_rfl) (zH (by kernel_rfl) qW))))), (zH (by kernel_rfl) (zH (by kernel_rfl) (zH (by kernel_rfl) (zH (by kernel_rfl) (zH (by kernel_rfl) qW))))), by kernel_rfl, ?_⟩
  simp (maxSteps:=1000000) (disch:=first|assumption|omega|rfl) only [↓gp, gc, Nat.reduceAdd, hPS]
  refine qT (is := [0, 1, 2, 3, 4, 5, 6]) (h := 0) (by kernel_rfl) (by kernel_rfl) ?_
  simp (maxSteps:=1000000) (disch:=first|assumption|omega|rfl) only [List.replicate_zero, eq_self, gd, ga, Nat.reduceAdd, ↓gq, hPS, List.append_nil, qK, qF, jE, vK, vC, hra3, hr83, lv, hup, Option.map_some]
  refine ⟨fun _ => by kernel_rfl, ?_⟩
  refine ⟨by kernel_rfl, ?_⟩
  exact ⟨rfl, _, rfl, hfin⟩
 ·simp (maxSteps:=1000000) (disch:=first|assumption|omega|rfl) only [↓gp, gc, Nat.reduceAdd, hPS]
  refine vM (is := [0, 1, 2, 3, 4, 5, 6, 7, 8, 9, 10, 11, 12, 13, 14, 15]) (h := 0) (by kernel_rfl) (by kernel_rfl) ?_
  simp (maxSteps:=1000000) (disch:=first|assumption|omega|rfl) only [List.replicate_zero, eq_self, gw, ga, Nat.reduceAdd, ↓gq, hPS, List.append_nil, vso, bd88, zlk, hr8, lv6, e1, e2, e3, e4, Option.map_some, Option.map_none, hr82, hst6, hpr8]
  refine ⟨(zH (by kernel_rfl) (zH (by kernel_rfl) (zH (by kernel_rfl) (zH (by kernel_rfl) (zH (by kernel_rfl) qW))))), (zH (by kernel_rfl) (zH (by kernel_rfl) (zH (by kernel_rfl) (zH (by kernel_rfl) (zH (by kernel_rfl) qW))))), by kernel_rfl, ?_⟩
  simp (maxSteps:=1000000) (disch:=first|assumption|omega|rfl) only [↓gp, gc, Nat.reduceAdd, hPS]
  refine qT (is := [0, 1, 2, 3, 4, 5, 6]) (h := 0) (by kernel_rfl) (by kernel_rfl) ?_
  simp (maxSteps:=1000000) (disch:=first|assumption|omega|rfl) only [List.replicate_zero, eq_self, gd, ga, Nat.reduceAdd, ↓gq, hPS, List.append_nil, qK, qF, jE, vK, vC, hra3, hr83, lv, hup, Option.map_some]
  refine ⟨fun _ => by kernel_rfl, ?_⟩
  refine ⟨by kernel_rfl, ?_⟩
  exact ⟨rfl, _, rfl, hfin⟩
 ·simp (maxSteps:=1000000) (disch:=first|assumption|omega|rfl) only [↓gp, gc, Nat.reduceAdd, hPS]
  refine vM (is := [0, 1, 2, 3, 4, 5, 6, 7, 8, 9, 10, 11, 12, 13, 14, 15]) (h := 0) (by kernel_rfl) (by kernel_rfl) ?_
  simp (maxSteps:=1000000) (disch:=first|assumption|omega|rfl) only [List.replicate_zero, eq_self, gw, ga, Nat.reduceAdd, ↓gq, hPS, List.append_nil, vso, bd88, zlk, hr8, lv6, e1, e2, e3, e4, Option.map_some, Option.map_none, hr82, hst6, hpr8]
  refine ⟨zH (by kernel_rfl) (zH (by kernel_rfl) (jV rfl (by kernel_rfl) rfl ?_ hsv (jV rfl (by kernel_rfl) rfl ?_ hsame qW))), ?_⟩
  ·exact (show _ = (jM Try.prog S1 30 (B dir) none (some (.d (.int .i64 k)))).map (fun v => Rs.val v S1 1) from rfl).trans (by rw [e1']; rfl)
  ·exact (show _ = (jZ Try.prog S1 30 (.ref S0.length 0 6)).map (fun v => Rs.val v S1 1) from rfl).trans (by rw [hload]; rfl)
  refine ⟨(zH (by kernel_rfl) (zH (by kernel_rfl) (zH (by kernel_rfl) (zH (by kernel_rfl) qW)))), (zH (by kernel_rfl) (zH (by kernel_rfl) (zH (by kernel_rfl) (zH (by kernel_rfl) qW)))), by kernel_rfl, ?_⟩
  simp (maxSteps:=1000000) (disch:=first|assumption|omega|rfl) only [↓gp, gc, Nat.reduceAdd, hPS]
  refine qT (is := [0, 1, 2, 3, 4, 5, 6]) (h := 0) (by kernel_rfl) (by kernel_rfl) ?_
  simp (maxSteps:=1000000) (disch:=first|assumption|omega|rfl) only [List.replicate_zero, eq_self, gd, ga, Nat.reduceAdd, ↓gq, hPS, List.append_nil, qK, qF, jE, vK, vC, hra3, hr83, lv, hup, Option.map_some]
  refine ⟨fun _ => by kernel_rfl, ?_⟩
  refine ⟨by kernel_rfl, ?_⟩
  exact ⟨rfl, _, rfl, hfin⟩
theorem putM (S0 : zA) (a m : Nat) (hT0 : Tree S0 a m A B t) (hsr : Srt t) (k0 : Nat) (hk0 : k0 < 300000) (hS : Small k0 t) (dir : Int) (hd : (getN t dir).ino = dir) (ho : Ord (getN t dir).names) (s : List UInt8) (ino : Int) :
  EvS cfgS 106 [.ref a 0 0, .d (.int .i64 dir), .d (.str s), .d (.int .i64 ino)] S0 fun o S => (∃ v, o = .ret v) ∧ KeepL S0 S ∧ ∃ A' B', Tree S a m A' B' (putN t dir s ino) :=
 EvS.weak (zwb S0 a m hT0 hsr k0 hk0 hS dir hd ho s ino) fun o S ⟨h1, h2, A', B', h3, _⟩ => ⟨h1, h2, A', B', h3⟩
end Go.Proofs.Ytghllhghboaagaa
end
section
namespace Go.Proofs.Ytghllhghboaagaa
open Go.Vm
theorem ze8 {s : List UInt8} : ∀ {l : List Ent} {i : Nat}, (∃ e ∈ l, e.name = s) → ∃ k, ∃ h : k < l.length, fidx s i l = some (i + k) ∧ qE l s = l[k].ino ∧ l[k].name = s
 | [], i, h => by obtain ⟨e, he, _⟩ := h; cases he
 | e :: r, i, h => by
  by_cases hs : e.name = s
  ·exact ⟨0, by simp, by simp [fidx, hs], by simp [qE, hs], by simpa using hs⟩
  ·obtain ⟨k, hk, h1, h2, h3⟩ := ze8 (s := s) (l := r) (i := i + 1) (by
    obtain ⟨x, hx, hxs⟩ := h
    rcases List.mem_cons.1 hx with rfl | hx
    ·exact absurd hxs hs
    ·exact ⟨x, hx, hxs⟩)
   refine ⟨k + 1, by simpa using hk, ?_, ?_, by simpa using h3⟩
   ·simp only [fidx, hs, if_false, h1]
    congr 1; omega
   ·simp only [List.getElem_cons_succ, ← h2]
    simp [qE, hs]
theorem z9v {n : Node} {t : List Node} : (qR t n).filter (fun m => m.ino ≠ n.ino) = t.filter (fun m => m.ino ≠ n.ino) := by
 have ff : ∀ l : List Node, (l.filter (fun m => m.ino ≠ n.ino)).filter (fun m => m.ino ≠ n.ino) = l.filter (fun m => m.ino ≠ n.ino) := fun l => by rw [List.filter_filter]; congr 1; funext m; exact Bool.and_self _
 have go : ∀ (l : List Node), (wL n false l).filter (fun m => m.ino ≠ n.ino) = l.filter (fun m => m.ino ≠ n.ino) := fun l => by
  induction l with
  | nil => simp [wL]
  | cons y r ih =>
   by_cases hy : n.ino ≤ y.ino
   ·have e : wL n false (y :: r) = n :: (y :: r).filter (fun m => m.ino ≠ n.ino) := by
     rw [← z2r]
     simp [wL, hy]
    rw [e, List.filter_cons_of_neg (by simp), ff]
   ·have e : wL n false (y :: r) = y :: wL n false r := by
     have : y.ino ≠ n.ino := by omega
     simp [wL, hy, this]
    have hne : y.ino ≠ n.ino := by omega
    rw [e, List.filter_cons_of_pos (by simpa using hne), List.filter_cons_of_pos (by simpa using hne), ih]
 exact go t
theorem zdu {P : Program} {S : zA} {t t2 : TypeId} {m k : V} : qD P S .delete [t, t2] [m, k] = (z2l P S t m k).map fun S' => .val (.tup []) S' 3 := rfl
theorem sv2 {n : Node} {a b : V} {x : Int} : qX Try.prog 3 2 (.d (.int .i64 x)) (zD n a b) = some (zD { n with links := x } a b) := by kernel_rfl
variable {t : List Node} {A B : Int → V}
theorem zqo (S0 : zA) (a m : Nat) (hT0 : Tree S0 a m A B t) (hsr : Srt t) (k0 : Nat) (hk0 : k0 < 200000) (hS : Small k0 t) (dir : Int) (hd : (getN t dir).kind = 2) (ho : Ord (getN t dir).names) (s : List UInt8) (hs : ∃ e ∈ (getN t dir).names, e.name = s) (keep : Bool) (hi : keep = false → (getN (zS t dir s) (qE (getN t dir).names s)).ino = qE (getN t dir).names s) :
  EvS cfgS 108 [.ref a 0 0, .d (.int .i64 dir), .d (.str s), .d (.bool keep)] S0 fun o S => (∃ v, o = .ret v) ∧ KeepL S0 S ∧ ∃ A' B', Tree S a m A' B' (if keep then zS t dir s else jO (zS t dir s) (qE (getN t dir).names s)) ∧ (keep = true → ∀ y, y ≠ dir → A' y = A y ∧ B' y = B y) := by
 refine wU rfl zty ?_
 show Wp cfgS (Try.f108.body.getD .skip) ((.ref a 0 0) :: (.d (.int .i64 dir)) :: (.d (.str s)) :: (.d (.bool keep)) :: uZ (uZ (uZ (uZ (uZ (uZ ((.tup []) :: (.tup []) :: (.tup []) :: (.tup []) :: (.tup []) :: (.tup []) :: (.tup []) :: (.tup []) :: (.tup []) :: []))))))) S0 [] _
 unfold uZ
 conv => arg 2; whnf
 rw [qL]
 have hdi : (getN t dir).ino = dir := jF hd
 have hln : (getN t dir).names.length < 900000 := Nat.lt_of_le_of_lt (hS.gnms dir) (by omega)
 have hln' : (getN t dir).names.length < 1000000 := by omega
 have hra := hT0.row
 have hlk := fun x => (hT0.st.look x).2
 have hT1 := hT0.keep (Keep.app (l := [Ob.row [zD (getN t dir) (A dir) (B dir)] 32]))
 have h8 : (S0 ++ [Ob.row [zD (getN t dir) (A dir) (B dir)] 32])[S0.length]? = some (.row [zD (getN t dir) (A dir) (B dir)] 32) := jC
 have hr8 := zF h8
 have hb1 := hT1.st.na dir trivial
 obtain ⟨k, hk, hf1, hf2, hf3⟩ := ze8 (i := 0) hs
 rw [Nat.zero_add] at hf1
 have hfR : vE (getN t dir) s = (((k : Nat) : Int), true) := by unfold vE; rw [hf1]
 obtain ⟨id, hix, hre, _⟩ := hb1.ix (t := 30) Try.underlying30 (by kernel_rfl) hk
 obtain ⟨va, vb, v7, S2, c, e1, e2, e4, hc, hS7, hf, hnew⟩ := zpb hb1 hk hln
 have hdrop : (getN t dir).names.filter (fun e => decide (e.name ≠ s)) = (getN t dir).names.take k ++ (getN t dir).names.drop (k + 1) := by
  have := zrt ho.nodup hk
  rw [hf3] at this
  exact this
 have hk1 : ((k : Nat) : Int) + 1 = ((k + 1 : Nat) : Int) := by omega
 have hBlt : ∀ j, idOf (B dir) = some j → j < S0.length := fun j hj => (hT0.st.na dir trivial).lt hj
 have h82 : S2[S0.length]? = some (.row [zD (getN t dir) (A dir) (B dir)] 32) := hf _ _ h8 (fun hh => by have := hBlt _ hh; omega)
 have hr82 := zF h82
 have hpr8 := fun y => qB (y := y) h82
 have hst6 := sv6 (n := getN t dir) (a := A dir) (b := B dir) (zvn hS7) hS7.cells
 have hfr' : ∀ (j : Nat) (o : Ob), S0[j]? = some o → idOf (B dir) ≠ some j → (S2.set S0.length (.row [zD (getN t dir) (A dir) v7] 32))[j]? = some o := fun j o hj hb => by
  have := qM hj
  rw [List.getElem?_set_ne (by omega)]
  exact hf j o (qS hj) hb
 have hfr : ∀ (j : Nat) (o : Ob), S0[j]? = some o → idOf (A dir) ≠ some j → idOf (B dir) ≠ some j → (S2.set S0.length (.row [zD (getN t dir) (A dir) v7] 32))[j]? = some o := fun j o hj _ hb => hfr' j o hj hb
 have h83 : (S2.set S0.length (.row [zD (getN t dir) (A dir) v7] 32))[S0.length]? = some (.row [zD (getN t dir) (A dir) v7] 32) := jL h82
 have hr83 := zF h83
 have hcell : (S2.set S0.length (.row [zD (getN t dir) (A dir) v7] 32))[a]? = some (.row [.agg [.mr m]] 127) := by
  refine hfr a _ hT0.cell (fun hh => ?_) (fun hh => ?_)
  ·obtain ⟨zs, q⟩ := (hT0.st.da dir trivial).row hh
   rw [hT0.cell] at q; cases q
  ·obtain ⟨zs, q⟩ := (hT0.st.na dir trivial).row hh
   rw [hT0.cell] at q; cases q
 have hra3 := zF hcell
 obtain ⟨o, hup, hst⟩ := hT0.st.renew (x := dir) (n := { getN t dir with names := (getN t dir).names.filter (fun e => decide (e.name ≠ s)) }) (a := A dir) (b := v7) (S' := S2.set S0.length (.row [zD (getN t dir) (A dir) v7] 32)) hsr hdi hfr
  ((hT0.st.da dir trivial).frame2 fun j o hj hi => hfr' j o hj (hT0.st.apart dir dir j hi))
  (by
   show SlE zJ _ v7 88 ((getN t dir).names.filter (fun e => decide (e.name ≠ s)))
   rw [hdrop]
   refine hS7.frame2 fun j o hj hi => ?_
   have hjn : S0.length ≠ j := by
    rcases hnew j hi with h1 | h1
    ·have := hBlt j h1; omega
    ·rw [List.length_append, List.length_singleton] at h1; omega
   rw [List.getElem?_set_ne hjn]
   exact hj)
  (fun i hi => .inl hi) (fun i hi => by
   rcases hnew i hi with h1 | h1
   ·exact .inl h1
   ·rw [List.length_append] at h1; exact .inr (by omega))
 have hup : jI Try.prog (S2.set S0.length (.row [zD (getN t dir) (A dir) v7] 32)) 125 (.mr m) (.d (.int .i64 dir)) (zD (getN t dir) (A dir) v7) = some ((S2.set S0.length (.row [zD (getN t dir) (A dir) v7] 32)).set m o) := hup
 have hst : St All ((S2.set S0.length (.row [zD (getN t dir) (A dir) v7] 32)).set m o) m (fun y => if y = dir then A dir else A y) (fun y => if y = dir then v7 else B y) (zS t dir s) := hst
 have hKL := hT0.st.keepL hfr (o := o)
 have hT4 : Tree ((S2.set S0.length (.row [zD (getN t dir) (A dir) v7] 32)).set m o) a m (fun y => if y = dir then A dir else A y) (fun y => if y = dir then v7 else B y) (zS t dir s) := ⟨by rw [List.getElem?_set_ne (Ne.symm hT0.ne)]; exact hcell, hst⟩
 have hS1 : Small (k0 + 1) (zS t dir s) := hS.drop
 have hsr1 : Srt (zS t dir s) := hsr.with
 have hc : c = 1 ∨ c = 3 := hc.elim (fun h => .inl h.1) .inr
 rcases hc with rfl | rfl
 ·simp (maxSteps:=1000000) (disch:=first|assumption|omega|rfl) only [↓gp, gc, Nat.reduceAdd, hPS, zagg, z32v, kW, kP, qF, vK, vC, hra, hlk, svz, sv, lv, zT, zQ, hr8, lv6, z0m hT1.st trivial hln', hfR, hix, hre, le1, ← hf2]
  refine vM (is := [0, 1, 2, 3, 4, 5, 6, 7, 8, 9, 10, 11]) (h := 0) (by kernel_rfl) (by kernel_rfl) ?_
  simp (maxSteps:=1000000) (disch:=first|assumption|omega|rfl) only [List.replicate_zero, eq_self, gw, ga, Nat.reduceAdd, ↓gq, hPS, List.append_nil, hr8, lv6, hk1, e1, e2, e4, Option.map_some, Option.map_none, hr82, hst6, hpr8]
  refine ⟨(zH (by kernel_rfl) (zH (by kernel_rfl) (zH (by kernel_rfl) (zH (by kernel_rfl) (zH (by kernel_rfl) qW))))), by kernel_rfl, ?_⟩
  simp (maxSteps:=1000000) (disch:=first|assumption|omega|rfl) only [↓gp, gc, Nat.reduceAdd, hPS]
  refine qT (is := [0, 1, 2, 3, 4, 5, 6]) (h := 0) (by kernel_rfl) (by kernel_rfl) ?_
  simp (maxSteps:=1000000) (disch:=first|assumption|omega|rfl) only [List.replicate_zero, eq_self, gd, ga, Nat.reduceAdd, ↓gq, hPS, List.append_nil, qK, qF, jE, vK, vC, hra3, hr83, lv, hup, Option.map_some]
  refine ⟨fun _ => by kernel_rfl, ?_⟩
  refine ⟨by kernel_rfl, ?_⟩
  revert hT4 hKL
  generalize (S2.set S0.length (.row [zD (getN t dir) (A dir) v7] 32)).set m o = S4
  intro hKL hT4
  cases keep with
  | true =>
   simp (maxSteps:=1000000) (disch:=first|assumption|omega|rfl) only [↓gp, gc, Nat.reduceAdd, hPS]
   exact ⟨rfl, _, rfl, ⟨_, rfl⟩, hKL, _, _, hT4, fun _ y hy => ⟨if_neg hy, if_neg hy⟩⟩
  | false =>
   have hi := hi rfl
   have hra4 := hT4.row
   have hlk4 := fun x => (hT4.st.look x).2
   generalize qE (getN t dir).names s = ino at *
   have hlb := hS1.glnk ino
   obtain ⟨o5, hup5, hst5⟩ := hT4.st.renew (x := ino) (n := { getN (zS t dir s) ino with links := (getN (zS t dir s) ino).links - 1 }) (a := if ino = dir then A dir else A ino) (b := if ino = dir then v7 else B ino) (S' := S4 ++ [Ob.row [zD { getN (zS t dir s) ino with links := (getN (zS t dir s) ino).links - 1 } (if ino = dir then A dir else A ino) (if ino = dir then v7 else B ino)] 32]) hsr1 hi (fun j q hj _ _ => qS hj)
    ((hT4.st.da ino trivial).keep Keep.app) ((hT4.st.na ino trivial).keep Keep.app) (fun i hi => .inl hi) (fun i hi => .inl hi)
   obtain ⟨o6, hdel, hst6⟩ := hst5.del (x := ino) (hsr1.with)
   have hmlt : m < S4.length := by obtain ⟨L, q, h1, _⟩ := hT4.st.mp; exact qM h1
   have halt := qM hT4.cell
   have hra5 : rowE (S4 ++ [Ob.row [zD { getN (zS t dir s) ino with links := (getN (zS t dir s) ino).links - 1 } (if ino = dir then A dir else A ino) (if ino = dir then v7 else B ino)] 32]) a 0 = some (.agg [.mr m]) := (z0h halt).trans hra4
   have hc5 : ((S4 ++ [Ob.row [zD { getN (zS t dir s) ino with links := (getN (zS t dir s) ino).links - 1 } (if ino = dir then A dir else A ino) (if ino = dir then v7 else B ino)] 32]).set m o5)[S4.length]? = some (.row [zD { getN (zS t dir s) ino with links := (getN (zS t dir s) ino).links - 1 } (if ino = dir then A dir else A ino) (if ino = dir then v7 else B ino)] 32) := by
    rw [List.getElem?_set_ne (by omega)]; exact jC
   have hr5 := zF hc5
   have hca : ((S4 ++ [Ob.row [zD { getN (zS t dir s) ino with links := (getN (zS t dir s) ino).links - 1 } (if ino = dir then A dir else A ino) (if ino = dir then v7 else B ino)] 32]).set m o5)[a]? = some (.row [.agg [.mr m]] 127) := by
    rw [List.getElem?_set_ne (Ne.symm hT0.ne)]; exact qS hT4.cell
   have hra6 := zF hca
   have hm5 : ∀ (S : zA) (o : Ob) (S9 : zA), (∃ q, S[m]? = some q ∧ ∀ ys e, q ≠ .row ys e) → KeepL S9 S → KeepL S9 (S.set m o) := fun S o S9 hq h j ys e h1 h2 hj => by
    have := h j ys e h1 h2 hj
    obtain ⟨q, q1, q2⟩ := hq
    have hne : m ≠ j := by rintro rfl; rw [q1] at this; cases this; exact q2 _ _ rfl
    rw [List.getElem?_set_ne hne]; exact this
   have hmp4 : ∃ q, (S4 ++ [Ob.row [zD { getN (zS t dir s) ino with links := (getN (zS t dir s) ino).links - 1 } (if ino = dir then A dir else A ino) (if ino = dir then v7 else B ino)] 32])[m]? = some q ∧ ∀ ys e, q ≠ .row ys e := by
    obtain ⟨L, q, h1, _⟩ := hT4.st.mp
    exact ⟨_, qS h1, fun ys e => by intro h; cases h⟩
   have hmp5 : ∃ q, ((S4 ++ [Ob.row [zD { getN (zS t dir s) ino with links := (getN (zS t dir s) ino).links - 1 } (if ino = dir then A dir else A ino) (if ino = dir then v7 else B ino)] 32]).set m o5)[m]? = some q ∧ ∀ ys e, q ≠ .row ys e := by
    obtain ⟨L, q, h1, _⟩ := hst5.mp
    exact ⟨_, h1, fun ys e => by intro h; cases h⟩
   have hK5 := hm5 _ o5 _ hmp4 (hKL.trans (Keep.app (l := [Ob.row [zD { getN (zS t dir s) ino with links := (getN (zS t dir s) ino).links - 1 } (if ino = dir then A dir else A ino) (if ino = dir then v7 else B ino)] 32])).toL)
   simp (maxSteps:=1000000) (disch:=first|assumption|omega|rfl) only [↓gp, gc, Nat.reduceAdd, hPS, zagg, z32v, kW, qF, vK, vC, hra4, hlk4, svz, sv, lv, lv2, sv2, zT, zQ]
   refine qT (is := [0, 1, 2, 3, 4, 5, 6]) (h := 0) (by kernel_rfl) (by kernel_rfl) ?_
   simp (maxSteps:=1000000) (disch:=first|assumption|omega|rfl) only [List.replicate_zero, eq_self, gd, ga, Nat.reduceAdd, ↓gq, hPS, List.append_nil, qK, qF, jE, vK, vC, hra5, zT, lv, hup5, Option.map_some]
   refine ⟨fun _ => by kernel_rfl, ?_⟩
   refine ⟨by kernel_rfl, ?_⟩
   by_cases hl1 : (getN (zS t dir s) ino).links - 1 < 1
   ·have e : jO (zS t dir s) ino = (qR (zS t dir s) { getN (zS t dir s) ino with links := (getN (zS t dir s) ino).links - 1 }).filter (fun n => n.ino ≠ ino) := by
     have := z9v (n := { getN (zS t dir s) ino with links := (getN (zS t dir s) ino).links - 1 }) (t := zS t dir s)
     rw [show ({ getN (zS t dir s) ino with links := (getN (zS t dir s) ino).links - 1 } : Node).ino = ino from hi] at this
     unfold jO
     rw [if_pos hl1]
     exact this.symm
    simp (maxSteps:=1000000) (disch:=first|assumption|omega|rfl) only [↓gp, gc, Nat.reduceAdd, hPS, qF, vK, vC, hra6, hr5, lv2, zdu, hdel]
    rw [← e] at hst6
    exact ⟨rfl, _, rfl, ⟨_, rfl⟩, hm5 _ o6 _ hmp5 hK5, _, _, (⟨by rw [List.getElem?_set_ne (Ne.symm hT0.ne)]; exact hca, hst6⟩ : Tree _ a m _ _ _), fun h => by cases h⟩
   ·have e : jO (zS t dir s) ino = qR (zS t dir s) { getN (zS t dir s) ino with links := (getN (zS t dir s) ino).links - 1 } := by
     unfold jO
     rw [if_neg hl1]
    simp (maxSteps:=1000000) (disch:=first|assumption|omega|rfl) only [↓gp, gc, Nat.reduceAdd, hPS, qF, vK, vC, hra6, hr5, lv2]
    rw [← e] at hst5
    exact ⟨rfl, _, rfl, ⟨_, rfl⟩, hK5, _, _, (⟨hca, hst5⟩ : Tree _ a m _ _ _), fun h => by cases h⟩
 ·simp (maxSteps:=1000000) (disch:=first|assumption|omega|rfl) only [↓gp, gc, Nat.reduceAdd, hPS, zagg, z32v, kW, kP, qF, vK, vC, hra, hlk, svz, sv, lv, zT, zQ, hr8, lv6, z0m hT1.st trivial hln', hfR, hix, hre, le1, ← hf2]
  refine vM (is := [0, 1, 2, 3, 4, 5, 6, 7, 8, 9, 10, 11]) (h := 0) (by kernel_rfl) (by kernel_rfl) ?_
  simp (maxSteps:=1000000) (disch:=first|assumption|omega|rfl) only [List.replicate_zero, eq_self, gw, ga, Nat.reduceAdd, ↓gq, hPS, List.append_nil, hr8, lv6, hk1, e1, e2, e4, Option.map_some, Option.map_none, hr82, hst6, hpr8]
  refine ⟨(zH (by kernel_rfl) (zH (by kernel_rfl) (zH (by kernel_rfl) (zH (by kernel_rfl) qW)))), (zH (by kernel_rfl) (zH (by kernel_rfl) (zH (by kernel_rfl) (zH (by kernel_rfl) qW)))), by kernel_rfl, ?_⟩
  simp (maxSteps:=1000000) (disch:=first|assumption|omega|rfl) only [↓gp, gc, Nat.reduceAdd, hPS]
  refine qT (is := [0, 1, 2, 3, 4, 5, 6]) (h := 0) (by kernel_rfl) (by kernel_rfl) ?_
  simp (maxSteps:=1000000) (disch:=first|assumption|omega|rfl) only [List.replicate_zero, eq_self, gd, ga, Nat.reduceAdd, ↓gq, hPS, List.append_nil, qK, qF, jE, vK, vC, hra3, hr83, lv, hup, Option.map_some]
  refine ⟨fun _ => by kernel_rfl, ?_⟩
  refine ⟨by kernel_rfl, ?_⟩
  revert hT4 hKL
  generalize (S2.set S0.length (.row [zD (getN t dir) (A dir) v7] 32)).set m o = S4
  intro hKL hT4
  cases keep with
  | true =>
   simp (maxSteps:=1000000) (disch:=first|assumption|omega|rfl) only [↓gp, gc, Nat.reduceAdd, hPS]
   exact ⟨rfl, _, rfl, ⟨_, rfl⟩, hKL, _, _, hT4, fun _ y hy => ⟨if_neg hy, if_neg hy⟩⟩
  | false =>
   have hi := hi rfl
   have hra4 := hT4.row
   have hlk4 := fun x => (hT4.st.look x).2
   generalize qE (getN t dir).names s = ino at *
   have hlb := hS1.glnk ino
   obtain ⟨o5, hup5, hst5⟩ := hT4.st.renew (x := ino) (n := { getN (zS t dir s) ino with links := (getN (zS t dir s) ino).links - 1 }) (a := if ino = dir then A dir else A ino) (b := if ino = dir then v7 else B ino) (S' := S4 ++ [Ob.row [zD { getN (zS t dir s) ino with links := (getN (zS t dir s) ino).links - 1 } (if ino = dir then A dir else A ino) (if ino = dir then v7 else B ino)] 32]) hsr1 hi (fun j q hj _ _ => qS hj)
    ((hT4.st.da ino trivial).keep Keep.app) ((hT4.st.na ino trivial).keep Keep.app) (fun i hi => .inl hi) (fun i hi => .inl hi)
   obtain ⟨o6, hdel, hst6⟩ := hst5.del (x := ino) (hsr1.with)
   have hmlt : m < S4.length := by obtain ⟨L, q, h1, _⟩ := hT4.st.mp; exact qM h1
   have halt := qM hT4.cell
   have hra5 : rowE (S4 ++ [Ob.row [zD { getN (zS t dir s) ino with links := (getN (zS t dir s) ino).links - 1 } (if ino = dir then A dir else A ino) (if ino = dir then v7 else B ino)] 32]) a 0 = some (.agg [.mr m]) := (z0h halt).trans hra4
   have hc5 : ((S4 ++ [Ob.row [zD { getN (zS t dir s) ino with links := (getN (zS t dir s) ino).links - 1 } (if ino = dir then A dir else A ino) (if ino = dir then v7 else B ino)] 32]).set m o5)[S4.length]? = some (.row [zD { getN (zS t dir s) ino with links := (getN (zS t dir s) ino).links - 1 } (if ino = dir then A dir else A ino) (if ino = dir then v7 else B ino)] 32) := by
    rw [List.getElem?_set_ne (by omega)]; exact jC
   have hr5 := zF hc5
   have hca : ((S4 ++ [Ob.row [zD { getN (zS t dir s) ino with links := (getN (zS t dir s) ino).links - 1 } (if ino = dir then A dir else A ino) (if ino = dir then v7 else B ino)] 32]).set m o5)[a]? = some (.row [.agg [.mr m]] 127) := by
    rw [List.getElem?_set_ne (Ne.symm hT0.ne)]; exact qS hT4.cell
   have hra6 := zF hca
   have hm5 : ∀ (S : zA) (o : Ob) (S9 : zA), (∃ q, S[m]? = some q ∧ ∀ ys e, q ≠ .row ys e) → KeepL S9 S → KeepL S9 (S.set m o) := fun S o S9 hq h j ys e h1 h2 hj => by
    have := h j ys e h1 h2 hj
    obtain ⟨q, q1, q2⟩ := hq
    have hne : m ≠ j := by rintro rfl; rw [q1] at this; cases this; exact q2 _ _ rfl
    rw [List.getElem?_set_ne hne]; exact this
   have hmp4 : ∃ q, (S4 ++ [Ob.row [zD { getN (zS t dir s) ino with links := (getN (zS t dir s) ino).links - 1 } (if ino = dir then A dir else A ino) (if ino = dir then v7 else B ino)] 32])[m]? = some q ∧ ∀ ys e, q ≠ .row ys e := by
    obtain ⟨L, q, h1, _⟩ := hT4.st.mp
    exact ⟨_, qS h1, fun ys e => by intro h; cases h⟩
   have hmp5 : ∃ q, ((S4 ++ [Ob.row [zD { getN (zS t dir s) ino with links := (getN (zS t dir s) ino).links - 1 } (if ino = dir then A dir else A ino) (if ino = dir then v7 else B ino)] 32]).set m o5)[m]? = some q ∧ ∀ ys e, q ≠ .row ys e := by
    obtain ⟨L, q, h1, _⟩ := hst5.mp
    exact ⟨_, h1, fun ys e => by intro h; cases h⟩
   have hK5 := hm5 _ o5 _ hmp4 (hKL.trans (Keep.app (l := [Ob.row [zD { getN (zS t dir s) ino with links := (getN (zS t dir s) ino).links - 1 } (if ino = dir then A dir else A ino) (if ino = dir then v7 else B ino)] 32])).toL)
   simp (maxSteps:=1000000) (disch:=first|assumption|omega|rfl) only [↓gp, gc, Nat.reduceAdd, hPS, zagg, z32v, kW, qF, vK, vC, hra4, hlk4, svz, sv, lv, lv2, sv2, zT, zQ]
   refine qT (is := [0, 1, 2, 3, 4, 5, 6]) (h := 0) (by kernel_rfl) (by kernel_rfl) ?_
   simp (maxSteps:=1000000) (disch:=first|assumption|omega|rfl) only [List.replicate_zero, eq_self, gd, ga, Nat.reduceAdd, ↓gq, hPS, List.append_nil, qK, qF, jE, vK, vC, hra5, zT, lv, hup5, Option.map_some]
   refine ⟨fun _ => by kernel_rfl, ?_⟩
   refine ⟨by kernel_rfl, ?_⟩
   by_cases hl1 : (getN (zS t dir s) ino).links - 1 < 1
   ·have e : jO (zS t dir s) ino = (qR (zS t dir s) { getN (zS t dir s) ino with links := (getN (zS t dir s) ino).links - 1 }).filter (fun n => n.ino ≠ ino) := by
     have := z9v (n := { getN (zS t dir s) ino with links := (getN (zS t dir s) ino).links - 1 }) (t := zS t dir s)
     rw [show ({ getN (zS t dir s) ino with links := (getN (zS t dir s) ino).links - 1 } : Node).ino = ino from hi] at this
     unfold jO
     rw [if_pos hl1]
     exact this.symm
    simp (maxSteps:=1000000) (disch:=first|assumption|omega|rfl) only [↓gp, gc, Nat.reduceAdd, hPS, qF, vK, vC, hra6, hr5, lv2, zdu, hdel]
    rw [← e] at hst6
    exact ⟨rfl, _, rfl, ⟨_, rfl⟩, hm5 _ o6 _ hmp5 hK5, _, _, (⟨by rw [List.getElem?_set_ne (Ne.symm hT0.ne)]; exact hca, hst6⟩ : Tree _ a m _ _ _), fun h => by cases h⟩
   ·have e : jO (zS t dir s) ino = qR (zS t dir s) { getN (zS t dir s) ino with links := (getN (zS t dir s) ino).links - 1 } := by
     unfold jO
     rw [if_neg hl1]
    simp (maxSteps:=1000000) (disch:=first|assumption|omega|rfl) only [↓gp, gc, Nat.reduceAdd, hPS, qF, vK, vC, hra6, hr5, lv2]
    rw [← e] at hst5
    exact ⟨rfl, _, rfl, ⟨_, rfl⟩, hK5, _, _, (⟨hca, hst5⟩ : Tree _ a m _ _ _), fun h => by cases h⟩
theorem zv4 (S0 : zA) (a m : Nat) (hT0 : Tree S0 a m A B t) (hsr : Srt t) (k0 : Nat) (hk0 : k0 < 200000) (hS : Small k0 t) (dir : Int) (hd : (getN t dir).kind = 2) (ho : Ord (getN t dir).names) (s : List UInt8) (hs : ∃ e ∈ (getN t dir).names, e.name = s) (keep : Bool) (hi : keep = false → (getN (zS t dir s) (qE (getN t dir).names s)).ino = qE (getN t dir).names s) :
  EvS cfgS 108 [.ref a 0 0, .d (.int .i64 dir), .d (.str s), .d (.bool keep)] S0 fun o S => (∃ v, o = .ret v) ∧ KeepL S0 S ∧ ∃ A' B', Tree S a m A' B' (if keep then zS t dir s else jO (zS t dir s) (qE (getN t dir).names s)) :=
 EvS.weak (zqo S0 a m hT0 hsr k0 hk0 hS dir hd ho s hs keep hi) fun o S ⟨h1, h2, A', B', h3, _⟩ => ⟨h1, h2, A', B', h3⟩
end Go.Proofs.Ytghllhghboaagaa
end
section
namespace Go.Proofs.Ytghllhghboaagaa
open Go.Vm
def ansV (x : Ans) (v5 v6 : V) : V := .agg [.d (.int .i64 x.err), .d (.int .i64 x.ino), .d (.int .i64 x.kind), .d (.int .i64 x.links), .d (.int .i64 x.size), v5, v6]
section
variable {x : Ans} {v5 v6 v : V} {n : Node} {a b : V} {y : Int}
theorem av1 : qX Try.prog 3 1 (.d (.int .i64 y)) (ansV x v5 v6) = some (ansV { x with ino := y } v5 v6) := by kernel_rfl
theorem sv1 : qX Try.prog 3 1 (.d (.int .i64 y)) (zD n a b) = some (zD { n with kind := y } a b) := by kernel_rfl
theorem sv3 : qX Try.prog 3 3 (.d (.int .i64 y)) (zD n a b) = some (zD { n with parent := y } a b) := by kernel_rfl
theorem bdn {y : Int} : z05 Try.prog 32 [(0, .d (.int .i64 y)), (1, .d (.int .i64 1)), (2, .d (.int .i64 1))] = some (zD ⟨y, 1, 1, 0, 0, [], []⟩ (.ts []) (.ts [])) := by kernel_rfl
end
abbrev encS (s : List UInt8) : D := .str s
def KeepR (r : Nat) (S S' : zA) : Prop := ∀ (j : Nat) (ys : List V) (e : TypeId), (e = 94 ∨ e = 44) → j ≠ r → S[j]? = some (.row ys e) → S'[j]? = some (.row ys e)
theorem Keep.toR {r : Nat} {S S' : zA} (h : Keep S S') : KeepR r S S' := fun j ys e _ _ hj => h j _ hj
theorem KeepL.toR {r : Nat} {S S' : zA} (h : KeepL S S') : KeepR r S S' := fun j ys e he _ hj => h j _ _ (by rcases he with rfl | rfl <;> decide) (by rcases he with rfl | rfl <;> decide) hj
theorem KeepR.refl {r : Nat} {S : zA} : KeepR r S S := fun _ _ _ _ _ h => h
theorem KeepR.trans {r : Nat} {S S' S'' : zA} (h : KeepR r S S') (h' : KeepR r S' S'') : KeepR r S S'' := fun j ys e he hn hj => h' j ys e he hn (h j ys e he hn hj)
theorem KeepR.setR {r : Nat} {S S' : zA} {o : Ob} (h : KeepR r S S') : KeepR r S (S'.set r o) := fun j zs e he hn hj => by
 rw [List.getElem?_set_ne (Ne.symm hn)]
 exact h j zs e he hn hj
theorem KeepR.setO {r i : Nat} {S S' : zA} {ys : List V} {e : TypeId} {o : Ob} (h : KeepR r S S') (hr : S'[i]? = some (.row ys e)) (he : e ≠ 94 ∧ e ≠ 44) : KeepR r S (S'.set i o) := fun j zs e' he' hn hj => by
 have h1 := h j zs e' he' hn hj
 rw [List.getElem?_set_ne]
 ·exact h1
 ·rintro rfl
  rw [hr] at h1
  simp only [Option.some.injEq, Ob.row.injEq] at h1
  rcases he' with rfl | rfl
  ·exact he.1 h1.2
  ·exact he.2 h1.2
def Res (S0 : zA) (a m r : Nat) (q : List Node × Ans) : Out → zA → Prop := fun o S => if q.2.err = 0 then (∃ v, o = .ret v) ∧ (∃ A' B' v5 v6, Tree S a m A' B' q.1 ∧ S[r]? = some (.row [ansV q.2 v5 v6] 44) ∧ srcV Try.prog S 5 29 v5 = some (q.2.data.map fun b => .d (encU b)) ∧ SlE encS S v6 9 q.2.names) ∧ KeepR r S0 S else o = panD q.2.err ∧ Keep S0 S
theorem Res.fail {S0 : zA} {a m r : Nat} {t : List Node} {e : Int} (he : e ≠ 0) {S : zA} (hk : Keep S0 S) : Res S0 a m r (t, qV e) (panD e) S := by
 unfold Res
 rw [if_neg (show ¬ (qV e).err = 0 from he)]
 exact ⟨rfl, hk⟩
theorem Res.done {S0 : zA} {a m r : Nat} {q : List Node × Ans} {S : zA} {v : V} {A' B' : Int → V} {v5 v6 : V} (h0 : q.2.err = 0) (hT : Tree S a m A' B' q.1) (hr : S[r]? = some (.row [ansV q.2 v5 v6] 44)) (h5 : srcV Try.prog S 5 29 v5 = some (q.2.data.map fun b => .d (encU b))) (h6 : SlE encS S v6 9 q.2.names) (hk : KeepR r S0 S) : Res S0 a m r q (.ret v) S := by
 unfold Res
 rw [if_pos h0]
 exact ⟨⟨_, rfl⟩, ⟨A', B', v5, v6, hT, hr, h5, h6⟩, hk⟩
theorem vZ {S : zA} : srcV Try.prog S 5 29 (.ts []) = some [] := by kernel_rfl
structure Good (k0 : Nat) (t : List Node) : Prop where
 sm : Small k0 t
 lj : LJ t (fun _ => 0)
 ti : TInv t 1
theorem Good.told {k0 : Nat} {t : List Node} (h : Good k0 t) : Told t := h.lj.toTold h.ti
section
variable {S : zA} {a m r : Nat} {A B : Int → V} {t : List Node}
theorem Tree.other {o : Ob} {ys : List V} {e : TypeId} (h : Tree S a m A B t) (hr : S[r]? = some (.row ys e)) (h1 : e ≠ 5) (h2 : e ≠ 88) (h3 : e ≠ 127) : Tree (S.set r o) a m A B t := by
 have hra : r ≠ a := by rintro rfl; rw [h.cell] at hr; cases hr; exact h3 rfl
 obtain ⟨L, c, hm, hrest⟩ := h.st.mp
 have hrm : r ≠ m := by rintro rfl; rw [hm] at hr; cases hr
 have hf : ∀ (j : Nat) (q : Ob), r ≠ j → S[j]? = some q → (S.set r o)[j]? = some q := fun j q hj hq => by rw [List.getElem?_set_ne hj]; exact hq
 refine ⟨hf _ _ hra h.cell, ⟨L, c, hf _ _ hrm hm, hrest⟩, fun x hx => (h.st.da x hx).frame2 fun j q hq hi => hf j q ?_ hq, fun x hx => (h.st.na x hx).frame2 fun j q hq hi => hf j q ?_ hq, h.st.z, h.st.sa, h.st.sb⟩
 ·rintro rfl
  obtain ⟨zs, q⟩ := (h.st.da x hx).row hi
  rw [hr] at q; cases q; exact h1 rfl
 ·rintro rfl
  obtain ⟨zs, q⟩ := (h.st.na x hx).row hi
  rw [hr] at q; cases q; exact h2 rfl
end
theorem zans : V.agg [.d (.int .i64 0), .d (.int .i64 0), .d (.int .i64 0), .d (.int .i64 0), .d (.int .i64 0), .ts [], .ts []] = ansV okN (.ts []) (.ts []) := rfl
theorem vS {x : Int} : z3q (.d (.int .i64 x)) (.d (.int .i64 x)) = true := by simp [z3q, wP, wQ, z50, kO]
theorem znr (S0 : zA) (a m r : Nat) (A B : Int → V) (t : List Node) (hT0 : Tree S0 a m A B t) (k0 : Nat) (hk0 : k0 < 200000) (hG : Good k0 t) (o : Opn) (hl : o.a.length < 900000) (hr : S0[r]? = some (.row [ansV okN (.ts []) (.ts [])] 44)) :
  EvS cfgS 76 [.ref a 0 0, .d (encOpn o), .ref r 0 0] S0 (Res S0 a m r (z17 t o)) := by
 have hk1 : k0 < 300000 := by omega
 refine wU rfl zyw ?_
 show Wp cfgS (Try.f76.body.getD .skip) ((.ref a 0 0) :: (.d (encOpn o)) :: (.ref r 0 0) :: uZ (uZ (uZ (uZ (uZ ((.tup []) :: (.tup []) :: [])))))) S0 [] _
 unfold uZ
 conv => arg 2; whnf
 rw [qL]
 have hT1 := hT0.keep (Keep.app (l := [Ob.row [.d (encOpn o)] 48]))
 have hlt : t.length < 400000 := Nat.lt_of_le_of_lt hG.sm.len (by omega)
 simp (maxSteps:=1000000) (disch:=first|assumption|omega|rfl) only [↓gp, gc, Nat.reduceAdd, hPS, zT]
 generalize hq : z17 t o = q
 unfold z17 at hq
 refine z6j rfl (zfh _ a m hT1 hG.told k0 hk1 hG.sm o.a hl) ?_ ?_
 ·intro h0 S1 hK1
  rw [if_neg (by simp [h0])] at hq
  have hd := jP h0
  have hK01 := Keep.app.trans hK1
  have h4 := hK1 _ _ (jC (S := S0) (o := Ob.row [.d (encOpn o)] 48))
  have hT2 := hT0.keep (hK01.trans (Keep.app (l := [Ob.row [zD (getN t (zI t o.a).1) (A (zI t o.a).1) (B (zI t o.a).1)] 32])))
  have hgn : (getN t (zI t o.a).1).names.length < 1000000 := Nat.lt_of_le_of_lt (hG.sm.gnms _) (by omega)
  have hN : qA t o = if o.does = 2 then ⟨jB t, 2, 1, (zI t o.a).1, 0, [], []⟩ else ⟨jB t, 1, 1, 0, 0, [], []⟩ := rfl
  generalize hw : zI t o.a = w at *
  obtain ⟨d, s, e⟩ := w
  simp only at hq hd hT2 hgn h0 hN
  rcases z02 (s := s) (l := (getN t d).names) (i := 0) with ⟨f1, f2⟩ | ⟨j, hj, f1, f2⟩
  ·have hf : vE (getN t d) s = (0, false) := by unfold vE; rw [f1]
   rw [if_neg (by rw [f2]; omega)] at hq
   subst hq
   simp (maxSteps:=1000000) (disch:=first|assumption|omega|rfl) only [↓gp, gc, Nat.reduceAdd, hPS, zagg, z32v, kW, kP, svz, sv, lv, zT, zQ, z0m hT2.st trivial hgn, hf, jK]
   refine jG rfl (q16 _ a m hT2 hlt) ?_ ?_
   ·rintro v S2 ⟨hK2, hv⟩
    cases hv
    have h42 := hK2 _ _ (qS (l := [Ob.row [zD (getN t d) (A d) (B d)] 32]) h4)
    have h62 := hK2 _ _ (jC (S := S1) (o := Ob.row [zD (getN t d) (A d) (B d)] 32))
    have hr2 := hK2 _ _ (qS (l := [Ob.row [zD (getN t d) (A d) (B d)] 32]) (hK01 _ _ hr))
    have hT3 := hT2.keep hK2
    have hr42 : ∀ l, rowE (S2 ++ l) S0.length 0 = some (.d (encOpn o)) := fun l => (z0h (qM h42)).trans (zF h42)
    have hr62 : ∀ l, rowE (S2 ++ l) S1.length 0 = some (zD (getN t d) (A d) (B d)) := fun l => (z0h (qM h62)).trans (zF h62)
    obtain ⟨hn1, hn2, _⟩ := z1q t
    have hz : getN t (jB t) = zN := z1x hn1
    have hnd : d ≠ jB t := fun hh => by rw [hh, hz] at hd; simp [zN] at hd
    have hmi : (qA t o).ino = jB t := by unfold qA; split <;> rfl
    have hg4 : getN (qR t (qA t o)) d = getN t d := by
     rw [jA hG.lj.srt.uniq]
     unfold upd
     rw [hmi, if_neg hnd]
    have hsr4 : Srt (qR t (qA t o)) := hG.lj.srt.with
    have hS4 : Small (k0 + 1) (qR t (qA t o)) := hG.sm.with (by unfold qA; split <;> exact ⟨by simp, by simp, by simp; omega, by simp⟩)
    have hdi4 : (getN (qR t (qA t o)) d).ino = d := by rw [hg4]; exact jF hd
    have ho4 : Ord (getN (qR t (qA t o)) d).names := by rw [hg4]; exact hG.lj.nod d
    by_cases hdo : o.does = 2
    ·simp (maxSteps:=1000000) (disch:=first|assumption|omega|rfl) only [↓gp, gc, Nat.reduceAdd, hPS, kP, bdn, svz, sv, lv, zT, zQ, hr42]
     have hld : ∀ l, jZ Try.prog (S2 ++ l) 3 (.ref S1.length 0 0) = some (.d (.int .i64 d)) := fun l => (jU (hr62 l)).trans (by rw [lv0, jF hd])
     refine vM (is := [0, 1, 2, 3, 4, 5]) (h := 0) (by kernel_rfl) (by kernel_rfl) ?_
     simp (maxSteps:=1000000) (disch:=first|assumption|omega|rfl) only [List.replicate_zero, eq_self, gw, ga, Nat.reduceAdd, ↓gq, hPS, List.append_nil, zT, zQ, hr62, lv0, jF hd, sv1, sv3]
     refine ⟨jV rfl (by kernel_rfl) rfl ?_ vS qW, zH (by kernel_rfl) qW, by kernel_rfl, ?_⟩
     ·exact (show _ = (jZ Try.prog _ 3 (.ref S1.length 0 0)).map (fun v => Rs.val v _ 1) from rfl).trans (by rw [hld]; rfl)
     simp (maxSteps:=1000000) (disch:=first|assumption|omega|rfl) only [↓gp, gc, Nat.reduceAdd, hPS]
     have hmN : ⟨jB t, 2, 1, d, 0, [], []⟩ = qA t o := by rw [hN]; rw [if_pos hdo]
     obtain ⟨o7, hup, hst⟩ := hT3.st.renew (x := jB t) (n := ⟨jB t, 2, 1, d, 0, [], []⟩) (a := .ts []) (b := .ts []) (S' := S2 ++ [Ob.row [zD ⟨jB t, 2, 1, d, 0, [], []⟩ (.ts []) (.ts [])] 32]) hG.lj.srt rfl (fun j q hj _ _ => qS hj) (.inl ⟨rfl, rfl⟩) (.inl ⟨rfl, rfl⟩) (fun i hi => by cases hi) (fun i hi => by cases hi)
     have hKL := hT3.st.keepL (x := jB t) (S' := S2 ++ [Ob.row [zD ⟨jB t, 2, 1, d, 0, [], []⟩ (.ts []) (.ts [])] 32]) (o := o7) (fun j q hj _ _ => qS hj)
     have hra3 : rowE (S2 ++ [Ob.row [zD ⟨jB t, 2, 1, d, 0, [], []⟩ (.ts []) (.ts [])] 32]) a 0 = some (.agg [.mr m]) := (z0h (qM hT3.cell)).trans hT3.row
     have hmlt : m < S2.length := by obtain ⟨L, q, h1, _⟩ := hT3.st.mp; exact qM h1
     have hT4 : Tree ((S2 ++ [Ob.row [zD ⟨jB t, 2, 1, d, 0, [], []⟩ (.ts []) (.ts [])] 32]).set m o7) a m (fun y => if y = jB t then .ts [] else A y) (fun y => if y = jB t then .ts [] else B y) (qR t ⟨jB t, 2, 1, d, 0, [], []⟩) := ⟨by rw [List.getElem?_set_ne (Ne.symm hT3.ne)]; exact qS hT3.cell, hst⟩
     have hN4 : ((S2 ++ [Ob.row [zD ⟨jB t, 2, 1, d, 0, [], []⟩ (.ts []) (.ts [])] 32]).set m o7)[S2.length]? = some (.row [zD ⟨jB t, 2, 1, d, 0, [], []⟩ (.ts []) (.ts [])] 32) := by rw [List.getElem?_set_ne (by omega)]; exact jC
     have h64 := hKL _ _ _ (by decide) (by decide) h62
     have hr4' := hKL _ _ _ (by decide) (by decide) hr2
     refine qT (is := [0, 1, 2, 3, 4, 5, 6, 7]) (h := 0) (by kernel_rfl) (by kernel_rfl) ?_
     simp (maxSteps:=1000000) (disch:=first|assumption|omega|rfl) only [List.replicate_zero, eq_self, gd, ga, Nat.reduceAdd, ↓gq, hPS, List.append_nil, qK, qF, jE, vK, vC, hra3, zT, lv, lv0, hup, Option.map_some]
     refine ⟨fun _ => by kernel_rfl, ?_⟩
     refine ⟨by kernel_rfl, ?_⟩
     generalize (S2 ++ [Ob.row [zD ⟨jB t, 2, 1, d, 0, [], []⟩ (.ts []) (.ts [])] 32]).set m o7 = S4 at *
     rw [hmN] at hT4
     have hr64 := zF h64
     have hrN4 := zF hN4
     simp (maxSteps:=1000000) (disch:=first|assumption|omega|rfl) only [↓gp, gc, Nat.reduceAdd, hPS, hr64, hrN4, lv0, jF hd]
     refine jG rfl (putM _ a m hT4 hsr4 (k0 + 1) (by omega) hS4 d hdi4 ho4 s (jB t)) ?_ ?_
     ·rintro v S5 ⟨_, hK5, A5, B5, hT5⟩
      have hN5 := hK5 _ _ _ (by decide) (by decide) hN4
      have hr5 := hK5 _ _ _ (by decide) (by decide) hr4'
      have hrN5 := zF hN5
      have hrr5 := zF hr5
      have hpr5 := fun y => qB (y := y) hr5
      simp (maxSteps:=1000000) (disch:=first|assumption|omega|rfl) only [↓gp, gc, Nat.reduceAdd, hPS, qF, hrN5, hrr5, hpr5, lv0, av1]
      exact ⟨rfl, _, rfl, Res.done (v5 := .ts []) (v6 := .ts []) rfl (hT5.other hr5 (by decide) (by decide) (by decide)) (jL hr5) vZ (.inl ⟨rfl, rfl⟩) (((((hK01.trans Keep.app).trans hK2).toR.trans hKL.toR).trans hK5.toR).setR)⟩
     ·rintro v S5 ⟨⟨w, hv⟩, _⟩
      cases hv
    ·simp (maxSteps:=1000000) (disch:=first|assumption|omega|rfl) only [↓gp, gc, Nat.reduceAdd, hPS, kP, bdn, svz, sv, lv, zT, zQ, hr42]
     have hmN : ⟨jB t, 1, 1, 0, 0, [], []⟩ = qA t o := by rw [hN]; rw [if_neg hdo]
     obtain ⟨o7, hup, hst⟩ := hT3.st.renew (x := jB t) (n := ⟨jB t, 1, 1, 0, 0, [], []⟩) (a := .ts []) (b := .ts []) (S' := S2 ++ [Ob.row [zD ⟨jB t, 1, 1, 0, 0, [], []⟩ (.ts []) (.ts [])] 32]) hG.lj.srt rfl (fun j q hj _ _ => qS hj) (.inl ⟨rfl, rfl⟩) (.inl ⟨rfl, rfl⟩) (fun i hi => by cases hi) (fun i hi => by cases hi)
     have hKL := hT3.st.keepL (x := jB t) (S' := S2 ++ [Ob.row [zD ⟨jB t, 1, 1, 0, 0, [], []⟩ (.ts []) (.ts [])] 32]) (o := o7) (fun j q hj _ _ => qS hj)
     have hra3 : rowE (S2 ++ [Ob.row [zD ⟨jB t, 1, 1, 0, 0, [], []⟩ (.ts []) (.ts [])] 32]) a 0 = some (.agg [.mr m]) := (z0h (qM hT3.cell)).trans hT3.row
     have hmlt : m < S2.length := by obtain ⟨L, q, h1, _⟩ := hT3.st.mp; exact qM h1
     have hT4 : Tree ((S2 ++ [Ob.row [zD ⟨jB t, 1, 1, 0, 0, [], []⟩ (.ts []) (.ts [])] 32]).set m o7) a m (fun y => if y = jB t then .ts [] else A y) (fun y => if y = jB t then .ts [] else B y) (qR t ⟨jB t, 1, 1, 0, 0, [], []⟩) := ⟨by rw [List.getElem?_set_ne (Ne.symm hT3.ne)]; exact qS hT3.cell, hst⟩
     have hN4 : ((S2 ++ [Ob.row [zD ⟨jB t, 1, 1, 0, 0, [], []⟩ (.ts []) (.ts [])] 32]).set m o7)[S2.length]? = some (.row [zD ⟨jB t, 1, 1, 0, 0, [], []⟩ (.ts []) (.ts [])] 32) := by rw [List.getElem?_set_ne (by omega)]; exact jC
     have h64 := hKL _ _ _ (by decide) (by decide) h62
     have hr4' := hKL _ _ _ (by decide) (by decide) hr2
     refine qT (is := [0, 1, 2, 3, 4, 5, 6, 7]) (h := 0) (by kernel_rfl) (by kernel_rfl) ?_
     simp (maxSteps:=1000000) (disch:=first|assumption|omega|rfl) only [List.replicate_zero, eq_self, gd, ga, Nat.reduceAdd, ↓gq, hPS, List.append_nil, qK, qF, jE, vK, vC, hra3, zT, lv, lv0, hup, Option.map_some]
     refine ⟨fun _ => by kernel_rfl, ?_⟩
     refine ⟨by kernel_rfl, ?_⟩
     generalize (S2 ++ [Ob.row [zD ⟨jB t, 1, 1, 0, 0, [], []⟩ (.ts []) (.ts [])] 32]).set m o7 = S4 at *
     rw [hmN] at hT4
     have hr64 := zF h64
     have hrN4 := zF hN4
     simp (maxSteps:=1000000) (disch:=first|assumption|omega|rfl) only [↓gp, gc, Nat.reduceAdd, hPS, hr64, hrN4, lv0, jF hd]
     refine jG rfl (putM _ a m hT4 hsr4 (k0 + 1) (by omega) hS4 d hdi4 ho4 s (jB t)) ?_ ?_
     ·rintro v S5 ⟨_, hK5, A5, B5, hT5⟩
      have hN5 := hK5 _ _ _ (by decide) (by decide) hN4
      have hr5 := hK5 _ _ _ (by decide) (by decide) hr4'
      have hrN5 := zF hN5
      have hrr5 := zF hr5
      have hpr5 := fun y => qB (y := y) hr5
      simp (maxSteps:=1000000) (disch:=first|assumption|omega|rfl) only [↓gp, gc, Nat.reduceAdd, hPS, qF, hrN5, hrr5, hpr5, lv0, av1]
      exact ⟨rfl, _, rfl, Res.done (v5 := .ts []) (v6 := .ts []) rfl (hT5.other hr5 (by decide) (by decide) (by decide)) (jL hr5) vZ (.inl ⟨rfl, rfl⟩) (((((hK01.trans Keep.app).trans hK2).toR.trans hKL.toR).trans hK5.toR).setR)⟩
     ·rintro v S5 ⟨⟨w, hv⟩, _⟩
      cases hv
   ·rintro v S2 ⟨_, hv⟩
    cases hv
  ·rw [Nat.zero_add] at f1
   have hf : vE (getN t d) s = (((j : Nat) : Int), true) := by unfold vE; rw [f1]
   have hge := hG.ti.inv.ge2 d _ (List.getElem_mem hj)
   rw [if_pos (by rw [f2]; omega)] at hq
   subst hq
   have h5 : (5 : Int) ≠ 0 := by omega
   simp (maxSteps:=1000000) (disch:=first|assumption|omega|rfl) only [↓gp, gc, Nat.reduceAdd, hPS, zagg, z32v, kW, kP, svz, sv, lv, zT, zQ, z0m hT2.st trivial hgn, hf, kB h5]
   exact ⟨rfl, Res.fail h5 (hK01.trans Keep.app)⟩
 ·intro h0 S1 hK1
  rw [if_pos h0] at hq
  subst hq
  exact ⟨rfl, Res.fail h0 (Keep.app.trans hK1)⟩
theorem zcw {ops : Array Oper} {dst : Option Tmp} {l : List Oper} {T : List V} {S : zA} {F : Dfs} {Q : Post} {a m : Nat} {t : List Node} {A B : Int → V} (hT0 : Tree S a m A B t) (hT : Told t) {k0 : Nat} (hk0 : k0 < 300000) (hS : Small k0 t) {s : List UInt8} (hl : s.length < 900000)
  (h0 : (zE t s).2 = 0 → (getN t (zE t s).1).kind ≠ 2 → ∀ S', Keep S S' → WpL cfgS ops l (putT T dst (zD (getN t (zE t s).1) (A (zE t s).1) (B (zE t s).1))) S' F Q)
  (h1 : ∀ e, ((zE t s).2 ≠ 0 ∧ e = (zE t s).2) ∨ ((zE t s).2 = 0 ∧ (getN t (zE t s).1).kind = 2 ∧ e = 7) → ∀ S', Keep S S' → Q (.pan (.d (.iface 41 (.int .i64 e)))) T S' F) : WpR cfgS ops dst l T S F Q (some (.enter 107 [.ref a 0 0, .d (.str s)])) := by
 refine z9s rfl (q1o S a m hT0 hT k0 hk0 hS s hl) ?_ ?_
 ·intro h S' hK
  by_cases c1 : (zE t s).2 = 0
  ·by_cases c2 : (getN t (zE t s).1).kind = 2
   ·rw [if_neg (by simp [c1]), if_pos c2] at h
    cases h
   ·rw [if_neg (by simp [c1]), if_neg c2]
    exact h0 c1 c2 S' hK
  ·rw [if_pos c1] at h
   exact absurd h c1
 ·intro h S' hK
  by_cases c1 : (zE t s).2 = 0
  ·by_cases c2 : (getN t (zE t s).1).kind = 2
   ·rw [if_neg (by simp [c1]), if_pos c2]
    exact h1 7 (.inr ⟨c1, c2, rfl⟩) S' hK
   ·rw [if_neg (by simp [c1]), if_neg c2] at h
    exact absurd c1 h
  ·rw [if_pos c1]
   exact h1 _ (.inl ⟨c1, rfl⟩) S' hK
theorem Tree.renewK {S S' : zA} {a m : Nat} {A B : Int → V} {t : List Node} {n : Node} {x : Int} {p q : V} (h : Tree S a m A B t) (hs : Srt t) (hx : n.ino = x) (hf : ∀ (j : Nat) (o : Ob), S[j]? = some o → idOf (A x) ≠ some j → idOf (B x) ≠ some j → S'[j]? = some o)
  (ha : SlE encU S' p 5 n.data) (hb : SlE zJ S' q 88 n.names) (ha2 : ∀ i, idOf p = some i → idOf (A x) = some i ∨ S.length ≤ i) (hb2 : ∀ i, idOf q = some i → idOf (B x) = some i ∨ S.length ≤ i) :
  ∃ o, jI Try.prog S' 125 (.mr m) (.d (.int .i64 x)) (zD n p q) = some (S'.set m o) ∧ Tree (S'.set m o) a m (fun y => if y = x then p else A y) (fun y => if y = x then q else B y) (qR t n) ∧ (∀ (j : Nat) (ys : List V) (e : TypeId), S'[j]? = some (.row ys e) → (S'.set m o)[j]? = some (.row ys e)) ∧ S'[a]? = some (.row [.agg [.mr m]] 127) := by
 obtain ⟨o, hup, hst⟩ := h.st.renew hs hx hf ha hb ha2 hb2
 have hcell : S'[a]? = some (.row [.agg [.mr m]] 127) := by
  refine hf a _ h.cell (fun hh => ?_) (fun hh => ?_)
  ·obtain ⟨zs, q⟩ := (h.st.da x trivial).row hh
   rw [h.cell] at q; cases q
  ·obtain ⟨zs, q⟩ := (h.st.na x trivial).row hh
   rw [h.cell] at q; cases q
 have hm : ∃ L c, S'[m]? = some (.mp L c) := by
  obtain ⟨L, c, h1, _⟩ := h.st.mp
  refine ⟨_, _, hf m _ h1 (fun hh => ?_) (fun hh => ?_)⟩
  ·obtain ⟨zs, q⟩ := (h.st.da x trivial).row hh
   rw [h1] at q; cases q
  ·obtain ⟨zs, q⟩ := (h.st.na x trivial).row hh
   rw [h1] at q; cases q
 obtain ⟨L, c, hm⟩ := hm
 refine ⟨o, hup, ⟨by rw [List.getElem?_set_ne (Ne.symm h.ne)]; exact hcell, hst⟩, fun j ys e hj => ?_, hcell⟩
 have hne : m ≠ j := by rintro rfl; rw [hm] at hj; cases hj
 rw [List.getElem?_set_ne hne]; exact hj
theorem sv2m {n : Node} {a b : V} : qX Try.prog 3 2 (.d (.int .i64 (n.links + 1))) (zD n a b) = some (zD (more n) a b) := by kernel_rfl
theorem q12 (S0 : zA) (a m r : Nat) (A B : Int → V) (t : List Node) (hT0 : Tree S0 a m A B t) (k0 : Nat) (hk0 : k0 < 200000) (hG : Good k0 t) (o : Opn) (hl : o.a.length < 900000) (hlb : o.b.length < 900000) (hr : S0[r]? = some (.row [ansV okN (.ts []) (.ts [])] 44)) :
  EvS cfgS 77 [.ref a 0 0, .d (encOpn o), .ref r 0 0] S0 (Res S0 a m r (z0g t o)) := by
 have hk1 : k0 < 300000 := by omega
 refine wU rfl zxe ?_
 show Wp cfgS (Try.f77.body.getD .skip) ((.ref a 0 0) :: (.d (encOpn o)) :: (.ref r 0 0) :: uZ (uZ (uZ (uZ ((.tup []) :: (.tup []) :: (.tup []) :: (.tup []) :: (.tup []) :: []))))) S0 [] _
 unfold uZ
 conv => arg 2; whnf
 rw [qL]
 have hT1 := hT0.keep (Keep.app (l := [Ob.row [.d (encOpn o)] 48]))
 simp (maxSteps:=1000000) (disch:=first|assumption|omega|rfl) only [↓gp, gc, Nat.reduceAdd, hPS, zT]
 generalize hq : z0g t o = q
 unfold z0g at hq
 refine zcw hT1 hG.told hk1 hG.sm hl ?_ ?_
 ·intro h0 h2 S1 hK1
  rw [if_neg (by simp [h0]), if_neg h2] at hq
  have hkx := hG.lj.hasK (vW hG.told h0)
  generalize (zE t o.a).1 = x at *
  have hxi := z11 hkx
  have hxm : (more (getN t x)).ino = x := hxi
  have hK01 := Keep.app.trans hK1
  have h4 := hK1 _ _ (jC (S := S0) (o := Ob.row [.d (encOpn o)] 48))
  have hr4 : ∀ l, rowE (S1 ++ l) S0.length 0 = some (.d (encOpn o)) := fun l => zF (qS h4)
  have hT2 := hT0.keep (hK01.trans (Keep.app (l := [Ob.row [zD (getN t x) (A x) (B x)] 32])))
  simp (maxSteps:=1000000) (disch:=first|assumption|omega|rfl) only [↓gp, gc, Nat.reduceAdd, hPS, zagg, z32v, kW, kP, svz, sv, lv, zT, zQ, hr4]
  refine z6j rfl (zfh _ a m hT2 hG.told k0 hk1 hG.sm o.b hlb) ?_ ?_
  ·intro h1 S2 hK2
   rw [if_neg (by simp [h1])] at hq
   have hd := jP h1
   have h6 := hK2 _ _ (jC (S := S1) (o := Ob.row [zD (getN t x) (A x) (B x)] 32))
   generalize hw : zI t o.b = w at *
   obtain ⟨d, s, e⟩ := w
   simp only at hq hd h1
   have hgn : (getN t d).names.length < 1000000 := Nat.lt_of_le_of_lt (hG.sm.gnms _) (by omega)
   have hK02 := (hK01.trans Keep.app).trans hK2
   have hT3 := hT0.keep (hK02.trans (Keep.app (l := [Ob.row [zD (getN t d) (A d) (B d)] 32])))
   have h6' := qS (l := [Ob.row [zD (getN t d) (A d) (B d)] 32]) h6
   have hr6 := zF h6'
   have hpr6 := fun y => qB (y := y) h6'
   have hlk := hG.sm.glnk x
   rcases z02 (s := s) (l := (getN t d).names) (i := 0) with ⟨f1, f2⟩ | ⟨j, hj, f1, f2⟩
   ·have hf : vE (getN t d) s = (0, false) := by unfold vE; rw [f1]
    rw [if_neg (by rw [f2]; omega)] at hq
    subst hq
    simp (maxSteps:=1000000) (disch:=first|assumption|omega|rfl) only [↓gp, gc, Nat.reduceAdd, hPS, zagg, z32v, kW, kP, svz, sv, lv, lv2, sv2m, zT, zQ, z0m hT3.st trivial hgn, hf, jK, hr6, hpr6]
    have hlen : S0.length ≤ S1.length := hK01.len
    have hK3 : Keep S0 ((S2 ++ [Ob.row [zD (getN t d) (A d) (B d)] 32]).set S1.length (.row [zD (more (getN t x)) (A x) (B x)] 32)) := (hK02.trans Keep.app).set hlen
    obtain ⟨o7, hup, hT4, hK4, hc3⟩ := hT0.renewK (x := x) (n := (more (getN t x))) (p := A x) (q := B x) (S' := (S2 ++ [Ob.row [zD (getN t d) (A d) (B d)] 32]).set S1.length (.row [zD (more (getN t x)) (A x) (B x)] 32)) hG.lj.srt hxm (fun j q hj _ _ => hK3 j q hj)
     ((hT0.st.da x trivial).keep hK3) ((hT0.st.na x trivial).keep hK3) (fun i hi => .inl hi) (fun i hi => .inl hi)
    have h63 : ((S2 ++ [Ob.row [zD (getN t d) (A d) (B d)] 32]).set S1.length (.row [zD (more (getN t x)) (A x) (B x)] 32))[S1.length]? = some (.row [zD (more (getN t x)) (A x) (B x)] 32) := jL h6'
    have h73 : ((S2 ++ [Ob.row [zD (getN t d) (A d) (B d)] 32]).set S1.length (.row [zD (more (getN t x)) (A x) (B x)] 32))[S2.length]? = some (.row [zD (getN t d) (A d) (B d)] 32) := by
     rw [List.getElem?_set_ne (by have := qM h6; omega)]; exact jC
    have hr3 := hK3 _ _ hr
    generalize (S2 ++ [Ob.row [zD (getN t d) (A d) (B d)] 32]).set S1.length (.row [zD (more (getN t x)) (A x) (B x)] 32) = S3 at *
    have hra3 := zF hc3
    have hr63 := zF h63
    refine qT (is := [0, 1, 2, 3, 4, 5, 6, 7]) (h := 0) (by kernel_rfl) (by kernel_rfl) ?_
    simp (maxSteps:=1000000) (disch:=first|assumption|omega|rfl) only [List.replicate_zero, eq_self, gd, ga, Nat.reduceAdd, ↓gq, hPS, List.append_nil, qK, qF, jE, vK, vC, hra3, hr63, lv, lv0, hxm, hup, Option.map_some]
    refine ⟨fun _ => by kernel_rfl, ?_⟩
    refine ⟨by kernel_rfl, ?_⟩
    have h64 := zF (hK4 _ _ _ h63)
    have h74 := zF (hK4 _ _ _ h73)
    have hr4 := hK4 _ _ _ hr3
    have hgd : getN (qR t (more (getN t x))) d = getN t d := by
     rw [jA hG.lj.srt.uniq]
     unfold upd
     rw [if_neg]
     intro hh
     have hh : d = (getN t x).ino := hh
     rw [hh, hxi] at hd
     exact h2 hd
    have hS4 : Small (k0 + 1) (qR t (more (getN t x))) := hG.sm.with (n := more (getN t x)) (hG.sm.get x).more
    have hdi4 : (getN (qR t (more (getN t x))) d).ino = d := by rw [hgd]; exact jF hd
    have ho4 : Ord (getN (qR t (more (getN t x))) d).names := by rw [hgd]; exact hG.lj.nod d
    simp (maxSteps:=1000000) (disch:=first|assumption|omega|rfl) only [↓gp, gc, Nat.reduceAdd, hPS, h64, h74, lv0, hxm, jF hd]
    refine jG rfl (putM _ a m hT4 hG.lj.srt.with (k0 + 1) (by omega) hS4 d hdi4 ho4 s x) ?_ ?_
    ·rintro v S5 ⟨_, hK5, A5, B5, hT5⟩
     have hr5 := hK5 _ _ _ (by decide) (by decide) hr4
     simp (maxSteps:=1000000) (disch:=first|assumption|omega|rfl) only [↓gp, gc, Nat.reduceAdd, hPS]
     exact ⟨rfl, _, rfl, Res.done (v5 := .ts []) (v6 := .ts []) rfl hT5 hr5 vZ (.inl ⟨rfl, rfl⟩) ((hK3.toR.trans (fun j ys e _ _ h => hK4 _ _ _ h)).trans hK5.toR)⟩
    ·rintro v S5 ⟨⟨w, hv⟩, _⟩
     cases hv
   ·rw [Nat.zero_add] at f1
    have hf : vE (getN t d) s = (((j : Nat) : Int), true) := by unfold vE; rw [f1]
    have hge := hG.ti.inv.ge2 d _ (List.getElem_mem hj)
    rw [if_pos (by rw [f2]; omega)] at hq
    subst hq
    have h5 : (5 : Int) ≠ 0 := by omega
    simp (maxSteps:=1000000) (disch:=first|assumption|omega|rfl) only [↓gp, gc, Nat.reduceAdd, hPS, zagg, z32v, kW, kP, svz, sv, lv, zT, zQ, z0m hT3.st trivial hgn, hf, kB h5]
    exact ⟨rfl, Res.fail h5 (hK02.trans Keep.app)⟩
  ·intro h1 S2 hK2
   rw [if_pos h1] at hq
   subst hq
   exact ⟨rfl, Res.fail h1 ((hK01.trans Keep.app).trans hK2)⟩
 ·rintro e (⟨h0, rfl⟩ | ⟨h0, h2, rfl⟩) S1 hK1
  ·rw [if_pos h0] at hq
   subst hq
   exact ⟨rfl, Res.fail h0 (Keep.app.trans hK1)⟩
  ·rw [if_neg (by simp [h0]), if_pos h2] at hq
   subst hq
   exact ⟨rfl, Res.fail (by omega) (Keep.app.trans hK1)⟩
theorem zch {S : zA} {k n : Nat} (h : k < n) : (S ++ List.replicate n Ob.hole)[S.length + k]? = some .hole := by
 rw [List.getElem?_append_right (by omega), Nat.add_sub_cancel_left, List.getElem?_replicate, if_pos h]
theorem z1k {S : zA} {k : Nat} {o q : Ob} (h : S[k]? = some q) : (S.set k o)[k]? = some o := by
 rw [List.getElem?_set_self (qM h)]
theorem zie {s : List UInt8} {l : List Ent} {i j : Nat} (h : fidx s i l = some (i + j)) (hj : j < l.length) : ∃ e ∈ l, e.name = s := by
 rcases Classical.em (∃ e ∈ l, e.name = s) with h1 | h1
 ·exact h1
 ·have : ∀ (l : List Ent) (i : Nat), (∀ e ∈ l, e.name ≠ s) → fidx s i l = none := fun l => by
   induction l with
   | nil => intro i _; rfl
   | cons x r ih =>
    intro i hx
    have h0 := hx x (by simp)
    simp only [fidx, h0, if_false]
    exact ih _ fun e he => hx e (by simp [he])
  rw [this l i fun e he hh => h1 ⟨e, he, hh⟩] at h
  cases h
theorem zmh (S0 : zA) (a m r : Nat) (A B : Int → V) (t : List Node) (hT0 : Tree S0 a m A B t) (k0 : Nat) (hk0 : k0 < 200000) (hG : Good k0 t) (o : Opn) (hdo : o.does = 4 ∨ o.does = 5) (hl : o.a.length < 900000) (hr : S0[r]? = some (.row [ansV okN (.ts []) (.ts [])] 44)) :
  EvS cfgS 78 [.ref a 0 0, .d (encOpn o), .ref r 0 0] S0 (Res S0 a m r (wB t o)) := by
 have hk1 : k0 < 300000 := by omega
 refine wU rfl zwn ?_
 show Wp cfgS (Try.f78.body.getD .skip) ((.ref a 0 0) :: (.d (encOpn o)) :: (.ref r 0 0) :: uZ (uZ (uZ (uZ (uZ ((.tup []) :: (.tup []) :: (.tup []) :: (.tup []) :: (.tup []) :: (.tup []) :: [])))))) S0 [] _
 unfold uZ
 conv => arg 2; whnf
 rw [qL]
 have hT1 := hT0.keep (Keep.app (l := [Ob.row [.d (encOpn o)] 48]))
 simp (maxSteps:=1000000) (disch:=first|assumption|omega|rfl) only [↓gp, gc, Nat.reduceAdd, hPS, zT]
 generalize hq : wB t o = q
 unfold wB at hq
 refine z6j rfl (zfh _ a m hT1 hG.told k0 hk1 hG.sm o.a hl) ?_ ?_
 ·intro h0 S1 hK1
  rw [if_neg (by simp [h0])] at hq
  have hd := jP h0
  have hK01 := Keep.app.trans hK1
  have h4 := hK1 _ _ (jC (S := S0) (o := Ob.row [.d (encOpn o)] 48))
  generalize hw : zI t o.a = w at *
  obtain ⟨d, s, e⟩ := w
  simp only at hq hd h0
  have hT2 := hT0.keep (hK01.trans (Keep.app (l := [Ob.row [zD (getN t d) (A d) (B d)] 32])))
  have hgn : (getN t d).names.length < 1000000 := Nat.lt_of_le_of_lt (hG.sm.gnms _) (by omega)
  have h6 := jC (S := S1) (o := Ob.row [zD (getN t d) (A d) (B d)] 32)
  rcases z02 (s := s) (l := (getN t d).names) (i := 0) with ⟨f1, f2⟩ | ⟨j, hj, f1, f2⟩
  ·have hf : vE (getN t d) s = (0, false) := by unfold vE; rw [f1]
   rw [if_pos (by rw [f2]; omega)] at hq
   subst hq
   have h40 : (4 : Int) ≠ 0 := by omega
   simp (maxSteps:=1000000) (disch:=first|assumption|omega|rfl) only [↓gp, gc, Nat.reduceAdd, hPS, zagg, z32v, kW, kP, svz, sv, lv, zT, zQ, z0m hT2.st trivial hgn, hf, wJ, Bool.not_false, kB h40]
   exact ⟨rfl, Res.fail h40 (hK01.trans Keep.app)⟩
  ·rw [Nat.zero_add] at f1
   have hf : vE (getN t d) s = (((j : Nat) : Int), true) := by unfold vE; rw [f1]
   have hge := hG.ti.inv.ge2 d _ (List.getElem_mem hj)
   have hkx := hG.lj.told (List.getElem_mem hj)
   have hents : ∃ e ∈ (getN t d).names, e.name = s := zie (i := 0) (by rw [Nat.zero_add]; exact f1) hj
   rw [if_neg (by rw [f2]; omega)] at hq
   rw [f2] at hq
   simp (maxSteps:=1000000) (disch:=first|assumption|omega|rfl) only [↓gp, gc, Nat.reduceAdd, hPS, zagg, z32v, kW, kP, svz, sv, lv, zT, zQ, z0m hT2.st trivial hgn, hf, wJ, Bool.not_true, jK]
   have hK02 := hK01.trans (Keep.app (l := [Ob.row [zD (getN t d) (A d) (B d)] 32]))
   have h42 := qS (l := [Ob.row [zD (getN t d) (A d) (B d)] 32]) h4
   generalize S1 ++ [Ob.row [zD (getN t d) (A d) (B d)] 32] = S2 at *
   refine qT (is := [0, 1, 2, 3, 4, 5, 6, 7, 8, 9, 10, 11, 12]) (h := 13) (by kernel_rfl) (by kernel_rfl) ?_
   have hh : (S2 ++ List.replicate 13 Ob.hole)[S2.length + 11]? = some .hole := zch (by omega)
   have hK23 : Keep S2 (S2 ++ List.replicate 13 Ob.hole) := Keep.app
   generalize S2 ++ List.replicate 13 Ob.hole = S3 at *
   have hT3 := hT2.keep hK23
   have hra3 := hT3.row
   have hlk3 := fun x => (hT3.st.look x).2
   have hr63 := zF (hK23 _ _ h6)
   obtain ⟨id, hix, hre, _⟩ := (hT3.st.na d trivial).ix (t := 30) Try.underlying30 (by kernel_rfl) hj
   have hset := z1k (o := Ob.row [zD zN (.ts []) (.ts [])] 32) hh
   have hrs := zF hset
   have hps := fun y => qB (y := y) hset
   simp (maxSteps:=1000000) (disch:=first|assumption|omega|rfl) only [List.replicate_zero, eq_self, gd, ga, Nat.reduceAdd, ↓gq, hPS, List.append_nil, qK, qF, z8q, z8w z32v kW, z60, vK, vC, hra3, hr63, lv6, hix, hre, le1, hlk3, hrs, hps, sv]
   refine ⟨hh, fun _ => by kernel_rfl, ?_⟩
   refine ⟨by kernel_rfl, ?_⟩
   generalize (getN t d).names[j].ino = x at *
   have hK24 : Keep S2 ((S3.set (S2.length + 11) (.row [zD zN (.ts []) (.ts [])] 32)).set (S2.length + 11) (.row [zD (getN t x) (A x) (B x)] 32)) := (hK23.set (by omega)).set (by omega)
   have h10 : ((S3.set (S2.length + 11) (.row [zD zN (.ts []) (.ts [])] 32)).set (S2.length + 11) (.row [zD (getN t x) (A x) (B x)] 32))[S2.length + 11]? = some (.row [zD (getN t x) (A x) (B x)] 32) := z1k hset
   generalize (S3.set (S2.length + 11) (.row [zD zN (.ts []) (.ts [])] 32)).set (S2.length + 11) (.row [zD (getN t x) (A x) (B x)] 32) = S4 at *
   have hT4 := hT2.keep hK24
   have hr44 := zF (hK24 _ _ h42)
   have hr64 := zF (hK24 _ _ h6)
   have hr104 := zF h10
   have hlen := (hT4.st.na x trivial).len (t := 30) Try.underlying30
   have hrr := (hK02.trans hK24) _ _ hr
   have fin : q = (jO (zS t d s) x, okN) → EvS cfgS 108 [.ref a 0 0, .d (.int .i64 d), .d (.str s), .d (.bool false)] S4 fun o' S => (∃ v, o' = .ret v) ∧ Res S0 a m r q (.ret (.tup [])) S := fun hq => by
    have hdr := zv4 S4 a m hT4 hG.lj.srt k0 hk0 hG.sm d hd (hG.lj.nod d) s hents false (fun _ => by rw [f2]; exact z11 (by rw [(qQ hG.lj.srt.uniq hd).1]; exact hkx))
    rw [f2] at hdr
    refine EvS.weak hdr ?_
    rintro o' S5 ⟨h1, hK5, A5, B5, hT5⟩
    refine ⟨h1, ?_⟩
    rw [hq]
    exact Res.done (v5 := .ts []) (v6 := .ts []) rfl hT5 (hK5 _ _ _ (by decide) (by decide) hrr) vZ (.inl ⟨rfl, rfl⟩) ((hK02.trans hK24).toR.trans hK5.toR)
   rcases hdo with h4o | h5o
   ·by_cases c1 : (getN t x).kind = 2
    ·rw [if_pos ⟨h4o, c1⟩] at hq
     subst hq
     have h7 : (7 : Int) ≠ 0 := by omega
     simp (maxSteps:=1000000) (disch:=first|assumption|omega|rfl) only [↓gp, gc, Nat.reduceAdd, hPS, hr44, hr104, lv1, c1, kB h7]
     exact ⟨rfl, Res.fail h7 (hK02.trans hK24)⟩
    ·rw [if_neg (fun hh => c1 hh.2), if_neg (by omega), if_neg (by omega)] at hq
     simp (maxSteps:=1000000) (disch:=first|assumption|omega|rfl) only [↓gp, gc, Nat.reduceAdd, hPS, hr44, hr104, hr64, lv0, lv1, jF hd, jK]
     refine jG rfl (fin hq.symm) ?_ ?_
     ·rintro v S5 ⟨_, hR⟩
      simp (maxSteps:=1000000) (disch:=first|assumption|omega|rfl) only [↓gp, gc, Nat.reduceAdd, hPS]
      exact ⟨rfl, _, rfl, hR⟩
     ·rintro v S5 ⟨⟨w, hv⟩, _⟩
      cases hv
   ·have h4n : ¬ o.does = 4 := by omega
    by_cases c1 : (getN t x).kind = 2
    ·by_cases c2 : 0 < (getN t x).names.length
     ·rw [if_neg (by omega), if_neg (fun hh => hh.2 c1), if_pos ⟨h5o, c2⟩] at hq
      subst hq
      have h8 : (8 : Int) ≠ 0 := by omega
      have c2' : ((getN t x).names.length : Int) > 0 := by omega
      simp (maxSteps:=1000000) (disch:=first|assumption|omega|rfl) only [↓gp, gc, Nat.reduceAdd, hPS, hr44, hr104, lv1, lv6, hlen, c1, jK, kB h8]
      exact ⟨rfl, Res.fail h8 (hK02.trans hK24)⟩
     ·rw [if_neg (by omega), if_neg (fun hh => hh.2 c1), if_neg (fun hh => c2 hh.2)] at hq
      have c2' : ¬ ((getN t x).names.length : Int) > 0 := by omega
      simp (maxSteps:=1000000) (disch:=first|assumption|omega|rfl) only [↓gp, gc, Nat.reduceAdd, hPS, hr44, hr104, hr64, lv0, lv1, lv6, hlen, c1, jF hd, jK]
      refine jG rfl (fin hq.symm) ?_ ?_
      ·rintro v S5 ⟨_, hR⟩
       simp (maxSteps:=1000000) (disch:=first|assumption|omega|rfl) only [↓gp, gc, Nat.reduceAdd, hPS]
       exact ⟨rfl, _, rfl, hR⟩
      ·rintro v S5 ⟨⟨w, hv⟩, _⟩
       cases hv
    ·rw [if_neg (by omega), if_pos ⟨h5o, c1⟩] at hq
     subst hq
     have h6' : (6 : Int) ≠ 0 := by omega
     simp (maxSteps:=1000000) (disch:=first|assumption|omega|rfl) only [↓gp, gc, Nat.reduceAdd, hPS, hr44, hr104, lv1, kB h6']
     exact ⟨rfl, Res.fail h6' (hK02.trans hK24)⟩
 ·intro h0 S1 hK1
  rw [if_pos h0] at hq
  subst hq
  exact ⟨rfl, Res.fail h0 (Keep.app.trans hK1)⟩
theorem zsa {t : List Node} {x : Int} (h : (getN t x).kind = 2) : getN t x ∈ t := by
 rcases jN t x with ⟨h1, _⟩ | ⟨h1, _⟩
 ·rw [h1] at h; simp [zN] at h
 ·exact h1
theorem z5e {t : List Node} (h : LJ t (fun _ => 0)) (hT : TInv t 1) {f : Int} {e : Ent} (he : e ∈ (getN t f).names) (hk : (getN t e.ino).kind = 2) : (getN t e.ino).parent = f := by
 have hge := hT.inv.ge2 f e he
 have hf : (getN t f).kind = 2 := Classical.byContradiction fun hh => by rw [h.fil f hh] at he; cases he
 obtain ⟨h1, e', he', hi⟩ := hT.inv.told e.ino hk (by omega) (by omega)
 refine Classical.byContradiction fun hne => ?_
 have hD := h.drop (i := e.ino) (s := e.name) hf ⟨e, he, rfl, rfl⟩
 have hkd := qQ (s := e.name) h.srt.uniq hf (y := e.ino)
 have hl := hD.lnk e.ino (by rw [hkd.1, hk]; decide) (by omega)
 rw [hkd.2.2, hT.inv.ln _ hk] at hl
 simp only [if_true] at hl
 have hgp : getN (zS t f e.name) (getN t e.ino).parent = getN t (getN t e.ino).parent := by rw [vA h.srt.uniq hf, if_neg hne]
 have hin : getN t (getN t e.ino).parent ∈ zS t f e.name := by rw [← hgp]; exact zsa (by rw [hgp]; exact h1)
 have h2 := znn hin e.ino
 have h3 := zrf he'
 rw [hi] at h3
 omega
theorem zkl {t : List Node} (h : LJ t (fun _ => 0)) (hT : TInv t 1) {f : Int} {e : Ent} (he : e ∈ (getN t f).names) (hk : (getN t e.ino).kind = 2) : e.ino ≠ f := fun hh => by
 have hp := z5e h hT he hk
 have hge := hT.inv.ge2 f e he
 rw [hh] at hp hk
 obtain ⟨c, hc, _⟩ := z8u hT.inv.root (hT.inv.way f hk)
 cases c with
 | nil => have : f = 1 := hc.2; omega
 | cons j r =>
  have hj : (getN t f).parent = j := hc.2.2.1
  have hn := z5g hc
  rw [← hj, hp] at hn
  simp at hn
theorem zh0 {u : List Node} {d x i : Int} {s : List UInt8} (hu : Uniq u) (hd : (getN u d).kind = 2) (hx : x ≠ d) : getN (putN u d s i) x = getN u x := by
 unfold putN
 rw [jA hu]
 unfold upd
 have hi : ({ getN u d with names := putA s i false (getN u d).names } : Node).ino = d := jF hd
 rw [hi, if_neg hx]
structure Mid (k : Nat) (u : List Node) (f d : Int) (old s : List UInt8) (ino : Int) : Prop where
 lj : LJ u (fun _ => 0)
 kf : (getN u f).kind = 2
 kd : (getN u d).kind = 2
 nf : ∃ e ∈ (getN u f).names, e.name = old ∧ e.ino = ino
 sm : Small k u
theorem zi1 {t : List Node} {k : Nat} {f d : Int} {old s : List UInt8} {ino : Int} (h : LJ t (fun _ => 0)) (hT : TInv t 1) (hS : Small k t) (hf : (getN t f).kind = 2) (hd : (getN t d).kind = 2) (e0 : Ent) (he0 : e0 ∈ (getN t f).names) (hs0 : e0.name = old) (hi0 : e0.ino = ino)
  (h4 : qE (getN t d).names s ≠ ino) (hw : 0 ≤ qE (getN t d).names s) (hkw : (getN t (qE (getN t d).names s)).kind ≠ 2) : Mid (k + 2) (jO (zS t d s) (qE (getN t d).names s)) f d old s ino := by
 obtain ⟨e1, he1, hs1, hi1⟩ := wC hw
 have hk1 : (getN t (qE (getN t d).names s)).kind ≠ 0 := by rw [← hi1]; exact h.told he1
 have hg1 : 2 ≤ qE (getN t d).names s := by rw [← hi1]; exact hT.inv.ge2 _ e1 he1
 generalize qE (getN t d).names s = was at *
 have hnf : f ≠ was := fun hh => by rw [hh] at hf; exact hkw hf
 have hnd : d ≠ was := fun hh => by rw [hh] at hd; exact hkw hd
 have hni : ino ≠ was := fun hh => h4 hh.symm
 have hgw : getN (zS t d s) was = getN t was := by rw [vA h.srt.uniq hd, if_neg (fun hh => hnd hh.symm)]
 have hD := h.drop (i := was) (s := s) hd ⟨e1, he1, hs1, hi1⟩
 have hL := (hD.loses (i := was) (by rw [hgw]; exact hk1) (by rw [hgw]; exact h.fil _ hkw) (by omega) (by simp)).congr (d' := fun _ => 0) (fun x => by
  by_cases e : x = was
  ·simp [e]
  ·have : ¬ was = x := fun hh => e hh.symm
   simp [e, this])
 have hgl : ∀ y, y ≠ was → getN (jO (zS t d s) was) y = getN (zS t d s) y := fun y hy => vV hD.srt.uniq hy
 refine ⟨hL, ?_, ?_, ?_, hS.drop.loses.mono (by omega)⟩
 ·rw [hgl f hnf, (qQ h.srt.uniq hd).1]; exact hf
 ·rw [hgl d hnd, (qQ h.srt.uniq hd).1]; exact hd
 ·rw [hgl f hnf, vA h.srt.uniq hd]
  split
  ·rename_i hfd
   subst hfd
   refine ⟨e0, List.mem_filter.2 ⟨he0, ?_⟩, hs0, hi0⟩
   rw [decide_eq_true_eq]
   intro hh
   have := hT.inv.un _ e0 he0 e1 he1 (hh.trans hs1.symm)
   exact hni (hi0.symm.trans (this.trans hi1))
  ·exact ⟨e0, he0, hs0, hi0⟩
section
variable {S : zA} {a m k : Nat} {A B : Int → V} {u : List Node} {f d ino : Int} {old s : List UInt8}
theorem ztm (hM : Mid k u f d old s ino) (hk : k < 200000) (hT : Tree S a m A B u) : EvS cfgS 108 [.ref a 0 0, .d (.int .i64 f), .d (.str old), .d (.bool true)] S fun o S' => (∃ v, o = .ret v) ∧ KeepL S S' ∧ ∃ A' B', Tree S' a m A' B' (zS u f old) ∧ ∀ y, y ≠ f → A' y = A y ∧ B' y = B y := by
 obtain ⟨e, he, hs, _⟩ := hM.nf
 exact EvS.weak (zqo S a m hT hM.lj.srt k hk hM.sm f hM.kf (hM.lj.nod f) old ⟨e, he, hs⟩ true (fun h => by cases h)) fun o S' ⟨h1, h2, A', B', h3, h4⟩ => ⟨h1, h2, A', B', h3, h4 rfl⟩
theorem putE (hM : Mid k u f d old s ino) (hk : k < 200000) (hT : Tree S a m A B (zS u f old)) : EvS cfgS 106 [.ref a 0 0, .d (.int .i64 d), .d (.str s), .d (.int .i64 ino)] S fun o S' => (∃ v, o = .ret v) ∧ KeepL S S' ∧ ∃ A' B', Tree S' a m A' B' (putN (zS u f old) d s ino) ∧ ∀ y, y ≠ d → A' y = A y ∧ B' y = B y := by
 obtain ⟨e, he, hs, hi⟩ := hM.nf
 have hD := hM.lj.drop (i := ino) (s := old) hM.kf ⟨e, he, hs, hi⟩
 exact zwb S a m hT hD.srt (k + 1) (by omega) hM.sm.drop d (jF (by rw [(qQ hM.lj.srt.uniq hM.kf).1]; exact hM.kd)) (hD.nod d) s ino
end
theorem sv3m {n : Node} {a b : V} {p : Int} : qX Try.prog 3 3 (.d (.int .i64 p)) (zD n a b) = some (zD (moved n p) a b) := by kernel_rfl
theorem z0o {i : Decidable True} : @decide True i = true := by cases i with | isTrue _ => rfl | isFalse h => exact absurd trivial h
theorem zt3 (S0 : zA) (a m r : Nat) (A B : Int → V) (t : List Node) (hT0 : Tree S0 a m A B t) (k0 : Nat) (hk0 : k0 < 190000) (hG : Good k0 t) (o : Opn) (hl : o.a.length < 900000) (hlb : o.b.length < 900000) (hr : S0[r]? = some (.row [ansV okN (.ts []) (.ts [])] 44)) :
  EvS cfgS 79 [.ref a 0 0, .d (encOpn o), .ref r 0 0] S0 (Res S0 a m r (kA t o)) := by
 have hk1 : k0 < 300000 := by omega
 have hk2 : k0 < 200000 := by omega
 have hlt : t.length < 400000 := Nat.lt_of_le_of_lt hG.sm.len (by omega)
 refine wU rfl zvp ?_
 show Wp cfgS (Try.f79.body.getD .skip) ((.ref a 0 0) :: (.d (encOpn o)) :: (.ref r 0 0) :: uZ (uZ (uZ (uZ (uZ (uZ (uZ (uZ (uZ (uZ (uZ (uZ ((.tup []) :: (.tup []) :: (.tup []) :: (.tup []) :: (.tup []) :: (.tup []) :: (.tup []) :: []))))))))))))) S0 [] _
 unfold uZ
 conv => arg 2; whnf
 rw [qL]
 have hT1 := hT0.keep (Keep.app (l := [Ob.row [.d (encOpn o)] 48]))
 simp (maxSteps:=1000000) (disch:=first|assumption|omega|rfl) only [↓gp, gc, Nat.reduceAdd, hPS, zT]
 generalize hq : kA t o = q
 unfold kA at hq
 refine z6j rfl (zfh _ a m hT1 hG.told k0 hk1 hG.sm o.a hl) ?_ ?_
 rotate_left
 ·intro h0 S1 hK1
  rw [if_pos h0] at hq
  subst hq
  exact ⟨rfl, Res.fail h0 (Keep.app.trans hK1)⟩
 intro h0 S1 hK1
 rw [if_neg (by simp [h0])] at hq
 have hdf := jP h0
 have hK01 := Keep.app.trans hK1
 have h41 := hK1 _ _ (jC (S := S0) (o := Ob.row [.d (encOpn o)] 48))
 generalize hw : zI t o.a = w at *
 obtain ⟨f, old, e⟩ := w
 simp only at hq hdf h0
 have hT2 := hT0.keep (hK01.trans (Keep.app (l := [Ob.row [zD (getN t f) (A f) (B f)] 32])))
 have hgn : (getN t f).names.length < 1000000 := Nat.lt_of_le_of_lt (hG.sm.gnms _) (by omega)
 have h62 := jC (S := S1) (o := Ob.row [zD (getN t f) (A f) (B f)] 32)
 have hr41 : ∀ l, rowE (S1 ++ l) S0.length 0 = some (.d (encOpn o)) := fun l => zF (qS h41)
 rcases z02 (s := old) (l := (getN t f).names) (i := 0) with ⟨f1, f2⟩ | ⟨j, hj, f1, f2⟩
 ·have hf : vE (getN t f) old = (0, false) := by unfold vE; rw [f1]
  rw [if_pos (by rw [f2]; omega)] at hq
  subst hq
  have h40 : (4 : Int) ≠ 0 := by omega
  simp (maxSteps:=1000000) (disch:=first|assumption|omega|rfl) only [↓gp, gc, Nat.reduceAdd, hPS, zagg, z32v, kW, kP, svz, sv, lv, zT, zQ, z0m hT2.st trivial hgn, hf, wJ, Bool.not_false, kB h40]
  exact ⟨rfl, Res.fail h40 (hK01.trans Keep.app)⟩
 rw [Nat.zero_add] at f1
 have hf : vE (getN t f) old = (((j : Nat) : Int), true) := by unfold vE; rw [f1]
 have hge := hG.ti.inv.ge2 f _ (List.getElem_mem hj)
 have hkx := hG.lj.told (List.getElem_mem hj)
 have hmem := List.getElem_mem hj
 have hne2 := fun h2 => zkl hG.lj hG.ti (List.getElem_mem hj) h2
 have hent : ∃ e ∈ (getN t f).names, e.name = old ∧ e.ino = (getN t f).names[j].ino := by
  obtain ⟨e, he, hs, hi⟩ := wC (l := (getN t f).names) (s := old) (by rw [f2]; omega)
  exact ⟨e, he, hs, hi.trans f2⟩
 rw [if_neg (by rw [f2]; omega), f2] at hq
 simp (maxSteps:=1000000) (disch:=first|assumption|omega|rfl) only [↓gp, gc, Nat.reduceAdd, hPS, zagg, z32v, kW, kP, svz, sv, lv, zT, zQ, z0m hT2.st trivial hgn, hf, wJ, Bool.not_true, jK, hr41]
 have hK02 := hK01.trans (Keep.app (l := [Ob.row [zD (getN t f) (A f) (B f)] 32]))
 have h42 := qS (l := [Ob.row [zD (getN t f) (A f) (B f)] 32]) h41
 generalize S1 ++ [Ob.row [zD (getN t f) (A f) (B f)] 32] = S2 at *
 refine z6j rfl (zfh _ a m hT2 hG.told k0 hk1 hG.sm o.b hlb) ?_ ?_
 rotate_left
 ·intro h1 S3 hK3
  rw [if_pos h1] at hq
  subst hq
  exact ⟨rfl, Res.fail h1 (hK02.trans hK3)⟩
 intro h1 S3 hK3
 rw [if_neg (by simp [h1])] at hq
 have hdd := jP h1
 generalize hw2 : zI t o.b = w2 at *
 obtain ⟨d, s, e2⟩ := w2
 simp only at hq hdd h1
 have hgd : (getN t d).names.length < 1000000 := Nat.lt_of_le_of_lt (hG.sm.gnms _) (by omega)
 have h104 := jC (S := S3) (o := Ob.row [zD (getN t d) (A d) (B d)] 32)
 simp (maxSteps:=1000000) (disch:=first|assumption|omega|rfl) only [↓gp, gc, Nat.reduceAdd, hPS, zagg, z32v, kW, kP, svz, sv, lv, zT, zQ]
 have hK24 := hK3.trans (Keep.app (l := [Ob.row [zD (getN t d) (A d) (B d)] 32]))
 generalize S3 ++ [Ob.row [zD (getN t d) (A d) (B d)] 32] = S4 at *
 have hT4 := hT2.keep hK24
 have h44 := hK24 _ _ h42
 have h64 := hK24 _ _ h62
 refine qT (is := [0, 1, 2, 3, 4, 5, 6, 7, 8, 9, 10, 11, 12]) (h := 13) (by kernel_rfl) (by kernel_rfl) ?_
 have hh : (S4 ++ List.replicate 13 Ob.hole)[S4.length + 11]? = some .hole := zch (by omega)
 have hK45 : Keep S4 (S4 ++ List.replicate 13 Ob.hole) := Keep.app
 generalize S4 ++ List.replicate 13 Ob.hole = S5 at *
 have hT5 := hT4.keep hK45
 have hra5 := hT5.row
 have hlk5 := fun x => (hT5.st.look x).2
 have hr65 := zF (hK45 _ _ h64)
 obtain ⟨id, hix, hre, _⟩ := (hT5.st.na f trivial).ix (t := 30) Try.underlying30 (by kernel_rfl) hj
 have hset := z1k (o := Ob.row [zD zN (.ts []) (.ts [])] 32) hh
 have hrs := zF hset
 have hps := fun y => qB (y := y) hset
 simp (maxSteps:=1000000) (disch:=first|assumption|omega|rfl) only [List.replicate_zero, eq_self, gd, ga, Nat.reduceAdd, ↓gq, hPS, List.append_nil, qK, qF, z8q, z8w z32v kW, z60, vK, vC, hra5, hr65, lv6, hix, hre, le1, hlk5, hrs, hps, sv]
 refine ⟨hh, fun _ => by kernel_rfl, ?_⟩
 refine ⟨by kernel_rfl, ?_⟩
 have hK46 : Keep S4 ((S5.set (S4.length + 11) (.row [zD zN (.ts []) (.ts [])] 32)).set (S4.length + 11) (.row [zD (getN t (getN t f).names[j].ino) (A (getN t f).names[j].ino) (B (getN t f).names[j].ino)] 32)) := (hK45.set (by omega)).set (by omega)
 have h126 : ((S5.set (S4.length + 11) (.row [zD zN (.ts []) (.ts [])] 32)).set (S4.length + 11) (.row [zD (getN t (getN t f).names[j].ino) (A (getN t f).names[j].ino) (B (getN t f).names[j].ino)] 32))[S4.length + 11]? = some (.row [zD (getN t (getN t f).names[j].ino) (A (getN t f).names[j].ino) (B (getN t f).names[j].ino)] 32) := z1k hset
 generalize (S5.set (S4.length + 11) (.row [zD zN (.ts []) (.ts [])] 32)).set (S4.length + 11) (.row [zD (getN t (getN t f).names[j].ino) (A (getN t f).names[j].ino) (B (getN t f).names[j].ino)] 32) = S6 at *
 generalize hx : (getN t f).names[j].ino = x at *
 have hxi := z11 hkx
 have hT6 := hT4.keep hK46
 have h46 := zF (hK46 _ _ h44)
 have h66 := zF (hK46 _ _ h64)
 have h106 := zF (hK46 _ _ h104)
 have hr126 := zF h126
 have hrr6 := ((hK02.trans hK24).trans hK46) _ _ hr
 have hK06 := (hK02.trans hK24).trans hK46
 have hMid0 : Mid (k0 + 2) t f d old s x := ⟨hG.lj, hdf, hdd, hent, hG.sm.mono (by omega)⟩
 unfold z08 at hq
 rcases z02 (s := s) (l := (getN t d).names) (i := 0) with ⟨g1, g2⟩ | ⟨k, hk, g1, g2⟩
 ·have hfd : vE (getN t d) s = (0, false) := by unfold vE; rw [g1]
  rw [g2, if_neg (by omega)] at hq
  simp (maxSteps:=1000000) (disch:=first|assumption|omega|rfl) only [↓gp, gc, Nat.reduceAdd, hPS, h106, lv, kP, z0m hT6.st trivial hgd, hfd]
  refine qT (is := [0, 1, 2, 3, 4, 5, 6, 7, 8, 9, 10, 11]) (h := 0) (by kernel_rfl) (by kernel_rfl) ?_
  simp (maxSteps:=1000000) (disch:=first|assumption|omega|rfl) only [List.replicate_zero, eq_self, gd, ga, Nat.reduceAdd, ↓gq, hPS, List.append_nil, h106, hr126, lv0, lv6]
  refine ⟨by kernel_rfl, ?_⟩
  have neg : ¬ (0 : Int) ≤ -1 := by omega
  by_cases c1 : (getN t x).kind = 2
  ·have hxf := hne2 c1
   have hne : renamed t f old d s x (-1) (getN t x).kind = qR (putN (zS t f old) d s x) (moved (getN (putN (zS t f old) d s x) x) d) := by
    unfold renamed
    simp only [if_neg neg, if_pos c1]
   simp (maxSteps:=1000000) (disch:=first|assumption|omega|rfl) only [↓gp, gc, Nat.reduceAdd, hPS, h106, hr126, lv0, lv1, c1, z0o, hxi, jF hdd]
   refine jG rfl (zqx _ a m hT6 hlt d x) ?_ ?_
   ·rintro v S7 ⟨hS, hv⟩
    have hS := hS.symm
    subst hS
    cases hv
    cases hb : wF t x (t.length + 1) d with
    | true =>
     rw [if_pos ⟨c1, hb⟩] at hq
     subst hq
     have h9 : (9 : Int) ≠ 0 := by omega
     simp (maxSteps:=1000000) (disch:=first|assumption|omega|rfl) only [↓gp, gc, Nat.reduceAdd, hPS, kB h9]
     exact ⟨rfl, Res.fail h9 hK06⟩
    | false =>
     have hxd : x ≠ d := fun hh => by rw [hh] at hb; simp [wF] at hb
     rw [if_neg (fun hh => by rw [hb] at hh; cases hh.2), if_neg (fun hh => neg hh.1), if_neg (fun hh => neg hh.1), hne] at hq
     simp (maxSteps:=1000000) (disch:=first|assumption|omega|rfl) only [↓gp, gc, Nat.reduceAdd, hPS, jK, h66, h106, hr126, lv0, lv1, c1, z0o, hxi, jF hdf, jF hdd]
     refine jG rfl (ztm hMid0 (by omega) hT6) ?_ ?_
     ·rintro v S7 ⟨_, hK7, A7, B7, hT7, hA7⟩
      have h107 := zF (hK7 _ _ _ (by decide) (by decide) (hK46 _ _ h104))
      have h127 := hK7 _ _ _ (by decide) (by decide) h126
      have hr127 := zF h127
      have hrr7 := hK7 _ _ _ (by decide) (by decide) hrr6
      simp (maxSteps:=1000000) (disch:=first|assumption|omega|rfl) only [↓gp, gc, Nat.reduceAdd, hPS, h107, hr127, lv0, hxi, jF hdd]
      refine jG rfl (putE hMid0 (by omega) hT7) ?_ ?_
      ·rintro v S8 ⟨_, hK8, A8, B8, hT8, hA8⟩
       have h108 := zF (hK8 _ _ _ (by decide) (by decide) (hK7 _ _ _ (by decide) (by decide) (hK46 _ _ h104)))
       have h128 := hK8 _ _ _ (by decide) (by decide) h127
       have hr128 := zF h128
       have hpr128 := fun y => qB (y := y) h128
       have hrr8 := hK8 _ _ _ (by decide) (by decide) hrr7
       have hT9 := hT8.other (o := .row [zD (moved (getN t x) d) (A x) (B x)] 32) h128 (by decide) (by decide) (by decide)
       have h129 : (S8.set (S4.length + 11) (.row [zD (moved (getN t x) d) (A x) (B x)] 32))[S4.length + 11]? = some (.row [zD (moved (getN t x) d) (A x) (B x)] 32) := z1k h128
       have hrr9 : (S8.set (S4.length + 11) (.row [zD (moved (getN t x) d) (A x) (B x)] 32))[r]? = some (.row [ansV okN (.ts []) (.ts [])] 44) := by
        rw [List.getElem?_set_ne]
        ·exact hrr8
        ·rintro rfl
         have q := h128.symm.trans hrr8
         simp only [Option.some.injEq, Ob.row.injEq] at q
         exact absurd q.2 (by decide)
       simp (maxSteps:=1000000) (disch:=first|assumption|omega|rfl) only [↓gp, gc, Nat.reduceAdd, hPS, h108, hr128, hpr128, lv0, lv1, c1, z0o, jF hdd, sv3m]
       have hK89 : KeepR r S8 (S8.set (S4.length + 11) (.row [zD (moved (getN t x) d) (A x) (B x)] 32)) := KeepR.refl.setO h128 (by decide)
       generalize S8.set (S4.length + 11) (.row [zD (moved (getN t x) d) (A x) (B x)] 32) = S9 at *
       have hr129 := zF h129
       have hra9 := hT9.row
       have hgx : getN (putN (zS t f old) d s x) x = getN t x := by
        rw [zh0 (show Srt (zS t f old) from hG.lj.srt.with).uniq (by rw [(qQ hG.lj.srt.uniq hdf).1]; exact hdd) hxd, vA hG.lj.srt.uniq hdf, if_neg hxf]
       have hA : A8 x = A x ∧ B8 x = B x := ⟨(hA8 x hxd).1.trans (hA7 x hxf).1, (hA8 x hxd).2.trans (hA7 x hxf).2⟩
       have hda := hT9.st.da x trivial
       have hna := hT9.st.na x trivial
       rw [hgx, hA.1] at hda
       rw [hgx, hA.2] at hna
       obtain ⟨o9, hup, hT10, hK10, _⟩ := hT9.renewK (x := x) (n := moved (getN t x) d) (p := A x) (q := B x) (S' := S9) hG.lj.srt.with.with hxi (fun j q hj _ _ => hj) hda hna (fun i hi => .inl (by rw [hA.1]; exact hi)) (fun i hi => .inl (by rw [hA.2]; exact hi))
       have hmi : (moved (getN t x) d).ino = x := hxi
       refine qT (is := [0, 1, 2, 3, 4, 5, 6, 7]) (h := 0) (by kernel_rfl) (by kernel_rfl) ?_
       simp (maxSteps:=1000000) (disch:=first|assumption|omega|rfl) only [List.replicate_zero, eq_self, gd, ga, Nat.reduceAdd, ↓gq, hPS, List.append_nil, qK, qF, jE, vK, vC, hra9, hr129, lv, lv0, hmi, hup, Option.map_some]
       refine ⟨fun _ => by kernel_rfl, ?_⟩
       refine ⟨by kernel_rfl, ?_⟩
       rw [hgx] at hq
       subst hq
       simp (maxSteps:=1000000) (disch:=first|assumption|omega|rfl) only [↓gp, gc, Nat.reduceAdd, hPS]
       exact ⟨rfl, _, rfl, Res.done (v5 := .ts []) (v6 := .ts []) rfl hT10 (hK10 _ _ _ hrr9) vZ (.inl ⟨rfl, rfl⟩) ((((hK06.toR.trans hK7.toR).trans hK8.toR).trans hK89).trans (fun j ys e _ _ h => hK10 _ _ _ h))⟩
      ·rintro v S8 ⟨⟨w, hv⟩, _⟩
       cases hv
     ·rintro v S7 ⟨⟨w, hv⟩, _⟩
      cases hv
   ·rintro v S7 ⟨_, hv⟩
    cases hv
  ·have hne : renamed t f old d s x (-1) (getN t x).kind = putN (zS t f old) d s x := by
    unfold renamed
    simp only [if_neg neg, if_neg c1]
   rw [if_neg (fun hh => c1 hh.1), if_neg (fun hh => neg hh.1), if_neg (fun hh => neg hh.1), hne] at hq
   simp (maxSteps:=1000000) (disch:=first|assumption|omega|rfl) only [↓gp, gc, Nat.reduceAdd, hPS, jK, h66, h106, hr126, lv0, lv1, hxi, jF hdf, jF hdd]
   refine jG rfl (ztm hMid0 (by omega) hT6) ?_ ?_
   ·rintro v S7 ⟨_, hK7, A7, B7, hT7, hA7⟩
    have h107 := zF (hK7 _ _ _ (by decide) (by decide) (hK46 _ _ h104))
    have h127 := hK7 _ _ _ (by decide) (by decide) h126
    have hr127 := zF h127
    have hrr7 := hK7 _ _ _ (by decide) (by decide) hrr6
    simp (maxSteps:=1000000) (disch:=first|assumption|omega|rfl) only [↓gp, gc, Nat.reduceAdd, hPS, h107, hr127, lv0, hxi, jF hdd]
    refine jG rfl (putE hMid0 (by omega) hT7) ?_ ?_
    ·rintro v S8 ⟨_, hK8, A8, B8, hT8, hA8⟩
     have h128 := hK8 _ _ _ (by decide) (by decide) h127
     have hr128 := zF h128
     have hrr8 := hK8 _ _ _ (by decide) (by decide) hrr7
     subst hq
     simp (maxSteps:=1000000) (disch:=first|assumption|omega|rfl) only [↓gp, gc, Nat.reduceAdd, hPS, hr128, lv1]
     exact ⟨rfl, _, rfl, Res.done (v5 := .ts []) (v6 := .ts []) rfl hT8 hrr8 vZ (.inl ⟨rfl, rfl⟩) ((hK06.toR.trans hK7.toR).trans hK8.toR)⟩
    ·rintro v S8 ⟨⟨w, hv⟩, _⟩
     cases hv
   ·rintro v S7 ⟨⟨w, hv⟩, _⟩
    cases hv
 ·rw [Nat.zero_add] at g1
  have hfd : vE (getN t d) s = (((k : Nat) : Int), true) := by unfold vE; rw [g1]
  have hgy := hG.ti.inv.ge2 d _ (List.getElem_mem hk)
  have h0y : 0 ≤ qE (getN t d).names s := by rw [g2]; omega
  rw [g2] at hq
  obtain ⟨id7, hix7, hre7, _⟩ := (hT6.st.na d trivial).ix (t := 30) Try.underlying30 (by kernel_rfl) hk
  have h0k : 0 ≤ (getN t d).names[k].ino := by omega
  simp (maxSteps:=1000000) (disch:=first|assumption|omega|rfl) only [↓gp, gc, Nat.reduceAdd, hPS, h106, lv, kP, z0m hT6.st trivial hgd, hfd]
  refine qT (is := [0, 1, 2, 3, 4, 5, 6, 7, 8, 9, 10, 11]) (h := 0) (by kernel_rfl) (by kernel_rfl) ?_
  simp (maxSteps:=1000000) (disch:=first|assumption|omega|rfl) only [List.replicate_zero, eq_self, gd, ga, Nat.reduceAdd, ↓gq, hPS, List.append_nil, h106, hr126, lv0, lv6, hix7, hre7, le1, hxi]
  refine ⟨by kernel_rfl, ?_⟩
  by_cases c0 : (getN t d).names[k].ino = x
  ·rw [if_pos c0] at hq
   subst hq
   simp (maxSteps:=1000000) (disch:=first|assumption|omega|rfl) only [↓gp, gc, Nat.reduceAdd, hPS, c0, z0o]
   exact ⟨rfl, _, rfl, Res.done (v5 := .ts []) (v6 := .ts []) rfl hT6 hrr6 vZ (.inl ⟨rfl, rfl⟩) hK06.toR⟩
  rw [if_neg c0] at hq
  have lose : (getN t (getN t d).names[k].ino).kind ≠ 2 → Mid (k0 + 2) (jO (zS t d s) (getN t d).names[k].ino) f d old s x := fun hy => by
   obtain ⟨e0, he0, hs0, hi0⟩ := hent
   have := zi1 (k := k0) (f := f) (d := d) (old := old) (s := s) (ino := x) hG.lj hG.ti hG.sm hdf hdd e0 he0 hs0 hi0 (by rw [g2]; exact c0) h0y (by rw [g2]; exact hy)
   rw [g2] at this
   exact this
  generalize hyy : (getN t d).names[k].ino = y at *
  by_cases c1 : (getN t x).kind = 2
  ·have hxf := hne2 c1
   simp (maxSteps:=1000000) (disch:=first|assumption|omega|rfl) only [↓gp, gc, Nat.reduceAdd, hPS, h106, hr126, lv0, lv1, hxi, jF hdd]
   refine jG rfl (zqx _ a m hT6 hlt d x) ?_ ?_
   ·rintro v S7 ⟨hS, hv⟩
    have hS := hS.symm
    subst hS
    cases hv
    cases hb : wF t x (t.length + 1) d with
    | true =>
     rw [if_pos ⟨c1, hb⟩] at hq
     subst hq
     have h9 : (9 : Int) ≠ 0 := by omega
     simp (maxSteps:=1000000) (disch:=first|assumption|omega|rfl) only [↓gp, gc, Nat.reduceAdd, hPS, kB h9]
     exact ⟨rfl, Res.fail h9 hK06⟩
    | false =>
     rw [if_neg (fun hh => by rw [hb] at hh; cases hh.2), if_pos ⟨h0k, c1⟩] at hq
     subst hq
     have h5 : (5 : Int) ≠ 0 := by omega
     simp (maxSteps:=1000000) (disch:=first|assumption|omega|rfl) only [↓gp, gc, Nat.reduceAdd, hPS, jK]
     refine qT (is := [0, 1, 2, 3, 4, 5, 6, 7, 8, 9, 10, 11, 12]) (h := 13) (by kernel_rfl) (by kernel_rfl) ?_
     have hh7 : (S6 ++ List.replicate 13 Ob.hole)[S6.length + 11]? = some .hole := zch (by omega)
     have hK67 : Keep S6 (S6 ++ List.replicate 13 Ob.hole) := Keep.app
     generalize S6 ++ List.replicate 13 Ob.hole = S7 at *
     have hT7 := hT6.keep hK67
     have hra7 := hT7.row
     have hlk7 := fun x => (hT7.st.look x).2
     have hr107 := zF (hK67 _ _ (hK46 _ _ h104))
     obtain ⟨id9, hix9, hre9, _⟩ := (hT7.st.na d trivial).ix (t := 30) Try.underlying30 (by kernel_rfl) hk
     have hset7 := z1k (o := Ob.row [zD zN (.ts []) (.ts [])] 32) hh7
     have hrs7 := zF hset7
     have hps7 := fun y => qB (y := y) hset7
     simp (maxSteps:=1000000) (disch:=first|assumption|omega|rfl) only [List.replicate_zero, eq_self, gd, ga, Nat.reduceAdd, ↓gq, hPS, List.append_nil, qK, qF, z8q, z8w z32v kW, z60, vK, vC, hra7, hr107, lv6, hix9, hre9, le1, hyy, hlk7, hrs7, hps7, sv]
     refine ⟨hh7, fun _ => by kernel_rfl, ?_⟩
     refine ⟨by kernel_rfl, ?_⟩
     have hK68 : Keep S6 ((S7.set (S6.length + 11) (.row [zD zN (.ts []) (.ts [])] 32)).set (S6.length + 11) (.row [zD (getN t y) (A y) (B y)] 32)) := (hK67.set (by omega)).set (by omega)
     have h158 : ((S7.set (S6.length + 11) (.row [zD zN (.ts []) (.ts [])] 32)).set (S6.length + 11) (.row [zD (getN t y) (A y) (B y)] 32))[S6.length + 11]? = some (.row [zD (getN t y) (A y) (B y)] 32) := z1k hset7
     generalize (S7.set (S6.length + 11) (.row [zD zN (.ts []) (.ts [])] 32)).set (S6.length + 11) (.row [zD (getN t y) (A y) (B y)] 32) = S8 at *
     have hT8 := hT6.keep hK68
     have hr158 := zF h158
     have hr128 := zF (hK68 _ _ h126)
     have hr108 := zF (hK68 _ _ (hK46 _ _ h104))
     have hr68 := zF (hK68 _ _ (hK46 _ _ h64))
     have hrr8 := hK68 _ _ hrr6
     simp (maxSteps:=1000000) (disch:=first|assumption|omega|rfl) only [↓gp, gc, Nat.reduceAdd, hPS, hr128, lv1, kB h5]
     exact ⟨rfl, Res.fail h5 (hK06.trans hK68)⟩
   ·rintro v S7 ⟨_, hv⟩
    cases hv
  ·rw [if_neg (fun hh => c1 hh.1), if_neg (fun hh => c1 hh.2)] at hq
   simp (maxSteps:=1000000) (disch:=first|assumption|omega|rfl) only [↓gp, gc, Nat.reduceAdd, hPS, h106, hr126, lv0, lv1, hxi, jF hdd, jK]
   refine qT (is := [0, 1, 2, 3, 4, 5, 6, 7, 8, 9, 10, 11, 12]) (h := 13) (by kernel_rfl) (by kernel_rfl) ?_
   have hh7 : (S6 ++ List.replicate 13 Ob.hole)[S6.length + 11]? = some .hole := zch (by omega)
   have hK67 : Keep S6 (S6 ++ List.replicate 13 Ob.hole) := Keep.app
   generalize S6 ++ List.replicate 13 Ob.hole = S7 at *
   have hT7 := hT6.keep hK67
   have hra7 := hT7.row
   have hlk7 := fun x => (hT7.st.look x).2
   have hr107 := zF (hK67 _ _ (hK46 _ _ h104))
   obtain ⟨id9, hix9, hre9, _⟩ := (hT7.st.na d trivial).ix (t := 30) Try.underlying30 (by kernel_rfl) hk
   have hset7 := z1k (o := Ob.row [zD zN (.ts []) (.ts [])] 32) hh7
   have hrs7 := zF hset7
   have hps7 := fun y => qB (y := y) hset7
   simp (maxSteps:=1000000) (disch:=first|assumption|omega|rfl) only [List.replicate_zero, eq_self, gd, ga, Nat.reduceAdd, ↓gq, hPS, List.append_nil, qK, qF, z8q, z8w z32v kW, z60, vK, vC, hra7, hr107, lv6, hix9, hre9, le1, hyy, hlk7, hrs7, hps7, sv]
   refine ⟨hh7, fun _ => by kernel_rfl, ?_⟩
   refine ⟨by kernel_rfl, ?_⟩
   have hK68 : Keep S6 ((S7.set (S6.length + 11) (.row [zD zN (.ts []) (.ts [])] 32)).set (S6.length + 11) (.row [zD (getN t y) (A y) (B y)] 32)) := (hK67.set (by omega)).set (by omega)
   have h158 : ((S7.set (S6.length + 11) (.row [zD zN (.ts []) (.ts [])] 32)).set (S6.length + 11) (.row [zD (getN t y) (A y) (B y)] 32))[S6.length + 11]? = some (.row [zD (getN t y) (A y) (B y)] 32) := z1k hset7
   generalize (S7.set (S6.length + 11) (.row [zD zN (.ts []) (.ts [])] 32)).set (S6.length + 11) (.row [zD (getN t y) (A y) (B y)] 32) = S8 at *
   have hT8 := hT6.keep hK68
   have hr158 := zF h158
   have hr128 := zF (hK68 _ _ h126)
   have hr108 := zF (hK68 _ _ (hK46 _ _ h104))
   have hr68 := zF (hK68 _ _ (hK46 _ _ h64))
   have hrr8 := hK68 _ _ hrr6
   by_cases c2 : (getN t y).kind = 2
   ·rw [if_pos ⟨h0k, c2⟩] at hq
    subst hq
    have h7 : (7 : Int) ≠ 0 := by omega
    simp (maxSteps:=1000000) (disch:=first|assumption|omega|rfl) only [↓gp, gc, Nat.reduceAdd, hPS, hr128, hr158, lv1, jK, kB h7]
    exact ⟨rfl, Res.fail h7 (hK06.trans hK68)⟩
   rw [if_neg (fun hh => c2 hh.2)] at hq
   have hM := lose c2
   have hents : ∃ e ∈ (getN t d).names, e.name = s := zie (i := 0) (by rw [Nat.zero_add]; exact g1) hk
   have hky : (getN t y).kind ≠ 0 := by rw [← hyy]; exact hG.lj.told (List.getElem_mem hk)
   have hdr := zv4 S8 a m hT8 hG.lj.srt k0 hk2 hG.sm d hdd (hG.lj.nod d) s hents false (fun _ => by rw [g2]; exact z11 (by rw [(qQ hG.lj.srt.uniq hdd).1]; exact hky))
   rw [g2] at hdr
   have hne : renamed t f old d s x y (getN t x).kind = putN (zS (jO (zS t d s) y) f old) d s x := by
    unfold renamed
    simp only [if_pos h0k, if_neg c1]
   rw [hne] at hq
   subst hq
   simp (maxSteps:=1000000) (disch:=first|assumption|omega|rfl) only [↓gp, gc, Nat.reduceAdd, hPS, hr128, hr158, hr108, lv0, lv1, jF hdd, jK]
   refine jG rfl hdr ?_ ?_
   ·rintro v S9 ⟨_, hK9, A9, B9, hT9⟩
    have h69 := hK9 _ _ _ (by decide) (by decide) (hK68 _ _ (hK46 _ _ h64))
    have hr69 := zF h69
    have h109 := hK9 _ _ _ (by decide) (by decide) (hK68 _ _ (hK46 _ _ h104))
    have h129 := hK9 _ _ _ (by decide) (by decide) (hK68 _ _ h126)
    have hrr9 := hK9 _ _ _ (by decide) (by decide) hrr8
    simp (maxSteps:=1000000) (disch:=first|assumption|omega|rfl) only [↓gp, gc, Nat.reduceAdd, hPS, hr69, lv0, jF hdf]
    refine jG rfl (ztm hM (by omega) hT9) ?_ ?_
    ·rintro v S10 ⟨_, hK10, A10, B10, hT10, _⟩
     have h1010 := hK10 _ _ _ (by decide) (by decide) h109
     have h1210 := hK10 _ _ _ (by decide) (by decide) h129
     have hr1010 := zF h1010
     have hr1210 := zF h1210
     have hrr10 := hK10 _ _ _ (by decide) (by decide) hrr9
     simp (maxSteps:=1000000) (disch:=first|assumption|omega|rfl) only [↓gp, gc, Nat.reduceAdd, hPS, hr1010, hr1210, lv0, hxi, jF hdd]
     refine jG rfl (putE hM (by omega) hT10) ?_ ?_
     ·rintro v S11 ⟨_, hK11, A11, B11, hT11, _⟩
      have hr1211 := zF (hK11 _ _ _ (by decide) (by decide) h1210)
      have hrr11 := hK11 _ _ _ (by decide) (by decide) hrr10
      simp (maxSteps:=1000000) (disch:=first|assumption|omega|rfl) only [↓gp, gc, Nat.reduceAdd, hPS, hr1211, lv1]
      exact ⟨rfl, _, rfl, Res.done (v5 := .ts []) (v6 := .ts []) rfl hT11 hrr11 vZ (.inl ⟨rfl, rfl⟩) ((((hK06.trans hK68).toR.trans hK9.toR).trans hK10.toR).trans hK11.toR)⟩
     ·rintro v S11 ⟨⟨w, hv⟩, _⟩
      cases hv
    ·rintro v S10 ⟨⟨w, hv⟩, _⟩
     cases hv
   ·rintro v S9 ⟨⟨w, hv⟩, _⟩
    cases hv
theorem sz5 : (sz Try.prog 5).isSome = true := by kernel_rfl
theorem zok5 : zOk Try.prog 5 = true := by kernel_rfl
theorem zng {n : Nat} (h : n ≤ 1000000) : room Try.prog 5 n = true := z5n (P := Try.prog) (e := 5) rfl (by decide) h
theorem q1d {S : zA} : bs1 Try.prog S 29 (.d (.int .u8 0)) = some (.val (.ts [.int .u8 0]) S 0) := by kernel_rfl
theorem sv5 {n : Node} {a b v : V} (h1 : qH Try.prog 29 v = true) (h2 : v.cells = [v]) : qX Try.prog 29 5 v (zD n a b) = some (zD n v b) := zuo h1 h2
theorem sv4m {n : Node} {a b : V} {y : Int} : qX Try.prog 3 4 (.d (.int .i64 y)) (zD n a b) = some (zD { n with size := y } a b) := by kernel_rfl
theorem zws {S : zA} {v : V} {l : List UInt8} (h : SlE encU S v 5 l) : qH Try.prog 29 v = true := by
 rcases h with ⟨rfl, _⟩ | ⟨id, ys, rfl, _⟩ <;> kernel_rfl
theorem zwa {S : zA} {v : V} {l : List UInt8} (h : SlE encU S v 5 l) (hl : l.length < 900000) : ∃ v' S' c, qI Try.prog S 29 29 v (.ts [.int .u8 0]) = some (v', S', c) ∧ SlE encU S' v' 5 (l ++ [0]) ∧ (∀ (j : Nat) (o : Ob), S[j]? = some o → idOf v ≠ some j → S'[j]? = some o) ∧ idOf v' = some S.length ∧ S.length ≤ S'.length := by
 have src1 : srcV Try.prog S 5 29 (.ts [.int .u8 0]) = some [.d (.int .u8 0)] := by kernel_rfl
 rcases h with ⟨rfl, rfl⟩ | ⟨id, ys, rfl, h1⟩
 ·refine ⟨.rs S.length 0 1, S ++ [.row [.d (.int .u8 0)] 5], 2, ?_, .inr ⟨S.length, [], rfl, by simp⟩, fun j o hj _ => Keep.app _ _ hj, rfl, by simp⟩
  have hr := zng (n := 0 + (0 + 1)) (by omega)
  simp only [qI, Try.underlying29, src1, zok5, if_true, List.all_nil, List.length_nil, hr, Bool.and_self, List.map_nil, List.nil_append]
 ·have hid := qM h1
  have htk : ((l ++ ys).map fun a => V.d (encU a)).take l.length = l.map fun a => V.d (encU a) := by rw [← List.map_take, List.take_append_of_le_length (Nat.le_refl _), List.take_length]
  refine ⟨.rs S.length 0 (l.length + 1), S.set id .dead ++ [.row (l.map (fun a => V.d (encU a)) ++ [.d (.int .u8 0)]) 5], 3, ?_, .inr ⟨S.length, [], by simp, ?_⟩, ?_, rfl, by simp⟩
  ·have hr := zng (n := l.length + (0 + 1)) (by omega)
   have hlen : ((l ++ ys).map fun a => V.d (encU a)).length = l.length + ys.length := by simp
   have h2 : l.length ≤ l.length + ys.length := by omega
   simp only [qI, Try.underlying29, src1, zok5, if_true, h1, hlen, hr, h2, htk, List.length_nil, decide_true, Bool.and_self, Nat.zero_add]
  ·rw [List.getElem?_append_right (by simp)]
   simp
  ·intro j o hj hn
   have hjl := qM hj
   rw [List.getElem?_append_left (by simpa using hjl), List.getElem?_set_ne]
   ·exact hj
   ·rintro rfl; exact hn rfl
theorem zne {S : zA} {v : V} {l : List UInt8} {k : Nat} (h : SlE encU S v 5 l) (hk : k ≤ l.length) : ∃ va, jM Try.prog S 29 v none (some (.d (.int .i64 k))) = some va ∧ SlE encU S va 5 (l.take k) ∧ (∀ i, idOf va = some i → idOf v = some i) := by
 rcases h with ⟨rfl, rfl⟩ | ⟨id, ys, rfl, h1⟩
 ·have : k = 0 := by simpa using hk
  subst this
  refine ⟨.ts [], ?_, .inl ⟨rfl, rfl⟩, fun i hi => hi⟩
  have h1 := bnd (y := ([] : List D).length) (d := ([] : List D).length) (k := 0) (by simp)
  simp only [jM, Try.underlying29, h1, z1l, List.all_nil, sz5, Bool.and_self, if_true]
  rfl
 ·refine ⟨.rs id 0 k, ?_, .inr ⟨id, l.drop k ++ ys, by rw [List.length_take, Nat.min_eq_left hk], by rw [← List.append_assoc, List.take_append_drop]; exact h1⟩, fun i hi => hi⟩
  have h3 : rowT S id 5 = true := by simp only [rowT, h1, beq_self_eq_true]
  simp only [jM, Try.underlying29, bnd hk, z1l, h3, sz5, Bool.and_self, if_true, Nat.zero_add, Nat.sub_zero]
def sizedB (l : List UInt8) (k : Nat) : List UInt8 := (l ++ List.replicate (k - l.length) 0).take k
theorem z4v {l : List UInt8} {k : Nat} : (sizedB l k).length = k := by
 unfold sizedB
 rw [List.length_take, List.length_append, List.length_replicate]
 omega
theorem zrv (S0 : zA) (n : Node) (va vb x0 x3 : V) (size : Nat) (hsz : size ≤ 34304) (i2 i4 : Nat) (h24 : i2 ≠ i4) (hi2 : S0.length ≤ i2) (hi4 : S0.length ≤ i4) (z : V) (R : Post) : ∀ (k : Nat) (l : List UInt8) (S : zA) (v : V) (g5 g6 g7 g8 g9 gH gO gI gD gA gE gF gG gB gC gJ gK gN : V), size - l.length = k → l.length ≤ 40000 → SlE encU S v 5 l → S[i2]? = some (.row [zD n v vb] 32) → S[i4]? = some (.row [z] 32) → (∀ (j : Nat) (o : Ob), S0[j]? = some o → idOf va ≠ some j → S[j]? = some o) → (∀ i, idOf v = some i → idOf va = some i ∨ S0.length ≤ i) → S0.length ≤ S.length →
 (∀ S v g5 g6 g7 g8 g9 gH gO gI gD gA gE gF gG gB gC gJ gK gN, SlE encU S v 5 (l ++ List.replicate (size - l.length) 0) → S[i2]? = some (.row [zD n v vb] 32) → S[i4]? = some (.row [z] 32) → (∀ (j : Nat) (o : Ob), S0[j]? = some o → idOf va ≠ some j → S[j]? = some o) → (∀ i, idOf v = some i → idOf va = some i ∨ S0.length ≤ i) → S0.length ≤ S.length → R (.exit 0) (x0 :: (.d (.int .i64 size)) :: (.ref i2 0 0) :: x3 :: (.ref i4 0 0) :: g5 :: g6 :: g7 :: g8 :: g9 :: gH :: gO :: gI :: gD :: gA :: gE :: gF :: gG :: gB :: gC :: gJ :: gK :: gN :: []) S []) →
 Wp cfgS (.loop (lpOf (Try.f110.body.getD .skip) 0)) (x0 :: (.d (.int .i64 size)) :: (.ref i2 0 0) :: x3 :: (.ref i4 0 0) :: g5 :: g6 :: g7 :: g8 :: g9 :: gH :: gO :: gI :: gD :: gA :: gE :: gF :: gG :: gB :: gC :: gJ :: gK :: gN :: []) S [] R := by
 intro k
 induction k with
 | zero =>
  intro l S v g5 g6 g7 g8 g9 gH gO gI gD gA gE gF gG gB gC gJ gK gN hk hl hv h2 h4 hf hi hS hR
  have hr2 := zF h2
  have hlen := hv.len (t := 29) Try.underlying29
  have hge : ¬ (l.length : Int) < (size : Int) := by omega
  rw [qL]
  refine zU ?_
  conv => arg 2; whnf
  simp (maxSteps:=1000000) (disch:=first|assumption|omega|rfl) only [↓gp, gc, Nat.reduceAdd, hPS, hr2, lv5, hlen]
  exact hR S v _ _ _ _ _ _ _ _ _ _ _ _ _ _ _ _ _ _ (by rw [hk, List.replicate_zero, List.append_nil]; exact hv) h2 h4 hf hi hS
 | succ k ih =>
  intro l S v g5 g6 g7 g8 g9 gH gO gI gD gA gE gF gG gB gC gJ gK gN hk hl hv h2 h4 hf hi hS hR
  have hr2 := zF h2
  have hlen := hv.len (t := 29) Try.underlying29
  have hge : (l.length : Int) < (size : Int) := by omega
  obtain ⟨v', S', c, happ, hv', hf', hid, hSl⟩ := zwa hv (by omega)
  have notv : ∀ (j : Nat) (ys : List V), S[j]? = some (.row ys 32) → idOf v ≠ some j := fun j ys hj hh => by
   obtain ⟨zs, q⟩ := hv.row hh
   rw [hj] at q; cases q
  have h2' := hf' _ _ h2 (notv _ _ h2)
  have h4' := hf' _ _ h4 (notv _ _ h4)
  have hr2' := zF h2'
  have hpr2 := fun y => qB (y := y) h2'
  have hst := sv5 (n := n) (a := v) (b := vb) (zws hv') hv'.cells
  have hlt2 := qM h2
  rw [qL]
  refine zU ?_
  conv => arg 2; whnf
  simp (maxSteps:=1000000) (disch:=first|assumption|omega|rfl) only [↓gp, gc, Nat.reduceAdd, hPS, hr2, lv5, hlen, q1d, happ, hr2', hst, hpr2]
  refine ih (l ++ [0]) _ v' _ _ _ _ _ _ _ _ _ _ _ _ _ _ _ _ _ _ (by rw [List.length_append]; simp; omega) (by rw [List.length_append]; simp; omega) ?_ (jL h2') (by rw [List.getElem?_set_ne h24]; exact h4') ?_ (fun i hi => by rw [hid] at hi; cases hi; exact .inr hS) (by rw [List.length_set]; omega) ?_
  ·refine hv'.frame2 fun j o hj hi => ?_
   rw [hid] at hi
   cases hi
   rw [List.getElem?_set_ne (by omega)]
   exact hj
  ·intro j o hj hn
   have hjl := qM hj
   have h1 := hf j o hj hn
   rw [List.getElem?_set_ne (by omega)]
   refine hf' j o h1 fun hh => ?_
   rcases hi _ hh with h3 | h3
   ·exact hn h3
   ·omega
  ·intro S v g5 g6 g7 g8 g9 gH gO gI gD gA gE gF gG gB gC gJ gK gN h1
   refine hR S v _ _ _ _ _ _ _ _ _ _ _ _ _ _ _ _ _ _ ?_
   have e : l ++ [0] ++ List.replicate (size - (l ++ [0]).length) (0 : UInt8) = l ++ List.replicate (size - l.length) 0 := by
    rw [List.length_append, List.length_singleton, hk, show size - (l.length + 1) = k by omega, List.append_assoc]
    rfl
   rw [← e]; exact h1
theorem zq9 (S0 : zA) (n : Node) (va vb : V) (hda : SlE encU S0 va 5 n.data) (hnb : SlE zJ S0 vb 88 n.names) (hnl : n.data.length ≤ 34304) (size : Nat) (hsz : size ≤ 34304) :
  EvS cfgS 110 [zD n va vb, .d (.int .i64 size)] S0 fun o S => ∃ v', o = .ret (zD { n with size := size } v' vb) ∧ SlE encU S v' 5 (sizedB n.data size) ∧ (∀ (j : Nat) (q : Ob), S0[j]? = some q → idOf va ≠ some j → S[j]? = some q) ∧ (∀ i, idOf v' = some i → idOf va = some i ∨ S0.length ≤ i) ∧ S0.length ≤ S.length := by
 refine wU rfl zsz ?_
 show Wp cfgS (Try.f110.body.getD .skip) ((zD n va vb) :: (.d (.int .i64 size)) :: uZ (uZ ((.tup []) :: []))) S0 [] _
 unfold uZ
 conv => arg 2; whnf
 rw [qL]
 have hfN : qH Try.prog 32 (zD n va vb) = true := by
  rcases hda with ⟨rfl, _⟩ | ⟨id, ys, rfl, _⟩ <;> rcases hnb with ⟨rfl, _⟩ | ⟨id', ys', rfl, _⟩ <;> kernel_rfl
 simp (maxSteps:=1000000) (disch:=first|assumption|omega|rfl) only [↓gp, gc, Nat.reduceAdd, hPS, zagg, z32v, kW, hfN]
 have hl2 : (S0 ++ [Ob.row [zD n va vb] 32] ++ [Ob.row [zD zN (.ts []) (.ts [])] 32])[S0.length]? = some (.row [zD n va vb] 32) := qS jC
 have hl4 : (S0 ++ [Ob.row [zD n va vb] 32] ++ [Ob.row [zD zN (.ts []) (.ts [])] 32])[(S0 ++ [Ob.row [zD n va vb] 32]).length]? = some (.row [zD zN (.ts []) (.ts [])] 32) := jC
 have hK : Keep S0 (S0 ++ [Ob.row [zD n va vb] 32] ++ [Ob.row [zD zN (.ts []) (.ts [])] 32]) := Keep.app.trans Keep.app
 refine zrv S0 n va vb _ _ size hsz S0.length (S0 ++ [Ob.row [zD n va vb] 32]).length (by simp) (by omega) (by simp) _ _ (size - n.data.length) n.data _ va _ _ _ _ _ _ _ _ _ _ _ _ _ _ _ _ _ _ rfl (by omega) (hda.keep hK) hl2 hl4 (fun j q hj _ => hK j q hj) (fun i hi => .inl hi) hK.len ?_
 intro S v g5 g6 g7 g8 g9 gH gO gI gD gA gE gF gG gB gC gJ gK gN hv h2 h4 hf hi hS
 have hlen : (n.data ++ List.replicate (size - n.data.length) (0 : UInt8)).length = n.data.length + (size - n.data.length) := by rw [List.length_append, List.length_replicate]
 obtain ⟨v', e1, hv', hid⟩ := zne (k := size) hv (by omega)
 have hv' : SlE encU S v' 5 (sizedB n.data size) := hv'
 have hr2 := zF h2
 have hpr2 := fun y => qB (y := y) h2
 have hst := sv5 (n := n) (a := v) (b := vb) (zws hv') hv'.cells
 have hrr : ∀ y, rowE (S.set S0.length (.row [y] 32)) S0.length 0 = some y := fun y => zF (jL h2)
 have hpp : ∀ y z, z22 (S.set S0.length (.row [y] 32)) S0.length 0 z = some ((S.set S0.length (.row [y] 32)).set S0.length (.row [z] 32)) := fun y z => qB (jL h2)
 have hlt4 : (S0 ++ [Ob.row [zD n va vb] 32]).length = S0.length + 1 := by simp
 generalize (S0 ++ [Ob.row [zD n va vb] 32]).length = i4 at *
 subst hlt4
 have h44 : ∀ y z, ((S.set S0.length (.row [y] 32)).set S0.length (.row [z] 32))[S0.length + 1]? = some (.row [zD zN (.ts []) (.ts [])] 32) := fun y z => by
  rw [List.getElem?_set_ne (by omega), List.getElem?_set_ne (by omega)]; exact h4
 have hr44 := fun y z => zF (h44 y z)
 have hp44 := fun y z w => qB (y := w) (h44 y z)
 have hrr2 : ∀ y z, rowE ((S.set S0.length (.row [y] 32)).set S0.length (.row [z] 32)) S0.length 0 = some z := fun y z => zF (jL (jL h2))
 simp (maxSteps:=1000000) (disch:=first|assumption|omega|rfl) only [↓gp, gc, Nat.reduceAdd, hPS, hr2, lv5, e1, hst, hpr2, hrr, hpp, sv4m, hrr2, lv, sv, hr44, hp44]
 have hne : ∀ (j : Nat) (q : Ob), S[j]? = some q → j ≠ S0.length → j ≠ S0.length + 1 → (((S.set S0.length (.row [zD n v' vb] 32)).set S0.length (.row [zD { n with size := size } v' vb] 32)).set (S0.length + 1) (.row [zD { n with size := size } v' vb] 32))[j]? = some q := fun j q hj n1 n2 => by
  rw [List.getElem?_set_ne (Ne.symm n2), List.getElem?_set_ne (Ne.symm n1), List.getElem?_set_ne (Ne.symm n1)]; exact hj
 refine ⟨rfl, _, z6x (jL (h44 _ _)), v', rfl, ?_, ?_, ?_, ?_⟩
 ·refine hv'.frame2 fun j o hj hh => hne j o hj ?_ ?_
  ·rintro rfl
   obtain ⟨zs, q⟩ := hv'.row hh
   rw [h2] at q; cases q
  ·rintro rfl
   obtain ⟨zs, q⟩ := hv'.row hh
   rw [h4] at q; cases q
 ·intro j q hj hn
  have := qM hj
  exact hne j q (hf j q hj hn) (by omega) (by omega)
 ·intro i hh
  exact hi i (hid i hh)
 ·simp only [List.length_set]; exact hS
theorem zca {a : Int} {d : List UInt8} : ∀ {l : List UInt8} {i j : Nat}, (layA a d i l)[j]? = l[j]?.map fun x => if 0 ≤ a ∧ a ≤ ((i + j : Nat) : Int) ∧ ((i + j : Nat) : Int) - a < d.length then d.getD (((i + j : Nat) : Int) - a).toNat 0 else x
 | [], i, j => by simp [layA]
 | x :: r, i, 0 => by simp [layA]
 | x :: r, i, j + 1 => by
  have ih := zca (a := a) (d := d) (l := r) (i := i + 1) (j := j)
  have e : i + 1 + j = i + (j + 1) := by omega
  rw [e] at ih
  simpa [layA] using ih
theorem zfi (l : List UInt8) (k : Nat) : layN (List.replicate k 0) 0 l = sizedB l k := by
 refine List.ext_getElem? fun j => ?_
 unfold layN sizedB
 rw [zca, Nat.zero_add, List.getElem?_replicate, List.getElem?_take]
 by_cases hj : j < k
 ·rw [if_pos hj, if_pos hj, Option.map_some]
  by_cases hl : j < l.length
  ·rw [if_pos (by omega), List.getElem?_append_left hl, List.getElem?_eq_getElem hl]
   have : ((j : Int) - 0).toNat = j := by omega
   rw [this, List.getD_eq_getElem?_getD, List.getElem?_eq_getElem hl]
   rfl
  ·rw [if_neg (by omega), List.getElem?_append_right (by omega), List.getElem?_replicate, if_pos (by omega)]
 ·rw [if_neg hj, if_neg hj]
  rfl
theorem zzd (l d : List UInt8) (off : Nat) (h : off + d.length ≤ l.length) : layN l off d = l.take off ++ d ++ l.drop (off + d.length) := by
 refine List.ext_getElem? fun j => ?_
 unfold layN
 rw [zca, Nat.zero_add]
 by_cases h1 : j < off
 ·rw [List.append_assoc, List.getElem?_append_left (by rw [List.length_take]; omega), List.getElem?_take, if_pos h1, List.getElem?_eq_getElem (by omega), Option.map_some, if_neg (by omega)]
 ·by_cases h2 : j < off + d.length
  ·rw [List.append_assoc, List.getElem?_append_right (by rw [List.length_take]; omega), List.length_take, Nat.min_eq_left (by omega), List.getElem?_append_left (by omega), List.getElem?_eq_getElem (show j < l.length by omega), Option.map_some, if_pos (by omega)]
   have : ((j : Int) - off).toNat = j - off := by omega
   rw [this, List.getD_eq_getElem?_getD, List.getElem?_eq_getElem (show j - off < d.length by omega)]
   rfl
  ·rw [List.getElem?_append_right (by rw [List.length_append, List.length_take]; omega), List.length_append, List.length_take, Nat.min_eq_left (by omega), List.getElem?_drop]
   rw [show off + d.length + (j - (off + d.length)) = j by omega]
   cases hlj : l[j]? with
   | none => rfl
   | some x => rw [Option.map_some, if_neg (by omega)]
theorem zz1 {P : Program} {S : zA} {ts : List TypeId} {x y : Int} : qD P S .max ts [.d (.int .i64 x), .d (.int .i64 y)] = some (.val (.d (.int .i64 (if y > x then y else x))) S 0) := by
 cases ts <;> simp [qD, zf8, zo7]
theorem zvs {P : Program} {S : zA} {ts : List TypeId} {x y : Int} : qD P S .min ts [.d (.int .i64 x), .d (.int .i64 y)] = some (.val (.d (.int .i64 (if y < x then y else x))) S 0) := by
 cases ts <;> simp [qD, zf8, zq3]
theorem zg1 {P : Program} {S : zA} {t tx : TypeId} {d x : V} : qD P S .copy [t, tx] [d, x] = (copyV P S t tx d x).map fun r => .val r.1 r.2 3 := rfl
theorem zsf {S : zA} {l : List UInt8} : srcV Try.prog S 5 29 (.d (encB l)) = some (l.map fun b => .d (encU b)) := by
 have hf : (l.map fun b => V.d (encU b)).all (qH Try.prog 5) = true := by
  rw [List.all_eq_true]
  intro x hx
  obtain ⟨b, _, rfl⟩ := List.mem_map.1 hx
  kernel_rfl
 have he : wH S (.d (encB l)) = some (l.map fun b => V.d (encU b)) := by
  simp only [encB, wH, List.map_map, Function.comp_def]
 unfold encB at he ⊢
 simp only [srcV, Try.underlying29]
 rw [he]
 simp only [hf, sz5, Bool.and_self, if_true]
theorem z6w {k : Nat} {t : List Node} {x : Int} (hS : Small k t) : (getN t x).size = (getN t x).data.length ∧ (getN t x).data.length ≤ 34304 := by
 rcases jN t x with ⟨h1, _⟩ | ⟨h1, _⟩
 ·rw [h1]; exact ⟨rfl, Nat.zero_le _⟩
 ·have := hS.siz _ h1
  omega
theorem av5 {x : Ans} {v5 v6 v : V} (h1 : qH Try.prog 29 v = true) (h2 : v.cells = [v]) : qX Try.prog 29 5 v (ansV x v5 v6) = some (ansV x v v6) := zs6 h1 h2
theorem zsw {P : Program} {S : zA} {ts : List TypeId} {x y w : Int} (h : (if y < x then y else x) = w) : qD P S .min ts [.d (.int .i64 x), .d (.int .i64 y)] = some (.val (.d (.int .i64 w)) S 0) := by rw [zvs, h]
theorem zt8 {P : Program} {S : zA} {ts : List TypeId} {x y w : Int} (h : (if y > x then y else x) = w) : qD P S .max ts [.d (.int .i64 x), .d (.int .i64 y)] = some (.val (.d (.int .i64 w)) S 0) := by rw [zz1, h]
theorem zmc {S : zA} {v : V} {l : List UInt8} {p w : Nat} (h : SlE encU S v 5 l) (h0 : p < l.length) (hk : p + w ≤ l.length) : ∃ id ys, v = .rs id 0 l.length ∧ S[id]? = some (.row ((l ++ ys).map fun a => .d (encU a)) 5) ∧ jM Try.prog S 29 v (some (.d (.int .i64 p))) (some (.d (.int .i64 ((p : Int) + (w : Int))))) = some (.rs id p w) := by
 rcases h with ⟨rfl, rfl⟩ | ⟨id, ys, rfl, h1⟩
 ·simp at h0
 ·refine ⟨id, ys, rfl, h1, ?_⟩
  have h3 : rowT S id 5 = true := by simp only [rowT, h1, beq_self_eq_true]
  have e : (p : Int) + (w : Int) = ((p + w : Nat) : Int) := by omega
  rw [e]
  have hb := bnd (y := p + w) (d := 0) (k := p) (by omega)
  simp only [jM, Try.underlying29, bnd hk, hb, h3, sz5, Bool.and_self, if_true, Nat.zero_add, Nat.add_sub_cancel_left]
theorem zm1 {S : zA} {l ys : List UInt8} {id p w : Nat} (h : S[id]? = some (.row ((l ++ ys).map fun a => .d (encU a)) 5)) (hk : p + w ≤ l.length) : srcV Try.prog S 5 29 (.rs id p w) = some (((l.drop p).take w).map fun a => .d (encU a)) := by
 have hf : (((l.drop p).take w).map fun b => V.d (encU b)).all (qH Try.prog 5) = true := by
  rw [List.all_eq_true]
  intro x hx
  obtain ⟨b, _, rfl⟩ := List.mem_map.1 hx
  kernel_rfl
 have hl : ((l ++ ys).map fun a => V.d (encU a)).length = l.length + ys.length := by simp
 have hx : ((((l ++ ys).map fun a => V.d (encU a)).drop p).take w) = ((l.drop p).take w).map fun b => V.d (encU b) := by
  rw [← List.map_drop, ← List.map_take, List.drop_append_of_le_length (by omega), List.take_append_of_le_length (by rw [List.length_drop]; omega)]
 have hle : p + w ≤ l.length + ys.length := by omega
 simp only [srcV, Try.underlying29, wH, h, hl, hle, if_true, hx, hf, sz5, Bool.and_self]
theorem q0n (S0 : zA) (a m r : Nat) (A B : Int → V) (t : List Node) (hT0 : Tree S0 a m A B t) (k0 : Nat) (hk0 : k0 < 200000) (hG : Good k0 t) (o : Opn) (hdo : o.does = 8) (hl : o.a.length < 900000) (hr : S0[r]? = some (.row [ansV okN (.ts []) (.ts [])] 44)) :
  EvS cfgS 81 [.ref a 0 0, .d (encOpn o), .ref r 0 0] S0 (Res S0 a m r (wI t o)) := by
 have hk1 : k0 < 300000 := by omega
 refine wU rfl zvw ?_
 show Wp cfgS (Try.f81.body.getD .skip) ((.ref a 0 0) :: (.d (encOpn o)) :: (.ref r 0 0) :: uZ (uZ (uZ (uZ ((.tup []) :: (.tup []) :: (.tup []) :: []))))) S0 [] _
 unfold uZ
 conv => arg 2; whnf
 rw [qL]
 have hT1 := hT0.keep (Keep.app (l := [Ob.row [.d (encOpn o)] 48]))
 simp (maxSteps:=1000000) (disch:=first|assumption|omega|rfl) only [↓gp, gc, Nat.reduceAdd, hPS, zT]
 generalize hq : wI t o = q
 unfold wI z3w at hq
 refine zcw hT1 hG.told hk1 hG.sm hl ?_ ?_
 ·intro h0 h2 S1 hK1
  rw [if_neg (by simp [h0]), if_neg h2, if_neg (by omega), if_pos hdo] at hq
  have hsz := (z6w (x := (zE t o.a).1) hG.sm).2
  generalize (zE t o.a).1 = x at *
  have hK01 := Keep.app.trans hK1
  have h4 := hK1 _ _ (jC (S := S0) (o := Ob.row [.d (encOpn o)] 48))
  have hr4 : ∀ l, rowE (S1 ++ l) S0.length 0 = some (.d (encOpn o)) := fun l => zF (qS h4)
  have hT2 := hT0.keep (hK01.trans (Keep.app (l := [Ob.row [zD (getN t x) (A x) (B x)] 32])))
  have h6 := jC (S := S1) (o := Ob.row [zD (getN t x) (A x) (B x)] 32)
  have hrr := (hK01.trans (Keep.app (l := [Ob.row [zD (getN t x) (A x) (B x)] 32]))) _ _ hr
  by_cases c1 : o.off < 0
  ·rw [if_pos c1] at hq
   subst hq
   have h1 : (1 : Int) ≠ 0 := by omega
   simp (maxSteps:=1000000) (disch:=first|assumption|omega|rfl) only [↓gp, gc, Nat.reduceAdd, hPS, zagg, z32v, kW, kP, svz, sv, lv, zT, zQ, hr4, kB h1]
   exact ⟨rfl, Res.fail h1 (hK01.trans Keep.app)⟩
  rw [if_neg c1] at hq
  by_cases c2 : o.n < 0
  ·rw [if_pos c2] at hq
   subst hq
   have h1 : (1 : Int) ≠ 0 := by omega
   simp (maxSteps:=1000000) (disch:=first|assumption|omega|rfl) only [↓gp, gc, Nat.reduceAdd, hPS, zagg, z32v, kW, kP, svz, sv, lv, zT, zQ, hr4, kB h1]
   exact ⟨rfl, Res.fail h1 (hK01.trans Keep.app)⟩
  rw [if_neg c2] at hq
  have hlen := (hT2.st.da x trivial).len (t := 29) Try.underlying29
  by_cases c3 : o.off < ((getN t x).data.length : Int)
  ·obtain ⟨p, hp⟩ : ∃ p : Nat, o.off = p := ⟨o.off.toNat, by omega⟩
   obtain ⟨w, hw⟩ : ∃ w : Nat, (if ((getN t x).data.length : Int) - (p : Int) < o.n then ((getN t x).data.length : Int) - (p : Int) else o.n) = w := by
    refine ⟨(if ((getN t x).data.length : Int) - (p : Int) < o.n then ((getN t x).data.length : Int) - (p : Int) else o.n).toNat, ?_⟩
    split <;> omega
   have hwl : p + w ≤ (getN t x).data.length := by
    split at hw <;> omega
   have hpd : z8l (getN t x).data o.off o.n = ((getN t x).data.drop p).take w := by
    unfold z8l
    rw [hp]
    by_cases hw0 : w = 0
    ·rw [if_pos (by split at hw <;> omega), hw0, List.take_zero]
    ·rw [if_neg (by split at hw <;> omega)]
     have e1 : ((p : Int)).toNat = p := by omega
     have e2 : (if ((getN t x).data.length : Int) - (p : Int) < o.n then ((getN t x).data.length : Int) else (p : Int) + o.n).toNat = p + w := by
      split at hw <;> rename_i hh
      ·rw [if_pos hh]; omega
      ·rw [if_neg hh]; omega
     rw [e1, e2, List.drop_take, Nat.add_sub_cancel_left]
   obtain ⟨id, ys, hA, hrow, hsl⟩ := zmc (p := p) (w := w) (hT2.st.da x trivial) (by omega) hwl
   have hsrc := zm1 (l := (getN t x).data) (ys := ys) hrow hwl
   have hrv : rowE (S1 ++ [Ob.row [zD (getN t x) (A x) (B x)] 32]) r 0 = some (ansV okN (.ts []) (.ts [])) := zF hrr
   have hpr := fun y => qB (y := y) hrr
   have hst := av5 (x := okN) (v5 := .ts []) (v6 := .ts []) (v := .rs id p w) (by kernel_rfl) rfl
   have hT3 := hT2.other (o := .row [ansV okN (.rs id p w) (.ts [])] 44) hrr (by decide) (by decide) (by decide)
   have c3' : (p : Int) < ((getN t x).data.length : Int) := by omega
   simp (maxSteps:=1000000) (disch:=first|assumption|omega|rfl) only [↓gp, gc, Nat.reduceAdd, hPS, zagg, z32v, kW, kP, svz, sv, lv, zT, zQ, hr4, jK, lv5, hlen, hp, zsw hw, hsl, qF, hrv, hst, hpr]
   subst hq
   rw [hpd]
   refine ⟨rfl, _, rfl, Res.done (v5 := .rs id p w) (v6 := .ts []) rfl hT3 (jL hrr) ?_ (.inl ⟨rfl, rfl⟩) ((hK01.trans Keep.app).toR.setR)⟩
   refine zm1 (l := (getN t x).data) (ys := ys) ?_ hwl
   rw [List.getElem?_set_ne]
   ·exact hrow
   ·rintro rfl
    have q := hrow.symm.trans hrr
    simp only [Option.some.injEq, Ob.row.injEq] at q
    exact absurd q.2 (by decide)
  ·simp (maxSteps:=1000000) (disch:=first|assumption|omega|rfl) only [↓gp, gc, Nat.reduceAdd, hPS, zagg, z32v, kW, kP, svz, sv, lv, zT, zQ, hr4, jK, lv5, hlen]
   have e : z8l (getN t x).data o.off o.n = [] := by unfold z8l; rw [if_pos (by omega)]
   subst hq
   rw [e]
   exact ⟨rfl, _, rfl, Res.done (v5 := .ts []) (v6 := .ts []) rfl hT2 hrr vZ (.inl ⟨rfl, rfl⟩) (hK01.trans Keep.app).toR⟩
 ·rintro e (⟨h0, rfl⟩ | ⟨h0, h2, rfl⟩) S1 hK1
  ·rw [if_pos h0] at hq
   subst hq
   exact ⟨rfl, Res.fail h0 (Keep.app.trans hK1)⟩
  ·rw [if_neg (by simp [h0]), if_pos h2] at hq
   subst hq
   exact ⟨rfl, Res.fail (by omega) (Keep.app.trans hK1)⟩
end Go.Proofs.Ytghllhghboaagaa
end
