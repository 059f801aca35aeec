/- The value machine: what ran with a hole in the store runs the same with any object in its place, and leaves it. Single operations. -/
import Derived.Orders
import Derived.Test.YtobgdmgldagjkaaGreatA03
set_option linter.unusedVariables false
set_option linter.unusedSimpArgs false
section
namespace Go.Vm
theorem z1e {S : zB} {id : Nat} {o : Ob} (h : S[id]? = some o) : id < S.length := by
 rcases Nat.lt_or_ge id S.length with h' | h'
 ·exact h'
 ·simp [List.getElem?_eq_none h'] at h
theorem jA {S : zB} {id j : Nat} {o : Ob} (ob : Ob) (hS : S[id]? = some .hole) (h : S[j]? = some o) (hne : o ≠ .hole) : (S.set id ob)[j]? = some o := by
 have : id ≠ j := by rintro rfl; rw [hS] at h; cases h; exact hne rfl
 rw [List.getElem?_set_ne this]; exact h
theorem vT {S : zB} {id j : Nat} {o : Ob} (ob x : Ob) (hS : S[id]? = some .hole) (h : S[j]? = some o) (hne : o ≠ .hole) : (S.set id ob).set j x = (S.set j x).set id ob ∧ (S.set j x)[id]? = some .hole := by
 have : id ≠ j := by rintro rfl; rw [hS] at h; cases h; exact hne rfl
 exact ⟨List.set_comm _ _ this, by rw [List.getElem?_set_ne (Ne.symm this)]; exact hS⟩
theorem z0d {S : zB} {id : Nat} (ob x : Ob) (hS : S[id]? = some .hole) : (S.set id ob) ++ [x] = (S ++ [x]).set id ob ∧ (S ++ [x])[id]? = some .hole := by
 have := z1e hS
 exact ⟨by rw [List.set_append_left _ _ this], by rw [List.getElem?_append_left this]; exact hS⟩
section
variable {P : Program} {S : zB} {id : Nat}
theorem zae {t : TypeId} {x y : V} (ob : Ob) (hS : S[id]? = some .hole) (h : kF P S t x = some y) : kF P (S.set id ob) t x = some y := by
 unfold kF at h ⊢
 split at h
 ·rename_i j ix off
  cases ho : S[j]? with
  | none => simp [ho] at h
  | some o =>
   by_cases hne : o = .hole
   ·subst hne; simp [ho] at h
   ·simp only [ho] at h; simp only [jA ob hS ho hne]; exact h
 ·exact h
 ·cases h
theorem z90 {x : V} {y : List V} (ob : Ob) (hS : S[id]? = some .hole) (h : kK S x = some y) : kK (S.set id ob) x = some y := by
 unfold kK at h ⊢
 split at h
 ·exact h
 ·exact h
 ·rename_i j off len
  cases ho : S[j]? with
  | none => simp [ho] at h
  | some o =>
   by_cases hne : o = .hole
   ·subst hne; simp [ho] at h
   ·simp only [ho] at h; simp only [jA ob hS ho hne]; exact h
 ·rename_i j ix off len
  cases ho : S[j]? with
  | none => simp [ho] at h
  | some o =>
   by_cases hne : o = .hole
   ·subst hne; simp [ho] at h
   ·simp only [ho] at h; simp only [jA ob hS ho hne]; exact h
 ·exact h
 ·cases h
theorem z4s {x : V} {y : List (D × V)} (ob : Ob) (hS : S[id]? = some .hole) (h : kM S x = some y) : kM (S.set id ob) x = some y := by
 unfold kM at h ⊢
 split at h
 ·exact h
 ·exact h
 ·rename_i j
  cases ho : S[j]? with
  | none => simp [ho] at h
  | some o =>
   by_cases hne : o = .hole
   ·subst hne; simp [ho] at h
   ·simp only [ho] at h; simp only [jA ob hS ho hne]; exact h
 ·cases h
theorem zcj {t : TypeId} {x k y : V} {ok : Bool} (ob : Ob) (hS : S[id]? = some .hole) (h : wI P S t x k ok = some y) : wI P (S.set id ob) t x k ok = some y := by
 unfold wI at h ⊢
 split at h
 ·split at h
  ·rename_i hk
   rw [if_pos hk]
   cases he : kM S x with
   | none => simp [he] at h
   | some es => simp only [he] at h; simp only [z4s ob hS he]; exact h
  ·cases h
 ·cases h
theorem zde {j : Nat} {e : TypeId} (ob : Ob) (hS : S[id]? = some .hole) (h : rowT S j e = true) : rowT (S.set id ob) j e = true := by
 unfold rowT at h ⊢
 cases ho : S[j]? with
 | none => simp [ho] at h
 | some o =>
  by_cases hne : o = .hole
  ·subst hne; simp [ho] at h
  ·simp only [ho] at h; simp only [jA ob hS ho hne]; exact h
theorem zkr {j : Nat} (ob : Ob) (hS : S[id]? = some .hole) (h : rowB S j = true) : rowB (S.set id ob) j = true := by
 unfold rowB at h ⊢
 cases ho : S[j]? with
 | none => simp [ho] at h
 | some o =>
  by_cases hne : o = .hole
  ·subst hne; simp [ho] at h
  ·simp only [ho] at h; simp only [jA ob hS ho hne]; exact h
theorem z98 {t : TypeId} {x ix y : V} (ob : Ob) (hS : S[id]? = some .hole) (h : zI P S t x ix = some y) : zI P (S.set id ob) t x ix = some y := by
 unfold zI at h ⊢
 split at h
 ·cases h
 ·split at h
  ·split at h
   ·split at h
    ·rename_i hc
     rw [if_pos ⟨hc.1, zde ob hS hc.2.1, hc.2.2⟩]; exact h
    ·cases h
   ·split at h
    ·rename_i hc
     rw [if_pos ⟨hc.1, zkr ob hS hc.2.1, hc.2.2⟩]; exact h
    ·cases h
   ·exact h
   ·exact h
   ·cases h
  ·exact h
  ·cases h
theorem z40 {n : Nat} {e : TypeId} {x y : V} {lo hi : Option V} (ob : Ob) (hS : S[id]? = some .hole) (h : wJ P S n e x lo hi = some y) : wJ P (S.set id ob) n e x lo hi = some y := by
 unfold wJ at h ⊢
 split at h
 ·rename_i hc
  rw [if_pos hc]
  cases h1 : kC n hi n with
  | none => simp [h1] at h
  | some hh =>
   simp only [h1] at h ⊢
   cases h2 : kC hh lo 0 with
   | none => simp [h2] at h
   | some l =>
    simp only [h2] at h ⊢
    split at h
    ·rename_i j ix off
     cases ho : S[j]? with
     | none => simp [ho] at h
     | some o =>
      by_cases hne : o = .hole
      ·subst hne; simp [ho] at h
      ·simp only [ho] at h; simp only [jA ob hS ho hne]; exact h
    ·exact h
    ·cases h
 ·cases h
theorem zet {t : TypeId} {x y : V} {lo hi : Option V} (ob : Ob) (hS : S[id]? = some .hole) (h : wN P S t x lo hi = some y) : wN P (S.set id ob) t x lo hi = some y := by
 unfold wN at h ⊢
 split at h
 ·exact h
 ·split at h
  ·exact h
  ·exact h
  ·rename_i j off len
   cases h1 : kC len hi len with
   | none => simp [h1] at h
   | some hh =>
    simp only [h1] at h ⊢
    cases h2 : kC hh lo 0 with
    | none => simp [h2] at h
    | some l =>
     simp only [h2] at h ⊢
     split at h
     ·rename_i hc
      simp only [Bool.and_eq_true] at hc
      rw [if_pos (by simp [zde ob hS hc.1, hc.2])]; exact h
     ·cases h
  ·cases h
 ·split at h
  ·exact z40 ob hS h
  ·cases h
 ·exact z40 ob hS h
 ·cases h
theorem z87 {e tx : TypeId} {x : V} {ys : List V} (ob : Ob) (hS : S[id]? = some .hole) (h : srcV P S e tx x = some ys) : srcV P (S.set id ob) e tx x = some ys := by
 unfold srcV at h ⊢
 split at h
 ·exact h
 ·split at h
  ·split at h
   ·rename_i ys' hy
    rw [z90 ob hS hy]
    simpa using h
   ·cases h
  ·exact h
  ·cases h
theorem zep {t : TypeId} {a v : V} {S' : zB} (ob : Ob) (hS : S[id]? = some .hole) (h : vJ P S t a v = some S') : vJ P (S.set id ob) t a v = some (S'.set id ob) ∧ S'[id]? = some .hole := by
 unfold vJ at h ⊢
 split at h
 ·rename_i j ix off
  cases ho : S[j]? with
  | none => simp [ho] at h
  | some o =>
   by_cases hne : o = .hole
   ·subst hne; simp [ho] at h
   ·simp only [ho] at h; simp only [jA ob hS ho hne]
    cases o with
    | row xs e =>
     simp only at h ⊢
     split at h
     ·rename_i x hx
      try simp only [hx]
      split at h
      ·rename_i hf
       rw [if_pos hf]
       split at h
       ·rename_i hc
        rw [if_pos hc]
        simp only [Option.some.injEq] at h; subst h
        obtain ⟨g1, g2⟩ := vT ob (.row (xs.set ix v) e) hS ho hne
        exact ⟨by rw [g1], g2⟩
       ·rename_i hc
        rw [if_neg hc]
        split at h
        ·rename_i hc2
         rw [if_pos hc2]
         simp only [Option.some.injEq] at h; subst h
         obtain ⟨g1, g2⟩ := vT ob (.row (xs.set ix (.agg (x.cells.take off ++ v.cells ++ x.cells.drop (off + v.cells.length)))) e) hS ho hne
         exact ⟨by rw [g1], g2⟩
        ·cases h
      ·cases h
     ·cases h
    | _ => simp at h
 ·cases h
theorem zcw {t tx : TypeId} {s x y : V} {S' : zB} {c : Nat} (ob : Ob) (hS : S[id]? = some .hole) (h : qN P S t tx s x = some (y, S', c)) : qN P (S.set id ob) t tx s x = some (y, S'.set id ob, c) ∧ S'[id]? = some .hole := by
 unfold qN at h ⊢
 split at h
 ·rename_i e hu
  split at h
  ·cases h
  ·rename_i hsrc
   simp only [z87 ob hS hsrc]
   split at h
   ·simp only [Option.some.injEq, Prod.mk.injEq] at h; obtain ⟨rfl, rfl, rfl⟩ := h; exact ⟨rfl, hS⟩
   ·simp only [Option.some.injEq, Prod.mk.injEq] at h; obtain ⟨rfl, rfl, rfl⟩ := h; exact ⟨rfl, hS⟩
   ·simp only [Option.some.injEq, Prod.mk.injEq] at h; obtain ⟨rfl, rfl, rfl⟩ := h; exact ⟨rfl, hS⟩
   ·cases h
  ·rename_i y0 r hsrc
   simp only [z87 ob hS hsrc, List.length_set]
   split at h
   ·rename_i hz
    rw [if_pos hz]
    split at h
    ·rename_i xs
     split at h
     ·rename_i hc
      rw [if_pos hc]
      simp only [Option.some.injEq, Prod.mk.injEq] at h; obtain ⟨rfl, rfl, rfl⟩ := h
      obtain ⟨g1, g2⟩ := z0d ob (.row (xs.map .d ++ y0 :: r) e) hS
      exact ⟨by rw [g1], g2⟩
     ·cases h
    ·rename_i j off len
     cases ho : S[j]? with
     | none => simp [ho] at h
     | some o =>
      by_cases hne : o = .hole
      ·subst hne; simp [ho] at h
      ·simp only [ho] at h; simp only [jA ob hS ho hne]
       cases o with
       | row xs e' =>
        simp only at h ⊢
        split at h
        ·rename_i hc
         rw [if_pos hc]
         simp only [Option.some.injEq, Prod.mk.injEq] at h; obtain ⟨rfl, rfl, rfl⟩ := h
         obtain ⟨g1, g2⟩ := vT ob .dead hS ho hne
         obtain ⟨g3, g4⟩ := z0d ob (.row (xs.take len ++ y0 :: r) e) g2
         exact ⟨by rw [g1, g3], g4⟩
        ·cases h
       | _ => simp at h
    ·cases h
   ·cases h
 ·cases h
theorem zhj {t tx : TypeId} {d x y : V} {S' : zB} (ob : Ob) (hS : S[id]? = some .hole) (h : copyV P S t tx d x = some (y, S')) : copyV P (S.set id ob) t tx d x = some (y, S'.set id ob) ∧ S'[id]? = some .hole := by
 unfold copyV at h ⊢
 split at h
 ·rename_i e hu
  split at h
  ·cases h
  rename_i hni
  rw [if_neg hni]
  split at h
  ·cases h
  ·rename_i ys hsrc
   simp only [z87 ob hS hsrc]
   split at h
   ·rename_i j off len
    cases ho : S[j]? with
    | none => simp [ho] at h
    | some o =>
     by_cases hne : o = .hole
     ·subst hne; simp [ho] at h
     ·simp only [ho] at h; simp only [jA ob hS ho hne]
      cases o with
      | row xs e' =>
       simp only at h ⊢
       split at h
       ·rename_i hc
        rw [if_pos hc]
        simp only [Option.some.injEq, Prod.mk.injEq] at h; obtain ⟨rfl, rfl⟩ := h
        obtain ⟨g1, g2⟩ := vT ob (.row (xs.take off ++ ys.take (min ys.length len) ++ xs.drop (off + min ys.length len)) e) hS ho hne
        exact ⟨by rw [g1], g2⟩
       ·cases h
      | _ => simp at h
   ·cases h
 ·cases h
theorem z8g {t : TypeId} {l c y : V} {S' : zB} (ob : Ob) (hS : S[id]? = some .hole) (h : jO P S t l c = some (y, S')) : jO P (S.set id ob) t l c = some (y, S'.set id ob) ∧ S'[id]? = some .hole := by
 unfold jO at h ⊢
 split at h
 ·rename_i e hu
  split at h
  ·rename_i l' c' z hz
   split at h
   ·rename_i hc
    split at h
    ·rename_i hr
     simp only [Option.some.injEq, Prod.mk.injEq] at h; obtain ⟨rfl, rfl⟩ := h
     obtain ⟨g1, g2⟩ := z0d ob (.row (List.replicate c'.toNat z) e) hS
     simp only [hz, if_pos hc, if_pos hr, List.length_set, g1]
     exact ⟨trivial, g2⟩
    ·cases h
   ·cases h
  ·cases h
 ·cases h
theorem zbq {src dst : TypeId} {x y : V} {c : Nat} (ob : Ob) (hS : S[id]? = some .hole) (h : qI P S src dst x = some (y, c)) : qI P (S.set id ob) src dst x = some (y, c) := by
 have h0 := h
 unfold qI at h
 split at h
 ·simp only [Option.some.injEq, Prod.mk.injEq] at h
  obtain ⟨rfl, rfl⟩ := h
  rw [← h0]; unfold qI; simp_all
 ·simp only [Option.some.injEq, Prod.mk.injEq] at h
  obtain ⟨rfl, rfl⟩ := h
  rw [← h0]; unfold qI; simp_all
 ·split at h
  ·split at h
   ·simp only [Option.some.injEq, Prod.mk.injEq] at h
    obtain ⟨rfl, rfl⟩ := h
    rw [← h0]; unfold qI; simp_all
   ·cases h
  ·cases h
 ·split at h
  ·split at h
   ·cases h
   ·split at h
    ·rename_i ys hy
     have := z90 ob hS hy
     obtain ⟨s, hs, he⟩ := Option.map_eq_some_iff.1 h
     simp only [Prod.mk.injEq] at he
     obtain ⟨rfl, rfl⟩ := he
     rw [← h0]; unfold qI; simp_all
    ·cases h
  ·cases h
 ·cases h
theorem z8m {t : TypeId} {x k v : V} {S' : zB} (ob : Ob) (hS : S[id]? = some .hole) (h : jX P S t x k v = some S') : jX P (S.set id ob) t x k v = some (S'.set id ob) ∧ S'[id]? = some .hole := by
 unfold jX at h ⊢
 split at h
 ·rename_i kt et hu
  split at h
  ·rename_i hok
   rw [if_pos hok]
   split at h
   ·rename_i j kd hkd
    cases ho : S[j]? with
    | none => simp [ho] at h
    | some o =>
     by_cases hne : o = .hole
     ·subst hne; simp [ho] at h
     ·simp only [ho] at h; simp only [jA ob hS ho hne]
      cases o with
      | mp es clock =>
       have fin : ∀ es' cl, some (S.set j (.mp es' cl)) = some S' → some ((S.set id ob).set j (.mp es' cl)) = some (S'.set id ob) ∧ S'[id]? = some .hole := fun es' cl he => by
        simp only [Option.some.injEq] at he; subst he
        obtain ⟨g1, g2⟩ := vT ob (.mp es' cl) hS ho hne
        exact ⟨by rw [g1], g2⟩
       simp only at h ⊢
       split at h
       ·rename_i i u hf
        try simp only [hf]
        split at h
        ·rename_i e he
         try simp only [he]
         split at h
         ·rename_i hs
          rw [if_pos hs]
          exact fin _ _ h
         ·cases h
        ·cases h
       ·rename_i hf
        try simp only [hf]
        exact fin _ _ h
       ·cases h
      | _ => simp at h
   ·cases h
  ·cases h
 ·cases h
theorem za2 {t : TypeId} {x k y : V} {S' : zB} (ob : Ob) (hS : S[id]? = some .hole) (h : vC P S t x k = some (y, S')) : vC P (S.set id ob) t x k = some (y, S'.set id ob) ∧ S'[id]? = some .hole := by
 unfold vC at h ⊢
 split at h
 ·rename_i kt et hu
  split at h
  ·rename_i hok
   rw [if_pos hok]
   split at h
   ·rename_i j kd z hkd hz
    cases ho : S[j]? with
    | none => simp [ho] at h
    | some o =>
     by_cases hne : o = .hole
     ·subst hne; simp [ho] at h
     ·simp only [ho] at h; simp only [jA ob hS ho hne]
      cases o with
      | mp es clock =>
       have fin : ∀ es' cl v, some (v, S.set j (.mp es' cl)) = some (y, S') → some (v, (S.set id ob).set j (.mp es' cl)) = some (y, S'.set id ob) ∧ S'[id]? = some .hole := fun es' cl v he => by
        simp only [Option.some.injEq, Prod.mk.injEq] at he; obtain ⟨rfl, rfl⟩ := he
        obtain ⟨g1, g2⟩ := vT ob (.mp es' cl) hS ho hne
        exact ⟨by rw [g1], g2⟩
       simp only at h ⊢
       split at h
       ·rename_i i u hf
        try simp only [hf]
        split at h
        ·rename_i e he
         try simp only [he]
         split at h
         ·rename_i hs
          rw [if_pos hs]
          exact fin _ _ _ h
         ·cases h
        ·cases h
       ·rename_i hf
        try simp only [hf]
        exact fin _ _ _ h
       ·cases h
      | _ => simp at h
   ·cases h
  ·cases h
 ·cases h
theorem z7o {x st v : V} {S' : zB} (ob : Ob) (hS : S[id]? = some .hole) (h : kU S x st v = some S') : kU (S.set id ob) x st v = some (S'.set id ob) ∧ S'[id]? = some .hole := by
 unfold kU at h ⊢
 split at h
 ·cases h
 ·rename_i hone
  rw [if_neg hone]
  split at h
  ·rename_i j kk n
   cases ho : S[j]? with
   | none => simp [ho] at h
   | some o =>
    by_cases hne : o = .hole
    ·subst hne; simp [ho] at h
    ·simp only [ho] at h; simp only [jA ob hS ho hne]
     cases o with
     | mp es clock =>
      simp only at h ⊢
      split at h
      ·rename_i i hf
       try simp only [hf]
       split at h
       ·rename_i e he
        try simp only [he]
        simp only [Option.some.injEq] at h; subst h
        obtain ⟨g1, g2⟩ := vT ob (.mp (es.set i (e.1, v, e.2.2)) clock) hS ho hne
        exact ⟨by rw [g1], g2⟩
       ·cases h
      ·cases h
     | _ => simp at h
  ·cases h
theorem ze5 {t : TypeId} {x k : V} {S' : zB} (ob : Ob) (hS : S[id]? = some .hole) (h : z0b P S t x k = some S') : z0b P (S.set id ob) t x k = some (S'.set id ob) ∧ S'[id]? = some .hole := by
 unfold z0b at h ⊢
 split at h
 ·rename_i kt et hu
  split at h
  ·rename_i hok
   rw [if_pos hok]
   split at h
   ·rename_i j
    cases ho : S[j]? with
    | none => simp [ho] at h
    | some o =>
     by_cases hne : o = .hole
     ·subst hne; simp [ho] at h
     ·simp only [ho] at h; simp only [jA ob hS ho hne]
      cases o with
      | mp es clock =>
       have fin : ∀ es' cl, some (S.set j (.mp es' cl)) = some S' → some ((S.set id ob).set j (.mp es' cl)) = some (S'.set id ob) ∧ S'[id]? = some .hole := fun es' cl he => by
        simp only [Option.some.injEq] at he; subst he
        obtain ⟨g1, g2⟩ := vT ob (.mp es' cl) hS ho hne
        exact ⟨by rw [g1], g2⟩
       simp only at h ⊢
       split at h
       ·rename_i i u hf
        try simp only [hf]
        exact fin _ _ h
       ·rename_i hf
        try simp only [hf]
        exact fin _ _ h
       ·cases h
      | _ => simp at h
   ·cases h
  ·cases h
 ·cases h
end
def Rs.upd (id : Nat) (ob : Ob) : Rs → Rs
 | .val v S c => .val v (S.set id ob) c
 | .skip S c => .skip (S.set id ob) c
 | .enter f as => .enter f as
 | .dfr f as => .dfr f as
 | .pan v => .pan v
def Rs.hol (id : Nat) : Rs → Prop
 | .val _ S _ => S[id]? = some .hole
 | .skip S _ => S[id]? = some .hole
 | _ => True
section
variable {P : Program} {S : zB} {id : Nat}
theorem kZ {f g : Option V} {r : Rs} {ob : Ob} {c : Nat} (hS : S[id]? = some .hole) (hfg : ∀ v, f = some v → g = some v) (h : (f.map fun v => Rs.val v S c) = some r) : (g.map fun v => Rs.val v (S.set id ob) c) = some (r.upd id ob) ∧ r.hol id := by
 obtain ⟨v, hv, rfl⟩ := Option.map_eq_some_iff.1 h
 rw [hfg v hv]
 exact ⟨rfl, hS⟩
theorem z9n {f g : Option zB} {r : Rs} {ob : Ob} {c : Nat} (hfg : ∀ S', f = some S' → g = some (S'.set id ob) ∧ S'[id]? = some .hole) (h : (f.map fun S' => Rs.skip S' c) = some r) : (g.map fun S' => Rs.skip S' c) = some (r.upd id ob) ∧ r.hol id := by
 obtain ⟨v, hv, rfl⟩ := Option.map_eq_some_iff.1 h
 obtain ⟨g1, g2⟩ := hfg v hv
 rw [g1]
 exact ⟨rfl, g2⟩
theorem z6c {f g : Option (V × zB)} {r : Rs} {ob : Ob} {c : Nat} (hfg : ∀ v S', f = some (v, S') → g = some (v, S'.set id ob) ∧ S'[id]? = some .hole) (h : (f.map fun r => Rs.val r.1 r.2 c) = some r) : (g.map fun r => Rs.val r.1 r.2 c) = some (r.upd id ob) ∧ r.hol id := by
 obtain ⟨⟨v, S'⟩, hv, rfl⟩ := Option.map_eq_some_iff.1 h
 obtain ⟨g1, g2⟩ := hfg v S' hv
 rw [g1]
 exact ⟨rfl, g2⟩
theorem kR {r : Rs} {v : V} {c : Nat} {ob : Ob} (hS : S[id]? = some .hole) (h : some (Rs.val v S c) = some r) : some (Rs.val v (S.set id ob) c) = some (r.upd id ob) ∧ r.hol id := by
 simp only [Option.some.injEq] at h; subst h; exact ⟨rfl, hS⟩
theorem zca {b : Builtin} {ts : List TypeId} {xs : List V} {r : Rs} (ob : Ob) (hS : S[id]? = some .hole) (h : zO P S b ts xs = some r) : zO P (S.set id ob) b ts xs = some (r.upd id ob) ∧ r.hol id := by
 unfold zO at h ⊢
 split at h
 ·rename_i t ts' x
  cases hu : P.underlying t with
  | none => simp [hu] at h
  | some td =>
   simp only [hu] at h
   cases td <;> simp only [reduceCtorEq] at h ⊢ <;> first | exact kR hS h | skip
   ·split at h <;> first | exact kR hS h | cases h
   ·split at h <;> first | exact kR hS h | cases h
   ·split at h
    ·rename_i es he
     simp only [z4s ob hS he]
     exact kR hS h
    ·cases h
 ·rename_i t tx s x
  obtain ⟨⟨v, S', c⟩, hv, rfl⟩ := Option.map_eq_some_iff.1 h
  obtain ⟨g1, g2⟩ := zcw ob hS hv
  simp only [g1]
  exact ⟨rfl, g2⟩
 ·exact z6c (fun v S' hv => zhj ob hS hv) h
 ·obtain ⟨S', hv, rfl⟩ := Option.map_eq_some_iff.1 h
  obtain ⟨g1, g2⟩ := ze5 ob hS hv
  simp only [g1]
  exact ⟨rfl, g2⟩
 ·exact kZ hS (fun v hv => hv) h
 ·exact kZ hS (fun v hv => hv) h
 ·cases h
theorem zdb {v : V} {r : Rs} (ob : Ob) (hS : S[id]? = some .hole) (h : z20 S v = some r) : z20 (S.set id ob) v = some (r.upd id ob) ∧ r.hol id := by
 cases v <;> simp only [z20, reduceCtorEq] at h ⊢
 rename_i j
 cases ho : S[j]? with
 | none => simp [ho] at h
 | some o' =>
  by_cases hne : o' = .hole
  ·subst hne; simp [ho] at h
  ·simp only [ho] at h
   simp only [jA ob hS ho hne]
   cases o' with
   | mp es clock =>
    simp only [Option.some.injEq] at h ⊢; subst h
    obtain ⟨g1, g2⟩ := z0d ob (.mit j clock [] clock) hS
    simp only [List.length_set, g1]
    exact ⟨rfl, g2⟩
   | _ => simp at h
theorem zfa {v : V} {r : Rs} (ob : Ob) (hS : S[id]? = some .hole) (h : z53 S v = some r) : z53 (S.set id ob) v = some (r.upd id ob) ∧ r.hol id := by
 cases v <;> simp only [z53, reduceCtorEq] at h ⊢
 rename_i j
 cases ho : S[j]? with
 | none => simp [ho] at h
 | some o' =>
  by_cases hne : o' = .hole
  ·subst hne; simp [ho] at h
  ·simp only [ho] at h
   simp only [jA ob hS ho hne]
   cases o' with
   | mit mid since seen last =>
    simp only at h ⊢
    cases hm : S[mid]? with
    | none => simp [hm] at h
    | some om =>
     by_cases hnm : om = .hole
     ·subst hnm; simp [hm] at h
     ·simp only [hm] at h
      simp only [jA ob hS hm hnm]
      cases om with
      | mp es clock =>
       simp only at h ⊢
       split at h
       ·cases h
       ·rename_i hc
        rw [if_neg hc]
        split at h
        ·exact kR hS h
        ·rename_i e r' hf
         split at h
         ·rename_i hlt
          rw [if_pos hlt]
          simp only [Option.some.injEq] at h; subst h
          obtain ⟨g1, g2⟩ := vT ob (.mit mid since (seen ++ [e.2.2]) clock) hS ho hne
          exact ⟨by simp only [Rs.upd, g1], g2⟩
         ·cases h
      | _ => simp at h
   | _ => simp at h
theorem zdz {v : V} {r : Rs} (ob : Ob) (hS : S[id]? = some .hole) (h : z21 S v = some r) : z21 (S.set id ob) v = some (r.upd id ob) ∧ r.hol id := by
 cases v <;> simp only [z21, reduceCtorEq] at h ⊢
 rename_i j
 cases ho : S[j]? with
 | none => simp [ho] at h
 | some o' =>
  by_cases hne : o' = .hole
  ·subst hne; simp [ho] at h
  ·simp only [ho] at h
   simp only [jA ob hS ho hne]
   cases o' with
   | mit mid since seen last =>
    simp only at h ⊢
    cases hm : S[mid]? with
    | none => simp [hm] at h
    | some om =>
     by_cases hnm : om = .hole
     ·subst hnm; simp [hm] at h
     ·simp only [hm] at h
      simp only [jA ob hS hm hnm]
      cases om with
      | mp es clock =>
       simp only at h ⊢
       split at h
       ·rename_i hc
        rw [if_pos hc]
        split at h
        ·split at h
         ·exact kR hS h
         ·cases h
        ·cases h
       ·cases h
      | _ => simp at h
   | _ => simp at h
theorem zbw {T : List V} {o : Oper} {r : Rs} (ob : Ob) (hS : S[id]? = some .hole) (h : opV P S T o = some r) : opV P (S.set id ob) T o = some (r.upd id ob) ∧ r.hol id := by
  unfold opV at h ⊢
  split at h
  · exact kR hS h
  · exact kR hS h
  · split at h <;> first | exact kR hS h | cases h
  · split at h
    · split at h
      · rename_i z hz hf
        simp only [Option.some.injEq] at h; subst h
        have g := fun x => z0d ob x hS
        simp only [List.length_set, fun x => (g x).1, if_pos hf]
        exact ⟨rfl, (g _).2⟩
      · cases h
    · cases h
  · split at h
    · rename_i hf
      simp only [Option.some.injEq] at h; subst h
      have g := fun x => z0d ob x hS
      simp only [List.length_set, fun x => (g x).1, if_pos hf]
      exact ⟨rfl, (g _).2⟩
    · cases h
  · exact kZ hS (fun v hv => hv) h
  · split at h
    · split at h
      · split at h
        · rename_i hc
          split at h
          · rename_i ds hds
            simp only [if_pos hc]
            exact kR hS h
          · simp only [Option.some.injEq] at h; subst h
            have g := fun x => z0d ob x hS
            simp only [List.length_set, fun x => (g x).1, if_pos hc]
            exact ⟨rfl, (g _).2⟩
        · cases h
      · cases h
    · cases h
  · exact kZ hS (fun v hv => zae ob hS hv) h
  · exact z9n (fun S' hv => zep ob hS hv) h
  · split at h <;> first | exact kR hS h | cases h
  · exact kZ hS (fun v hv => hv) h
  · exact kZ hS (fun v hv => hv) h
  · obtain ⟨⟨v, c⟩, hv, rfl⟩ := Option.map_eq_some_iff.1 h
    simp only [zbq ob hS hv]
    exact ⟨rfl, hS⟩
  · split at h
    · cases h
    · split at h
      · rename_i hc
        simp only [if_pos hc]
        exact kR hS h
      · cases h
    · cases h
  · split at h
    · rename_i hc
      simp only [if_pos hc]
      exact kR hS h
    · cases h
  · split at h
    · simp only [Option.some.injEq] at h; subst h
      obtain ⟨g1, g2⟩ := z0d ob (.mp [] 0) hS
      simp only [List.length_set, g1]
      exact ⟨rfl, g2⟩
    · cases h
  · exact z6c (fun v S' hv => z8g ob hS hv) h
  · exact kZ hS (fun v hv => zet ob hS hv) h
  · exact kZ hS (fun v hv => hv) h
  · exact kZ hS (fun v hv => z98 ob hS hv) h
  · exact kZ hS (fun v hv => hv) h
  · exact kZ hS (fun v hv => hv) h
  · exact kZ hS (fun v hv => zcj ob hS hv) h
  · exact z9n (fun S' hv => z8m ob hS hv) h
  · exact z6c (fun v S' hv => za2 ob hS hv) h
  · exact z9n (fun S' hv => z7o ob hS hv) h
  · split at h
    · split at h
      · simp only [Option.some.injEq] at h; subst h
        have g := fun x => z0d ob x hS
        simp only [List.length_set, fun x => (g x).1]
        exact ⟨rfl, (g _).2⟩
      · cases h
    · exact zdb ob hS h
    · cases h
  · split at h
    · rename_i j hit
      cases ho : S[j]? with
      | none => simp [ho] at h
      | some o' =>
        by_cases hne : o' = .hole
        · subst hne; simp [ho] at h
        · simp only [ho] at h
          simp only [jA ob hS ho hne]
          cases o' with
          | iter s pos =>
            simp only at h ⊢
            split at h
            · rename_i hlt
              simp only [if_pos hlt]
              simp only [Option.some.injEq] at h; subst h
              obtain ⟨g1, g2⟩ := vT ob (.iter s (pos + (Utf8.decode ⟨s.toArray⟩ pos).2)) hS ho hne
              exact ⟨by simp only [Rs.upd, g1], g2⟩
            · rename_i hlt
              simp only [if_neg hlt]
              exact kR hS h
          | _ => simp at h
    · cases h
  · exact zfa ob hS h
  · exact zdz ob hS h
  · split at h
    · split at h
      · exact kR hS h
      · cases h
    · cases h
  · split at h
    · exact zca ob hS h
    · split at h
      · split at h
        · rename_i hc
          simp only [if_pos hc]
          simp only [Option.some.injEq] at h; subst h; exact ⟨rfl, trivial⟩
        · cases h
      · split at h
        · rename_i hc
          simp only [if_pos hc]
          simp only [Option.some.injEq] at h; subst h; exact ⟨rfl, trivial⟩
        · cases h
      · cases h
    · cases h
  · split at h
    · split at h
      · split at h
        · rename_i hc
          simp only [if_pos hc]
          simp only [Option.some.injEq] at h; subst h; exact ⟨rfl, trivial⟩
        · cases h
      · cases h
    · cases h
  · split at h <;> first | (simp only [Option.some.injEq] at h; subst h; exact ⟨rfl, trivial⟩) | cases h
  · cases h
theorem wW {α β : Type} {f g : α → Option β} : ∀ {xs : List α} {ys : List β}, (∀ x ∈ xs, ∀ y, f x = some y → g x = some y) → allO f xs = some ys → allO g xs = some ys
 | [], ys, _, h => h
 | x :: r, ys, hfg, h => by
  obtain ⟨y, zs, h1, h2, rfl⟩ := wQ h
  simp only [allO, hfg x (by simp) y h1, wW (fun x hx => hfg x (by simp [hx])) h2]
theorem z2r {α β : Type} {f : α → Option β} {xs : List α} {ys : List β} (h : allO f xs = some ys) {x : α} (hx : x ∈ xs) : ∃ y, f x = some y := by
 obtain ⟨i, hi⟩ := List.getElem?_of_mem hx
 obtain ⟨y, hy, _⟩ := (z1o h).2 i x hi
 exact ⟨y, hy⟩
theorem wB {α β : Type} {f g : α → List β} : ∀ {xs : List α}, (∀ x ∈ xs, f x = g x) → xs.flatMap f = xs.flatMap g
 | [], _ => rfl
 | x :: r, h => by
  rw [List.flatMap_cons, List.flatMap_cons, h x (by simp), wB (xs := r) (fun y hy => h y (List.mem_cons_of_mem _ hy))]
theorem z3d (ob : Ob) (hS : S[id]? = some .hole) : ∀ (n : Nat) (v : V) (x : D), frz S n v = some x → frz (S.set id ob) n v = some x ∧ frzIds (S.set id ob) n v = frzIds S n v := by
 intro n
 induction n with
 | zero => intro v x h; simp [frz] at h
 | succ n ih =>
  intro v x h
  have many : ∀ {xs : List V} {ds : List D}, allO (frz S n) xs = some ds → allO (frz (S.set id ob) n) xs = some ds ∧ xs.flatMap (frzIds (S.set id ob) n) = xs.flatMap (frzIds S n) := fun h =>
   ⟨wW (fun x _ y hy => (ih x y hy).1) h, wB fun x hx => by obtain ⟨y, hy⟩ := z2r h hx; exact (ih x y hy).2⟩
  have manyM : ∀ {es : List (D × V × Nat)} {ds : List (D × D)}, allO (fun (e : D × V × Nat) => (frz S n e.2.1).map fun x => (e.1, x)) es = some ds → allO (fun (e : D × V × Nat) => (frz (S.set id ob) n e.2.1).map fun x => (e.1, x)) es = some ds ∧ (es.flatMap fun e => frzIds (S.set id ob) n e.2.1) = es.flatMap fun e => frzIds S n e.2.1 := fun h =>
   ⟨wW (fun x _ y hy => by
    obtain ⟨z, hz, rfl⟩ := Option.map_eq_some_iff.1 hy
    rw [(ih _ _ hz).1]; rfl) h, wB fun x hx => by
     obtain ⟨y, hy⟩ := z2r h hx
     obtain ⟨z, hz, _⟩ := Option.map_eq_some_iff.1 hy
     exact (ih _ _ hz).2⟩
  cases v with
  | d y => exact ⟨h, rfl⟩
  | ts xs => exact ⟨h, rfl⟩
  | agg xs =>
   simp only [frz, frzIds] at h ⊢
   cases ha : allO (frz S n) xs with
   | none => simp [ha] at h
   | some ds => simp only [ha] at h; simp only [(many ha).1]; exact ⟨h, (many ha).2⟩
  | iface t v =>
   simp only [frz, frzIds] at h ⊢
   obtain ⟨z, hz, rfl⟩ := Option.map_eq_some_iff.1 h
   rw [(ih _ _ hz).1]; exact ⟨rfl, (ih _ _ hz).2⟩
  | rs j off len =>
   simp only [frz, frzIds] at h ⊢
   cases ho : S[j]? with
   | none => simp [ho] at h
   | some o =>
    by_cases hne : o = .hole
    ·subst hne; simp [ho] at h
    ·simp only [ho] at h
     simp only [jA ob hS ho hne]
     cases o with
     | row xs e =>
      simp only at h ⊢
      split at h
      ·rename_i hc
       simp only [Bool.and_eq_true, decide_eq_true_eq] at hc
       obtain ⟨hc1, hc2⟩ := hc
       obtain ⟨ds, hds⟩ := Option.isSome_iff_exists.1 hc2
       obtain ⟨z, hz, rfl⟩ := Option.map_eq_some_iff.1 h
       simp only [(many hds).1, (many hz).1, hc1, decide_true, Option.isSome_some, Bool.and_self, if_true]
       exact ⟨rfl, by rw [(many hds).2]⟩
      ·cases h
     | fz xs e => exact ⟨h, rfl⟩
     | _ => simp at h
  | cs j ix off len =>
   simp only [frz, frzIds] at h ⊢
   cases ho : S[j]? with
   | none => simp [ho] at h
   | some o =>
    by_cases hne : o = .hole
    ·subst hne; simp [ho] at h
    ·simp only [ho] at h
     simp only [jA ob hS ho hne]
     cases o with
     | row xs e =>
      simp only at h ⊢
      split at h
      ·rename_i y hy
       split at h
       ·rename_i hc
        simp only [Bool.and_eq_true, decide_eq_true_eq] at hc
        obtain ⟨ds, hds⟩ := Option.isSome_iff_exists.1 hc.2
        try simp only [hy]
        simp only [(many hds).1, hc.1.1, hc.1.2, decide_true, Option.isSome_some, Bool.and_self, if_true]
        exact ⟨h, by rw [(many hds).2]⟩
       ·cases h
      ·cases h
     | fz xs e => exact ⟨h, rfl⟩
     | _ => simp at h
  | ref j ix off =>
   cases off with
   | succ _ => simp [frz] at h
   | zero =>
    simp only [frz, frzIds] at h ⊢
    cases ho : S[j]? with
    | none => simp [ho] at h
    | some o =>
     by_cases hne : o = .hole
     ·subst hne; simp [ho] at h
     ·simp only [ho] at h
      simp only [jA ob hS ho hne]
      cases o with
      | row xs e =>
       simp only at h ⊢
       split at h
       ·rename_i y hy
        split at h
        ·rename_i hc
         obtain ⟨ds, hds⟩ := Option.isSome_iff_exists.1 hc
         obtain ⟨z, hz, rfl⟩ := Option.map_eq_some_iff.1 h
         try simp only [hy]
         simp only [(many hds).1, (ih _ _ hz).1, Option.isSome_some, if_true]
         exact ⟨rfl, by rw [(many hds).2]⟩
        ·cases h
       ·cases h
      | fz xs e => exact ⟨h, rfl⟩
      | _ => simp at h
  | fn f a b =>
   simp only [frz, frzIds] at h ⊢
   cases ha : allO (frz S n) a with
   | none => simp [ha] at h
   | some da =>
    cases hb : allO (frz S n) b with
    | none => simp [ha, hb] at h
    | some db =>
     simp only [ha, hb] at h
     simp only [(many ha).1, (many hb).1, (many ha).2, (many hb).2]
     exact ⟨h, trivial⟩
  | mr j =>
   simp only [frz, frzIds] at h ⊢
   cases ho : S[j]? with
   | none => simp [ho] at h
   | some o =>
    by_cases hne : o = .hole
    ·subst hne; simp [ho] at h
    ·simp only [ho] at h
     simp only [jA ob hS ho hne]
     cases o with
     | mp es c =>
      simp only at h ⊢
      obtain ⟨z, hz, rfl⟩ := Option.map_eq_some_iff.1 h
      rw [(manyM hz).1]
      exact ⟨rfl, by rw [(manyM hz).2]⟩
     | fm es => exact ⟨h, rfl⟩
     | _ => simp at h
  | it id => simp [frz] at h
  | tup xs => simp [frz] at h
  | junk => simp [frz] at h
theorem zi6 {o o' : Ob} (ob : Ob) (hS : S[id]? = some .hole) (h : z3r S o = some o') : z3r (S.set id ob) o = some o' ∧ za5 (S.set id ob) o = za5 S o := by
 cases o with
 | row xs e =>
  simp only [z3r, za5] at h ⊢
  obtain ⟨ds, hds, rfl⟩ := Option.map_eq_some_iff.1 h
  rw [wW (fun x _ y hy => (z3d ob hS _ x y hy).1) hds]
  exact ⟨rfl, wB fun x hx => by obtain ⟨y, hy⟩ := z2r hds hx; exact (z3d ob hS _ x y hy).2⟩
 | mp es c =>
  simp only [z3r, za5] at h ⊢
  obtain ⟨ds, hds, rfl⟩ := Option.map_eq_some_iff.1 h
  rw [wW (fun x _ y hy => by
   obtain ⟨z, hz, rfl⟩ := Option.map_eq_some_iff.1 hy
   rw [(z3d ob hS _ _ _ hz).1]; rfl) hds]
  exact ⟨rfl, wB fun x hx => by
   obtain ⟨y, hy⟩ := z2r hds hx
   obtain ⟨z, hz, _⟩ := Option.map_eq_some_iff.1 hy
   exact (z3d ob hS _ _ _ hz).2⟩
 | iter s p => simp [z3r] at h
 | mit _ _ _ _ => simp [z3r] at h
 | fz xs e => exact ⟨h, rfl⟩
 | fm es => exact ⟨h, rfl⟩
 | dead => exact ⟨h, rfl⟩
 | hole => exact ⟨h, rfl⟩
theorem zd4 {all : List Nat} (ob : Ob) (hS : S[id]? = some .hole) : ∀ {ids : List Nat} {S1 S2 : zB}, (∀ i ∈ ids, i ≠ id) → S1[id]? = some .hole → mark S all S1 ids = some S2 → mark (S.set id ob) all (S1.set id ob) ids = some (S2.set id ob) ∧ S2[id]? = some .hole
 | [], S1, S2, _, h1, h => by
  simp only [mark, Option.some.injEq] at h ⊢; subst h
  exact ⟨rfl, h1⟩
 | i :: r, S1, S2, hne, h1, h => by
  have hi := hne i (by simp)
  simp only [mark] at h ⊢
  rw [List.getElem?_set_ne (Ne.symm hi)]
  cases ho : S[i]? with
  | none => simp [ho] at h
  | some o =>
   simp only [ho] at h ⊢
   cases hf : z3r S o with
   | none => simp [hf] at h
   | some o' =>
    obtain ⟨g1, g2⟩ := zi6 ob hS hf
    simp only [hf] at h
    simp only [g1, g2]
    split at h
    ·rename_i hc
     rw [if_pos hc, List.set_comm _ _ (Ne.symm hi)]
     exact zd4 ob hS (fun j hj => hne j (by simp [hj])) (by rw [List.getElem?_set_ne hi]; exact h1) h
    ·cases h
def kB (call : kE) : Prop := ∀ f args S o S' id ob, call f args S = some (o, S') → S[id]? = some .hole → call f args (S.set id ob) = some (o, S'.set id ob) ∧ S'[id]? = some .hole
theorem z6p {C : Cfg} {call : kE} (hcall : kB call) {f : FuncId} {args : List V} {o : Out} {S' : zB} {c : Nat} (ob : Ob) (hS : S[id]? = some .hole) (h : jU C call f args S = some (o, S', c)) : jU C call f args (S.set id ob) = some (o, S'.set id ob, c) ∧ S'[id]? = some .hole := by
 unfold jU at h ⊢
 split at h
 ·rename_i hsh
  rw [if_pos hsh]
  obtain ⟨⟨o', S2⟩, h1, h2⟩ := Option.map_eq_some_iff.1 h
  simp only [Prod.mk.injEq] at h2
  obtain ⟨rfl, rfl, rfl⟩ := h2
  obtain ⟨g1, g2⟩ := hcall f args S _ _ id ob h1 hS
  rw [g1]
  exact ⟨rfl, g2⟩
 ·rename_i hsh
  rw [if_neg hsh]
  split at h
  ·cases h
  ·rename_i ds hds
   have g1 := wW (fun x _ y hy => (z3d ob hS _ x y hy).1) hds
   have g2 : args.flatMap (frzIds (S.set id ob) zJ) = args.flatMap (frzIds S zJ) := wB fun x hx => by obtain ⟨y, hy⟩ := z2r hds hx; exact (z3d ob hS _ x y hy).2
   simp only [g1, g2]
   cases ha : answer C call f ds with
   | none => simp [ha] at h
   | some out =>
    simp only [ha] at h ⊢
    split at h
    ·rename_i hc
     rw [if_pos hc]
     simp only [Option.some.injEq, Prod.mk.injEq] at h; obtain ⟨rfl, rfl, rfl⟩ := h
     exact ⟨rfl, hS⟩
    ·rename_i hc
     rw [if_neg hc]
     split at h
     ·rename_i hp
      rw [if_pos hp]
      simp only [Option.some.injEq, Prod.mk.injEq] at h; obtain ⟨rfl, rfl, rfl⟩ := h
      exact ⟨rfl, hS⟩
     ·rename_i hp
      rw [if_neg hp]
      split at h
      ·rename_i S2 hm
       simp only [Option.some.injEq, Prod.mk.injEq] at h; obtain ⟨rfl, rfl, rfl⟩ := h
       obtain ⟨g3, g4⟩ := zd4 ob hS (fun i hi => by
        rintro rfl
        obtain ⟨v, _, hv⟩ := List.mem_flatMap.1 hi
        obtain ⟨o, ho, hl, _⟩ := z47 hv
        rw [hS] at ho; cases ho; cases hl) hS hm
       rw [g3]
       exact ⟨rfl, g4⟩
      ·cases h
end
def z81 (ex : z5y) : Prop := ∀ c T S F x T' S' F' id ob, ex c T S F = some (x, T', S', F') → S[id]? = some .hole → ex c T (S.set id ob) F = some (x, T', S'.set id ob, F') ∧ S'[id]? = some .hole
section
variable {C : Cfg} {call : kE} {id : Nat}
theorem z0t (hcall : kB call) {ops : Array Oper} (ob : Ob) : ∀ {l : List Oper} {T T' : List V} {S S' : zB} {F F' : Dfs} {x : Ex}, S[id]? = some .hole → seqV C call ops l T S F = some (x, T', S', F') → seqV C call ops l T (S.set id ob) F = some (x, T', S'.set id ob, F') ∧ S'[id]? = some .hole
 | [], T, T', S, S', F, F', x, hS, h => by
  simp only [seqV, Option.some.injEq, Prod.mk.injEq] at h ⊢
  obtain ⟨rfl, rfl, rfl, rfl⟩ := h
  exact ⟨⟨rfl, rfl, rfl, rfl⟩, hS⟩
 | o :: l, T, T', S, S', F, F', x, hS, h => by
  rw [seqV] at h ⊢
  cases hlp : wD C.P T o l with
  | some T1 =>
   simp only [hlp] at h ⊢
   cases l with
   | nil => simp at h
   | cons o2 l' => exact z0t hcall ob hS h
  | none =>
  simp only [hlp] at h ⊢
  cases hw : zY ops T o with
  | none => simp [hw] at h
  | some b =>
   cases b with
   | false => simp only [hw] at h ⊢; exact z0t hcall ob hS h
   | true =>
    simp only [hw] at h ⊢
    cases ho : opV C.P S T o with
    | none => simp [ho] at h
    | some rs =>
     obtain ⟨g1, g2⟩ := zbw ob hS ho
     simp only [g1]
     cases rs with
     | val v S1 c => simp only [ho] at h; exact z0t hcall ob g2 h
     | skip S1 c => simp only [ho] at h; exact z0t hcall ob g2 h
     | dfr f args => simp only [ho] at h; exact z0t hcall ob hS h
     | pan v =>
      simp only [ho, Option.some.injEq, Prod.mk.injEq] at h
      obtain ⟨rfl, rfl, rfl, rfl⟩ := h
      exact ⟨rfl, hS⟩
     | enter f args =>
      simp only [ho] at h
      simp only [Rs.upd]
      cases hc : jU C call f args S with
      | none => simp [hc] at h
      | some q =>
       obtain ⟨out, S1, c⟩ := q
       obtain ⟨k1, k2⟩ := z6p hcall ob hS hc
       simp only [k1]
       cases out with
       | ret v => simp only [hc] at h; exact z0t hcall ob k2 h
       | pan v =>
        simp only [hc, Option.some.injEq, Prod.mk.injEq] at h
        obtain ⟨rfl, rfl, rfl, rfl⟩ := h
        exact ⟨rfl, k2⟩
termination_by l => l.length
theorem vE (hcall : kB call) {ops : Array Oper} {i : Nat} {o : Oper} {T : List V} {S S' : zB} {v : V} {c : Nat} (ob : Ob) (hS : S[id]? = some .hole) (hi : i ≠ id) (h : effC C call ops i o T S = some (v, S', c)) : effC C call ops i o T (S.set id ob) = some (v, S'.set id ob, c) ∧ S'[id]? = some .hole := by
 unfold effC at h ⊢
 cases hw : zY ops T o with
 | none => simp [hw] at h
 | some b =>
  cases b with
  | false =>
   simp only [hw, Option.some.injEq, Prod.mk.injEq] at h ⊢
   obtain ⟨rfl, rfl, rfl⟩ := h
   exact ⟨⟨rfl, rfl, rfl⟩, hS⟩
  | true =>
   simp only [hw] at h ⊢
   split at h
   ·rename_i ha
    rw [if_pos ha]
    cases hadd : addO C.P T o with
    | none => simp [hadd] at h
    | some q =>
     obtain ⟨ob2, f⟩ := q
     simp only [hadd] at h ⊢
     rw [List.getElem?_set_ne (Ne.symm hi)]
     split at h
     ·rename_i hh
      simp only [Option.some.injEq, Prod.mk.injEq] at h
      obtain ⟨rfl, rfl, rfl⟩ := h
      try simp only [hh]
      exact ⟨by rw [List.set_comm _ _ (Ne.symm hi)], by rw [List.getElem?_set_ne hi]; exact hS⟩
     ·cases h
   ·rename_i ha
    rw [if_neg ha]
    cases ho : opV C.P S T o with
    | none => simp [ho] at h
    | some rs =>
     obtain ⟨g1, g2⟩ := zbw ob hS ho
     simp only [g1]
     simp only [ho] at h
     cases rs with
     | val v1 S1 c1 =>
      simp only [Option.some.injEq, Prod.mk.injEq] at h
      obtain ⟨rfl, rfl, rfl⟩ := h
      exact ⟨rfl, g2⟩
     | skip S1 c1 =>
      simp only [Option.some.injEq, Prod.mk.injEq] at h
      obtain ⟨rfl, rfl, rfl⟩ := h
      exact ⟨rfl, g2⟩
     | dfr f args => simp at h
     | pan v1 => simp at h
     | enter f args =>
      simp only at h
      simp only [Rs.upd]
      cases hc : jU C call f args S with
      | none => simp [hc] at h
      | some q =>
       obtain ⟨out, S1, c1⟩ := q
       obtain ⟨k1, k2⟩ := z6p hcall ob hS hc
       simp only [k1]
       cases out with
       | ret v1 =>
        simp only [hc, Option.some.injEq, Prod.mk.injEq] at h
        obtain ⟨rfl, rfl, rfl⟩ := h
        exact ⟨rfl, k2⟩
       | pan v1 => simp [hc] at h
theorem z6v (hcall : kB call) {ops : Array Oper} {b : List Nat} {base i : Nat} {S : zB} {w : Nat × List V × V} (ob : Ob) (hS : S[id]? = some .hole) (hid : id < base) (h : jR C call ops b base i S w = true) : jR C call ops b base i (S.set id ob) w = true := by
 unfold jR at h ⊢
 rw [Bool.or_eq_true] at h ⊢
 rcases h with h | h
 ·exact .inl h
 ·right
  cases ho : ops[w.1]? with
  | none => simp [ho] at h
  | some o =>
   simp only [ho] at h ⊢
   split at h
   ·rename_i v' S' he
    rw [(vE hcall ob hS (by omega) he).1]
    exact h
   ·cases h
theorem zcv (hcall : kB call) {ops : Array Oper} {b : List Nat} {base : Nat} (ob : Ob) (hid : id < base) : ∀ {l : List Nat} {ws : List (Nat × List V × V)} {T T' : List V} {S S' : zB} {cs : List (Nat × Nat)}, S[id]? = some .hole → seqC C call ops b base ws l T S = some (T', S', cs) → seqC C call ops b base ws l T (S.set id ob) = some (T', S'.set id ob, cs) ∧ S'[id]? = some .hole
 | [], ws, T, T', S, S', cs, hS, h => by
  simp only [seqC, Option.some.injEq, Prod.mk.injEq] at h ⊢
  obtain ⟨rfl, rfl, rfl⟩ := h
  exact ⟨⟨rfl, rfl, rfl⟩, hS⟩
 | i :: l, ws, T, T', S, S', cs, hS, h => by
  simp only [seqC] at h ⊢
  cases ho : ops[i]? with
  | none => simp [ho] at h
  | some o =>
   simp only [ho] at h ⊢
   cases he : effC C call ops (base + i) o T S with
   | none => simp [he] at h
   | some q =>
    obtain ⟨v, S1, c⟩ := q
    obtain ⟨g1, g2⟩ := vE hcall ob hS (by omega) he
    simp only [he] at h
    simp only [g1]
    split at h
    ·cases h
    ·rename_i hc
     have hc' : ¬ (2 < c ∧ (ws.all (jR C call ops b base i (S1.set id ob))) = false) := by
      rintro ⟨hc3, hw⟩
      apply hc
      refine ⟨hc3, ?_⟩
      rw [← Bool.not_eq_true] at hw ⊢
      intro hall
      apply hw
      rw [List.all_eq_true] at hall ⊢
      intro w hwm
      exact z6v hcall ob g2 hid (hall w hwm)
     rw [if_neg hc']
     cases hr : seqC C call ops b base (if c = 1 then (i, T, v) :: ws else ws) l (putT T o.dst v) S1 with
     | none => simp [hr] at h
     | some q2 =>
      obtain ⟨T2, S2, cs2⟩ := q2
      obtain ⟨k1, k2⟩ := zcv hcall ob hid g2 hr
      simp only [hr, Option.some.injEq, Prod.mk.injEq] at h
      obtain ⟨rfl, rfl, rfl⟩ := h
      simp only [k1]
      exact ⟨trivial, k2⟩
theorem zds (hcall : kB call) {ops : Array Oper} {o : Oper} {T : List V} {S S' : zB} {v : V} (ob : Ob) (hS : S[id]? = some .hole) (h : panO C call ops o T S = some (v, S')) : panO C call ops o T (S.set id ob) = some (v, S'.set id ob) ∧ S'[id]? = some .hole := by
 unfold panO at h ⊢
 cases hw : zY ops T o with
 | none => simp [hw] at h
 | some b =>
  cases b with
  | false => simp [hw] at h
  | true =>
   simp only [hw] at h ⊢
   split at h
   ·cases h
   ·rename_i hk
    rw [if_neg hk]
    cases ho : opV C.P S T o with
    | none => simp [ho] at h
    | some rs =>
     obtain ⟨g1, g2⟩ := zbw ob hS ho
     simp only [g1]
     simp only [ho] at h
     cases rs with
     | enter f args =>
      simp only at h
      simp only [Rs.upd]
      cases hc : jU C call f args S with
      | none => simp [hc] at h
      | some q =>
       obtain ⟨out, S1, c1⟩ := q
       obtain ⟨k1, k2⟩ := z6p hcall ob hS hc
       simp only [k1]
       cases out with
       | pan v1 =>
        simp only [hc, Option.some.injEq, Prod.mk.injEq] at h
        obtain ⟨rfl, rfl⟩ := h
        exact ⟨rfl, k2⟩
       | ret v1 => simp [hc] at h
     | _ => simp at h
theorem zcl (hcall : kB call) {ops : Array Oper} {b : List Nat} {base : Nat} (ob : Ob) (hid : id < base) : ∀ {l : List Nat} {ws : List (Nat × List V × V)} {T : List V} {S S' : zB} {v : V} {cs : List (Nat × Nat)} {p : Nat} {rest : List Nat}, S[id]? = some .hole → seqP C call ops b base ws l T S = some (v, S', cs, p, rest) → seqP C call ops b base ws l T (S.set id ob) = some (v, S'.set id ob, cs, p, rest) ∧ S'[id]? = some .hole
 | [], ws, T, S, S', v, cs, p, rest, hS, h => by simp [seqP] at h
 | i :: l, ws, T, S, S', v, cs, p, rest, hS, h => by
  simp only [seqP] at h ⊢
  cases ho : ops[i]? with
  | none => simp [ho] at h
  | some o =>
   simp only [ho] at h ⊢
   cases hp : panO C call ops o T S with
   | some q =>
    obtain ⟨v1, S1⟩ := q
    obtain ⟨g1, g2⟩ := zds hcall ob hS hp
    simp only [hp, Option.some.injEq, Prod.mk.injEq] at h
    obtain ⟨rfl, rfl, rfl, rfl, rfl⟩ := h
    simp only [g1]
    exact ⟨trivial, g2⟩
   | none =>
    simp only [hp] at h
    cases he : effC C call ops (base + i) o T S with
    | none => simp [he] at h
    | some q =>
     obtain ⟨v1, S1, c⟩ := q
     obtain ⟨g1, g2⟩ := vE hcall ob hS (by omega) he
     simp only [he] at h
     simp only [ze0 g1, g1]
     split at h
     ·cases h
     ·rename_i hc
      have hc' : ¬ (2 < c ∧ (ws.all (jR C call ops b base i (S1.set id ob))) = false) := by
       rintro ⟨hc3, hw⟩
       apply hc
       refine ⟨hc3, ?_⟩
       rw [← Bool.not_eq_true] at hw ⊢
       intro hall
       apply hw
       rw [List.all_eq_true] at hall ⊢
       intro w hwm
       exact z6v hcall ob g2 hid (hall w hwm)
      rw [if_neg hc']
      cases hr : seqP C call ops b base (if c = 1 then (i, T, v1) :: ws else ws) l (putT T o.dst v1) S1 with
      | none => simp [hr] at h
      | some q2 =>
       obtain ⟨v2, S2, cs2, p2, rest2⟩ := q2
       obtain ⟨k1, k2⟩ := zcl hcall ob hid g2 hr
       simp only [hr, Option.some.injEq, Prod.mk.injEq] at h
       obtain ⟨rfl, rfl, rfl, rfl, rfl⟩ := h
       simp only [k1]
       exact ⟨trivial, k2⟩
theorem z7b {base : Nat} (ob : Ob) (hid : id < base) : ∀ {l : List Nat} {S : zB}, S[id]? = some .hole → killAll base l (S.set id ob) = (killAll base l S).set id ob ∧ (killAll base l S)[id]? = some .hole
 | [], S, hS => ⟨rfl, hS⟩
 | i :: r, S, hS => by
  simp only [killAll]
  rw [List.set_comm _ _ (by omega : id ≠ base + i)]
  exact z7b ob hid (by rw [List.getElem?_set_ne (by omega)]; exact hS)
theorem z6w {P : Program} {T : List V} {S : zB} {r : ResultVar} {v : V} (ob : Ob) (hS : S[id]? = some .hole) (h : jY P T S r = some v) : jY P T (S.set id ob) r = some v := by
 cases r with
 | tmp t => exact h
 | cell a t => exact zae ob hS h
theorem z50 {P : Program} {rs : Array ResultVar} {T : List V} {S : zB} {v : V} (ob : Ob) (hS : S[id]? = some .hole) (h : qG P rs T S = some v) : qG P rs T (S.set id ob) = some v := by
 unfold qG at h ⊢
 split at h
 ·exact z6w ob hS h
 ·split at h
  ·rename_i vs hvs
   rw [wW (fun x _ y hy => z6w ob hS hy) hvs]
   exact h
  ·cases h
theorem zfr {P : Program} {ex : z5y} (hex : z81 ex) {f : FuncId} {args : List V} {S S' : zB} (ob : Ob) (hS : S[id]? = some .hole) (h : z01 P ex f args S = some S') : z01 P ex f args (S.set id ob) = some (S'.set id ob) ∧ S'[id]? = some .hole := by
 unfold z01 at h ⊢
 split at h
 ·cases h
 ·rename_i bd hb
  cases he : ex bd.code (vW bd.ntmps args) S [] with
  | none => simp [he] at h
  | some q =>
   obtain ⟨x, T1, S1, F1⟩ := q
   obtain ⟨g1, g2⟩ := hex _ _ _ _ _ _ _ _ id ob he hS
   simp only [g1]
   simp only [he] at h
   have fin : (qG P bd.results T1 S1).map (fun _ => S1) = some S' → (qG P bd.results T1 (S1.set id ob)).map (fun _ => S1.set id ob) = some (S'.set id ob) ∧ S'[id]? = some .hole := fun h => by
    obtain ⟨v, hv, rfl⟩ := Option.map_eq_some_iff.1 h
    rw [z50 ob g2 hv]
    exact ⟨rfl, g2⟩
   cases x with
   | norm => cases F1 with
    | nil => exact fin h
    | cons a F1 => simp at h
   | ret => cases F1 with
    | nil => exact fin h
    | cons a F1 => simp at h
   | exit k => simp at h
   | pan v => simp at h
theorem zcx {P : Program} {ex : z5y} (hex : z81 ex) (ob : Ob) : ∀ {F : Dfs} {S S' : zB}, S[id]? = some .hole → dfrV P ex F S = some S' → dfrV P ex F (S.set id ob) = some (S'.set id ob) ∧ S'[id]? = some .hole
  | [], S, S', hS, h => by
    simp only [dfrV, Option.some.injEq] at h ⊢; subst h; exact ⟨rfl, hS⟩
  | (f, args) :: r, S, S', hS, h => by
    simp only [dfrV] at h ⊢
    cases hp : z01 P ex f args S with
    | none => simp [hp] at h
    | some S1 =>
      obtain ⟨g1, g2⟩ := zfr hex ob hS hp
      simp only [hp] at h
      simp only [g1]
      exact zcx hex ob g2 h
theorem zcy {P : Program} {ex : z5y} (hex : z81 ex) {rs : Array ResultVar} {T : List V} {S S' : zB} {F : Dfs} {o : Out} (ob : Ob) (hS : S[id]? = some .hole) (h : endV P ex rs T S F = some (o, S')) : endV P ex rs T (S.set id ob) F = some (o, S'.set id ob) ∧ S'[id]? = some .hole := by
 unfold endV at h ⊢
 cases hd : dfrV P ex F S with
 | none => simp [hd] at h
 | some S1 =>
  obtain ⟨g1, g2⟩ := zcx hex ob hS hd
  simp only [hd] at h
  simp only [g1]
  cases hr : qG P rs T S1 with
  | none => simp [hr] at h
  | some v =>
   simp only [hr, Option.some.injEq, Prod.mk.injEq] at h
   obtain ⟨rfl, rfl⟩ := h
   simp only [z50 ob g2 hr]
   exact ⟨trivial, g2⟩
end
theorem zld (C : Cfg) : ∀ n, z81 (exec C n) ∧ kB (run C n) := by
 intro n
 induction n with
 | zero => exact ⟨fun c T S F x T' S' F' id ob h => by simp [exec] at h, fun f args S o S' id ob h => by simp [run] at h⟩
 | succ n ih =>
  obtain ⟨ihe, ihr⟩ := ih
  constructor
  ·intro c T S F x T' S' F' id ob h hS
   rw [exec.eq_def] at h ⊢
   simp only at h ⊢
   cases c with
   | region rid ops dr =>
    cases dr with
    | false => exact z0t ihr ob hS h
    | true =>
     simp only at h ⊢
     have hlt := z1e hS
     have e : (S.set id ob) ++ List.replicate (vL ops) Ob.hole = (S ++ List.replicate (vL ops) Ob.hole).set id ob := by rw [List.set_append_left _ _ hlt]
     rw [List.length_set, e]
     cases hs : seqC C (run C n) ops (befs ops) S.length [] (z2e C.shared ops) T (S ++ List.replicate (vL ops) .hole) with
     | none =>
      simp only [hs] at h
      cases hp : seqP C (run C n) ops (befs ops) S.length [] (z2e C.shared ops) T (S ++ List.replicate (vL ops) .hole) with
      | none => simp [hp] at h
      | some q =>
       obtain ⟨v, S1, cs, p, rest⟩ := q
       obtain ⟨g1, g2⟩ := zcl ihr ob hlt (by rw [List.getElem?_append_left hlt]; exact hS) hp
       simp only [hp] at h
       simp only [z8d (fun _ _ _ _ h => h) g1, g1]
       split at h
       ·rename_i hd
        rw [if_pos hd]
        simp only [Option.some.injEq, Prod.mk.injEq] at h
        obtain ⟨rfl, rfl, rfl, rfl⟩ := h
        obtain ⟨k1, k2⟩ := z7b ob hlt (l := rest) g2
        rw [k1]
        exact ⟨rfl, k2⟩
       ·cases h
     | some q =>
      obtain ⟨T1, S1, cs⟩ := q
      obtain ⟨g1, g2⟩ := zcv ihr ob hlt (by rw [List.getElem?_append_left hlt]; exact hS) hs
      simp only [hs] at h
      simp only [g1]
      split at h
      ·rename_i hd
       rw [if_pos hd]
       simp only [Option.some.injEq, Prod.mk.injEq] at h
       obtain ⟨rfl, rfl, rfl, rfl⟩ := h
       exact ⟨rfl, g2⟩
      ·cases h
   | seq a b =>
    simp only at h ⊢
    cases ha : exec C n a T S F with
    | none => simp [ha] at h
    | some q =>
     obtain ⟨x1, T1, S1, F1⟩ := q
     obtain ⟨g1, g2⟩ := ihe _ _ _ _ _ _ _ _ id ob ha hS
     simp only [g1]
     simp only [ha] at h
     cases x1 with
     | norm => exact ihe _ _ _ _ _ _ _ _ id ob h g2
     | _ =>
      simp only [Option.some.injEq, Prod.mk.injEq] at h
      obtain ⟨rfl, rfl, rfl, rfl⟩ := h
      exact ⟨rfl, g2⟩
   | cond cc a b =>
    simp only at h ⊢
    split at h <;> first | exact ihe _ _ _ _ _ _ _ _ id ob h hS | cases h
   | block k b =>
    simp only at h ⊢
    cases ha : exec C n b T S F with
    | none => simp [ha] at h
    | some q =>
     obtain ⟨x1, T1, S1, F1⟩ := q
     obtain ⟨g1, g2⟩ := ihe _ _ _ _ _ _ _ _ id ob ha hS
     simp only [g1]
     simp only [ha] at h
     cases x1 with
     | exit m =>
      simp only at h ⊢
      split at h
      ·rename_i hm
       rw [if_pos hm]
       simp only [Option.some.injEq, Prod.mk.injEq] at h
       obtain ⟨rfl, rfl, rfl, rfl⟩ := h
       exact ⟨rfl, g2⟩
      ·rename_i hm
       rw [if_neg hm]
       simp only [Option.some.injEq, Prod.mk.injEq] at h
       obtain ⟨rfl, rfl, rfl, rfl⟩ := h
       exact ⟨rfl, g2⟩
     | _ =>
      simp only [Option.some.injEq, Prod.mk.injEq] at h
      obtain ⟨rfl, rfl, rfl, rfl⟩ := h
      exact ⟨rfl, g2⟩
   | loop b =>
    simp only at h ⊢
    cases ha : exec C n b T S F with
    | none => simp [ha] at h
    | some q =>
     obtain ⟨x1, T1, S1, F1⟩ := q
     obtain ⟨g1, g2⟩ := ihe _ _ _ _ _ _ _ _ id ob ha hS
     simp only [g1]
     simp only [ha] at h
     cases x1 with
     | norm => exact ihe _ _ _ _ _ _ _ _ id ob h g2
     | _ =>
      simp only [Option.some.injEq, Prod.mk.injEq] at h
      obtain ⟨rfl, rfl, rfl, rfl⟩ := h
      exact ⟨rfl, g2⟩
   | scope b => exact ihe _ _ _ _ _ _ _ _ id ob h hS
   | skip => simp only [Option.some.injEq, Prod.mk.injEq] at h ⊢; obtain ⟨rfl, rfl, rfl, rfl⟩ := h; exact ⟨⟨rfl, rfl, rfl, rfl⟩, hS⟩
   | label l => simp only [Option.some.injEq, Prod.mk.injEq] at h ⊢; obtain ⟨rfl, rfl, rfl, rfl⟩ := h; exact ⟨⟨rfl, rfl, rfl, rfl⟩, hS⟩
   | exit l => simp only [Option.some.injEq, Prod.mk.injEq] at h ⊢; obtain ⟨rfl, rfl, rfl, rfl⟩ := h; exact ⟨⟨rfl, rfl, rfl, rfl⟩, hS⟩
   | ret => simp only [Option.some.injEq, Prod.mk.injEq] at h ⊢; obtain ⟨rfl, rfl, rfl, rfl⟩ := h; exact ⟨⟨rfl, rfl, rfl, rfl⟩, hS⟩
   | _ => simp at h
  ·intro f args S o S' id ob h hS
   rw [run.eq_def] at h ⊢
   simp only at h ⊢
   split at h
   ·rename_i post hp
    split at h
    ·rename_i g first caps
     cases hc : run C n g (first ++ caps) S with
     | none => simp [hc] at h
     | some q =>
      obtain ⟨o1, S1⟩ := q
      obtain ⟨g1, g2⟩ := ihr _ _ _ _ _ id ob hc hS
      simp only [g1]
      simp only [hc] at h
      split at h
      ·cases h
      ·rename_i v hv
       try simp only [hv]
       simp only [Option.some.injEq, Prod.mk.injEq] at h
       obtain ⟨rfl, rfl⟩ := h
       exact ⟨rfl, g2⟩
    ·cases h
   ·split at h
    ·cases h
    ·rename_i bd hb
     cases he : exec C n bd.code (vW bd.ntmps args) S [] with
     | none => simp [he] at h
     | some q =>
      obtain ⟨x1, T1, S1, F1⟩ := q
      obtain ⟨g1, g2⟩ := ihe _ _ _ _ _ _ _ _ id ob he hS
      simp only [g1]
      simp only [he] at h
      cases x1 with
      | norm => exact zcy ihe ob g2 h
      | ret => exact zcy ihe ob g2 h
      | exit k => simp at h
      | pan v => cases F1 with
       | nil =>
        simp only [Option.some.injEq, Prod.mk.injEq] at h
        obtain ⟨rfl, rfl⟩ := h
        exact ⟨rfl, g2⟩
       | cons a F1 => simp at h
section
variable {P : Program} {S : zB}
theorem zdx {T T' : List V} {o : Oper} (h : ∀ x ∈ o.op.operands.toList, zE T x = zE T' x) : opV P S T o = opV P S T' o := by
 obtain ⟨dst, op, type, pos, after, guard⟩ := o
 have pairs : ∀ ps : Array (Nat × Operand), (∀ x ∈ ps.toList.map (·.2), zE T x = zE T' x) → ps.toList.map (fun p => (p.1, zE T p.2)) = ps.toList.map fun p => (p.1, zE T' p.2) := fun ps hp =>
  List.map_congr_left fun p hm => by rw [hp p.2 (List.mem_map.2 ⟨p, hm, rfl⟩)]
 have many : ∀ xs : Array Operand, (∀ x ∈ xs.toList, zE T x = zE T' x) → xs.toList.map (zE T) = xs.toList.map (zE T') := fun xs hx => List.map_congr_left hx
 cases op <;> simp only [Op.operands] at h <;> simp only [opV]
 case build t ps => rw [pairs ps fun x hx => h x (by simpa using hx)]
 case buildSlice t n ps =>
  have hp := pairs ps fun x hx => h x (by simpa using hx)
  have ha : (ps.toList.all fun p => decide (p.1 < n) && qB P (match P.underlying t with | some (.slice e) => e | _ => 0) (zE T p.2)) = (ps.toList.all fun p => decide (p.1 < n) && qB P (match P.underlying t with | some (.slice e) => e | _ => 0) (zE T' p.2)) := by
   have := congrArg (fun l => l.all fun (p : Nat × V) => decide (p.1 < n) && qB P (match P.underlying t with | some (.slice e) => e | _ => 0) p.2) hp
   simpa [List.all_map] using this
  cases hu : P.underlying t with
  | none => rfl
  | some td =>
   cases td <;> simp only
   rename_i e
   simp only [hu] at ha
   rw [hp, ha]
 case makeFunc fn first captured =>
  rw [many first fun x hx => h x (by simp at hx ⊢; exact .inl hx), many captured fun x hx => h x (by simp at hx ⊢; exact .inr hx)]
 case call c =>
  have h2 := many c.args fun x hx => h x (by simp [Call.operands] at hx ⊢; exact .inr hx)
  cases hc : c.callee with
  | value f => simp only; rw [h f (by simp [Call.operands, hc]), h2]
  | invoke r m => rfl
  | builtin b => simp only [h2]
 case defer c =>
  have h2 := many c.args fun x hx => h x (by simp [Call.operands] at hx ⊢; exact .inr hx)
  cases hc : c.callee with
  | value f => simp only; rw [h f (by simp [Call.operands, hc]), h2]
  | invoke r m => rfl
  | builtin b => rfl
 case slice t x lo hi mx =>
  cases mx with
  | some m => rfl
  | none => cases lo <;> cases hi <;> simp_all
 case next it b => cases b <;> simp_all
 all_goals (first | rfl | (simp_all; done))
theorem zii {T T' : List V} {o : Oper} (h : ∀ x ∈ o.op.operands.toList, zE T x = zE T' x) : addO P T o = addO P T' o := by
 obtain ⟨dst, op, type, pos, after, guard⟩ := o
 cases op <;> simp only [Op.operands] at h <;> simp only [addO]
 all_goals (first | rfl | (simp_all; done))
theorem zax {xs : List Operand} {t : Tmp} (h : .tmp t ∈ xs) : t ∈ zr5 xs := List.mem_filterMap.2 ⟨_, h, rfl⟩
theorem z3p {C : Cfg} {call : kE} {ops : Array Oper} {i : Nat} {o : Oper} {T T' : List V} (h : ∀ t ∈ zhg ops o, T[t]? = T'[t]?) (S : zB) : effC C call ops i o T S = effC C call ops i o T' S := by
 have h0 : ∀ x ∈ o.op.operands.toList, zE T x = zE T' x := fun x hx => by
  cases x with
  | tmp t =>
   have := h t (List.mem_append_left _ (zax hx))
   simp [zE, List.getD_eq_getElem?_getD, this]
  | _ => rfl
 have h1 : opV C.P S T o = opV C.P S T' o := zdx h0
 have h3 : addO C.P T o = addO C.P T' o := zii h0
 have h2 : zY ops T o = zY ops T' o := by
  unfold zY
  cases hg : o.guard with
  | none => rfl
  | some g =>
   obtain ⟨j, want⟩ := g
   simp only
   unfold qO
   cases hd : (ops[j]?).bind (·.dst) with
   | none => rfl
   | some d =>
    have : T[d]? = T'[d]? := h d (List.mem_append_right _ (by simp [hg, hd]))
    simp only [this]
 unfold effC
 rw [h1, h2, h3]
theorem zlr {C : Cfg} {call : kE} {f : FuncId} {args : List V} {o : Out} {S' : zB} {c : Nat} (h : jU C call f args S = some (o, S', c)) : c = 3 ∨ (c = 1 ∧ S' = S) := by
 unfold jU at h
 split at h
 ·obtain ⟨⟨o', S2⟩, h1, h2⟩ := Option.map_eq_some_iff.1 h
  simp only [Prod.mk.injEq] at h2
  exact .inl h2.2.2.symm
 ·split at h
  ·cases h
  ·rename_i ds hds
   cases ha : answer C call f ds with
   | none => simp [ha] at h
   | some out =>
    simp only [ha] at h
    split at h
    ·simp only [Option.some.injEq, Prod.mk.injEq] at h
     exact .inr ⟨h.2.2.symm, h.2.1.symm⟩
    ·split at h
     ·simp only [Option.some.injEq, Prod.mk.injEq] at h
      exact .inr ⟨h.2.2.symm, h.2.1.symm⟩
     ·split at h
      ·simp only [Option.some.injEq, Prod.mk.injEq] at h
       exact .inl h.2.2.symm
      ·cases h
theorem z22 {C : Cfg} {call : kE} {ops : Array Oper} {i : Nat} {o : Oper} {T : List V} {v : V} {S' : zB} {c : Nat} (h : effC C call ops i o T S = some (v, S', c)) :
  (c = 0 → S' = S ∧ ∀ S2, effC C call ops i o T S2 = some (v, S2, 0)) ∧ (c = 1 → S' = S) ∧ (c = 2 → ∃ ob, S[i]? = some .hole ∧ S' = S.set i ob ∧ ∀ S2, S2[i]? = some Ob.hole → effC C call ops i o T S2 = some (v, S2.set i ob, 2)) := by
 have hcls := zsl (P := C.P) (S := S) T o
 obtain ⟨k0, k1, k2, k3, k4⟩ := hcls
 unfold effC at h
 cases hw : zY ops T o with
 | none => simp [hw] at h
 | some b =>
  cases b with
  | false =>
   simp only [hw, Option.some.injEq, Prod.mk.injEq] at h
   obtain ⟨rfl, rfl, rfl⟩ := h
   exact ⟨fun _ => ⟨rfl, fun S2 => by simp [effC, hw]⟩, fun h => by omega, fun h => by omega⟩
  | true =>
   simp only [hw] at h
   split at h
   ·rename_i hk
    cases hadd : addO C.P T o with
    | none => simp [hadd] at h
    | some q =>
     obtain ⟨ob, f⟩ := q
     simp only [hadd] at h
     split at h
     ·rename_i hh
      simp only [Option.some.injEq, Prod.mk.injEq] at h
      obtain ⟨rfl, rfl, rfl⟩ := h
      refine ⟨fun h => by omega, fun h => by omega, fun _ => ⟨ob, hh, rfl, fun S2 h2 => ?_⟩⟩
      simp [effC, hw, hk, hadd, h2]
     ·cases h
   ·rename_i hk
    cases ho : opV C.P S T o with
    | none => simp [ho] at h
    | some r =>
     simp only [ho] at h
     cases r with
     | val v1 S1 c1 =>
      simp only [Option.some.injEq, Prod.mk.injEq] at h
      obtain ⟨rfl, rfl, rfl⟩ := h
      refine ⟨fun h => ?_, fun h => ?_, fun h => ?_⟩
      ·have hc : c1 = 0 := by unfold num2 at h; split at h <;> omega
       subst hc
       obtain ⟨e1, e2⟩ := k0 _ _ ho
       exact ⟨e1, fun S2 => by have := e2 S2; simp only at this; simp [effC, hw, hk, this, num2]⟩
      ·have hc : c1 = 1 := by unfold num2 at h; split at h <;> omega
       subst hc
       exact (k1 _ _ ho).1
      ·unfold num2 at h; split at h <;> omega
     | skip S1 c1 =>
      simp only [Option.some.injEq, Prod.mk.injEq] at h
      obtain ⟨rfl, rfl, rfl⟩ := h
      exact ⟨fun h => by omega, fun h => by omega, fun h => by omega⟩
     | enter f args =>
      have e4 := k4 _ _ ho
      simp only at h e4
      cases hc : jU C call f args S with
      | none => simp [hc] at h
      | some q =>
       obtain ⟨out, S1, c1⟩ := q
       cases out with
       | ret v1 =>
        simp only [hc, Option.some.injEq, Prod.mk.injEq] at h
        obtain ⟨rfl, rfl, rfl⟩ := h
        rcases zlr hc with rfl | ⟨rfl, e1⟩
        ·exact ⟨fun h => by simp [num2] at h, fun h => by simp [num2] at h, fun h => by simp [num2] at h⟩
        ·exact ⟨fun h => by simp [num2] at h, fun _ => e1, fun h => by simp [num2] at h⟩
       | pan v1 => simp [hc] at h
     | dfr f args => simp at h
     | pan v1 => simp at h
theorem z84 {T : List V} {d : Option Tmp} {v : V} {t : Tmp} (h : d ≠ some t) : (putT T d v)[t]? = T[t]? := by
 cases d with
 | none => rfl
 | some d =>
  simp only [putT]
  rw [List.getElem?_set_ne]
  rintro rfl; exact h rfl
theorem zma {T : List V} {x y : Option Tmp} {v u : V} (h : ∀ d, x = some d → y ≠ some d) : putT (putT T x v) y u = putT (putT T y u) x v := by
 cases x with
 | none => rfl
 | some d =>
  cases y with
  | none => rfl
  | some e =>
   have hne : d ≠ e := fun he => h d rfl (he ▸ rfl)
   simp only [putT]
   exact List.set_comm _ _ hne
theorem z17 {ops : Array Oper} {a b : Oper} (h : kY ops a b = true) : (∀ d, a.dst = some d → d ∉ zhg ops b) ∧ (∀ d, a.dst = some d → b.dst ≠ some d) ∧ (∀ d, b.dst = some d → d ∉ zhg ops a) := by
 unfold kY at h
 refine ⟨fun d hd => ?_, fun d hd => ?_, fun d hd => ?_⟩ <;> simp [hd] at h
 ·exact h.1.1
 ·exact h.1.2
 ·exact h.2
theorem z49 {x y : D} (h : jN x y = true) : x = y := by
 cases x <;> cases y <;> simp only [jN, Bool.false_eq_true, Bool.and_eq_true, beq_iff_eq] at h <;> first | (subst h; rfl) | (obtain ⟨rfl, rfl⟩ := h; rfl)
theorem zan : ∀ {xs ys : List D}, wT xs ys = true → xs = ys
 | [], [], _ => rfl
 | [], _ :: _, h => by simp [wT] at h
 | _ :: _, [], h => by simp [wT] at h
 | x :: xs, y :: ys, h => by
  simp only [wT, Bool.and_eq_true] at h
  rw [z49 h.1, zan h.2]
theorem zlp {f : D → D → Bool} (hf : ∀ x y, f x y = true → x = y) : ∀ {xs ys : List D}, all2 f xs ys = true → xs = ys
 | [], [], _ => rfl
 | [], _ :: _, h => by simp [all2] at h
 | _ :: _, [], h => by simp [all2] at h
 | x :: xs, y :: ys, h => by
  simp only [all2, Bool.and_eq_true] at h
  rw [hf _ _ h.1, zlp hf h.2]
theorem zpw : ∀ {n : Nat} {x y : D}, z1q n x y = true → x = y := fun {n} => by
 induction n with
 | zero =>
  intro x y h
  unfold z1q at h
  exact z49 h
 | succ n ih =>
  intro x y h
  cases x <;> cases y <;> simp only [z1q] at h <;> first | exact z49 h | rw [zlp (fun _ _ h => ih h) h] | rw [ih h]
theorem z7k {x y : V} (h : qQ x y = true) : x = y := by
 unfold qQ at h
 split at h
 ·rw [zpw h]
 ·simp only [Bool.and_eq_true, beq_iff_eq] at h
  obtain ⟨⟨rfl, rfl⟩, rfl⟩ := h; rfl
 ·simp only [beq_iff_eq] at h; subst h; rfl
 ·rw [zan h]
 ·simp only [Bool.and_eq_true, beq_iff_eq] at h
  obtain ⟨⟨rfl, rfl⟩, rfl⟩ := h; rfl
 ·cases h
theorem z24 : ∀ {xs ys : List V}, vP xs ys = true → xs = ys
 | [], [], _ => rfl
 | [], _ :: _, h => by simp [vP] at h
 | _ :: _, [], h => by simp [vP] at h
 | x :: xs, y :: ys, h => by
  simp only [vP, Bool.and_eq_true] at h
  rw [z7k h.1, z24 h.2]
theorem z95 {x y : V} (h : qW x y = true) : x = y := by
 unfold qW at h
 split at h
 ·simp only [Bool.and_eq_true, beq_iff_eq] at h
  obtain ⟨⟨rfl, h1⟩, h2⟩ := h
  rw [z24 h1, z24 h2]
 ·exact z7k h
theorem z79 : ∀ {xs ys : List V}, kX xs ys = true → xs = ys
 | [], [], _ => rfl
 | [], _ :: _, h => by simp [kX] at h
 | _ :: _, [], h => by simp [kX] at h
 | x :: xs, y :: ys, h => by
  simp only [kX, Bool.and_eq_true] at h
  rw [z95 h.1, z79 h.2]
theorem zoy {x y : V} (h : wV x y = true) : x = y := by
 unfold wV at h
 split at h
 ·rw [z79 h]
 ·exact z95 h
theorem zn0 {C : Cfg} {call : kE} (hcall : kB call) {ops : Array Oper} {i j : Nat} {o1 o2 : Oper} {T : List V} {S1 S2 : zB} {v1 v2 : V} {c1 c2 : Nat} (hij : i ≠ j) (h1 : effC C call ops i o1 T S = some (v1, S1, c1)) (h2 : effC C call ops j o2 (putT T o1.dst v1) S1 = some (v2, S2, c2)) (hap : kY ops o1 o2 = true) (hcl : z1p c1 c2 = true)
  (hh : c2 = 2 → S[j]? = some .hole) (hw : c1 = 1 → 2 < c2 → effC C call ops i o1 T S2 = some (v1, S2, 1)) :
  ∃ S', effC C call ops j o2 T S = some (v2, S', c2) ∧ effC C call ops i o1 (putT T o2.dst v2) S' = some (v1, S2, c1) ∧ putT (putT T o1.dst v1) o2.dst v2 = putT (putT T o2.dst v2) o1.dst v1 := by
 obtain ⟨a1, a2, a3⟩ := z17 hap
 have e2 : effC C call ops j o2 T S1 = some (v2, S2, c2) := by
  rw [← h2]
  exact z3p (fun t ht => (z84 (fun h => a1 t h ht)).symm) S1
 have back : ∀ S', effC C call ops i o1 (putT T o2.dst v2) S' = effC C call ops i o1 T S' := fun S' =>
  z3p (fun t ht => z84 (fun h => a3 t h ht)) S'
 have hcomm : putT (putT T o1.dst v1) o2.dst v2 = putT (putT T o2.dst v2) o1.dst v1 := zma a2
 obtain ⟨k0, k1, k2⟩ := z22 h1
 obtain ⟨m0, m1, m2⟩ := z22 e2
 have fin : ∀ S', effC C call ops j o2 T S = some (v2, S', c2) → effC C call ops i o1 T S' = some (v1, S2, c1) → ∃ S', effC C call ops j o2 T S = some (v2, S', c2) ∧ effC C call ops i o1 (putT T o2.dst v2) S' = some (v1, S2, c1) ∧ putT (putT T o1.dst v1) o2.dst v2 = putT (putT T o2.dst v2) o1.dst v1 := fun S' g1 g2 =>
  ⟨S', g1, by rw [back]; exact g2, hcomm⟩
 by_cases z1 : c1 = 0
 ·subst z1
  obtain ⟨rfl, f1⟩ := k0 rfl
  exact fin _ e2 (f1 _)
 by_cases z2 : c2 = 0
 ·subst z2
  obtain ⟨rfl, f1⟩ := m0 rfl
  exact fin _ (f1 S) h1
 by_cases z3 : c2 = 2
 ·subst z3
  obtain ⟨ob, g1, rfl, g2⟩ := m2 rfl
  have hS := hh rfl
  exact fin _ (g2 S hS) (vE hcall ob hS hij h1).1
 have z4 : c1 = 1 := by
  unfold z1p at hcl
  simp only [Bool.or_eq_true, beq_iff_eq] at hcl
  omega
 subst z4
 have := k1 rfl
 subst this
 by_cases z5 : c2 = 1
 ·subst z5
  have := m1 rfl
  subst this
  exact fin _ e2 h1
 exact fin _ e2 (hw rfl (by omega))
end
section
variable {P : Program} {S : zB} {ρ : Nat → Nat} {A : Nat → Prop} {w w' : World}
theorem Inv.fill (h : Inv P S ρ A w) {id : Nat} {o : Ob} (hS : S[id]? = some .hole) (hl : o.live = true) (hsz : w'.heap.size = w.heap.size + 1) (hold : ∀ b, b < w.heap.size → w'.heap[b]? = w.heap[b]?) (h1 : w'.os = w.os) (h2 : w'.tape = w.tape) (h3 : w'.output = w.output)
  (hok : SLe S ρ w (S.set id o) (fun i => if i = id then w.heap.size else ρ i) w' → (∀ b, A b → w'.heap[b]? = w.heap[b]?) → ObOk P (S.set id o) (fun i => if i = id then w.heap.size else ρ i) A w' w.heap.size o) :
  Inv P (S.set id o) (fun i => if i = id then w.heap.size else ρ i) A w' ∧ Step S ρ A w (S.set id o) (fun i => if i = id then w.heap.size else ρ i) A w' := by
 have hid := z1e hS
 have hA : ∀ b, A b → w'.heap[b]? = w.heap[b]? := fun b hb => hold b (h.lt b hb)
 have hs : SLe S ρ w (S.set id o) (fun i => if i = id then w.heap.size else ρ i) w' := fun j x hx hne => by
  have hj : id ≠ j := by rintro rfl; rw [hS] at hx; cases hx; exact hne rfl
  refine ⟨x, by rw [List.getElem?_set_ne hj]; exact hx, x.le_refl, ?_⟩
  by_cases hd : x = .dead
  ·exact .inl hd
  ·exact .inr ⟨by simp [Ne.symm hj], fun c e f hc => ⟨c, e, f, (hold _ (kH hc)).trans hc, rfl⟩⟩
 have hlt : ∀ j x, S[j]? = some x → x.live = true → ρ j < w.heap.size := fun j x hx hxl => (h.ok j x hx).lt (by rintro rfl; cases hxl) (by rintro rfl; cases hxl)
 refine ⟨⟨fun j x hx => ?_, fun i j x y hx hy hxl hyl hij => ?_, fun i x hx hxl => ?_, fun b hb => by have := h.lt b hb; omega, h.gl.step (fun _ h => h) hA⟩, ⟨h1, h2, h3, by omega, fun b hb _ => hold b hb, hA, fun _ h => h, fun _ h => .inl h, fun b hb => ?_, hs⟩⟩
 ·rcases wF hx with ⟨rfl, rfl, _⟩ | ⟨hj, hx'⟩
  ·simp only [if_true]; exact hok hs hA
  ·simp only [if_neg hj]
   exact (h.ok j x hx').mono (fun _ h => h) hA hs (fun hl => hold _ (hlt j x hx' hl))
 ·rcases wF hx with ⟨rfl, rfl, _⟩ | ⟨hi, hx'⟩ <;> rcases wF hy with ⟨rfl, rfl, _⟩ | ⟨hj, hy'⟩
  ·rfl
  ·simp only [if_true, if_neg hj] at hij
   have := hlt j y hy' hyl; omega
  ·simp only [if_true, if_neg hi] at hij
   have := hlt i x hx' hxl; omega
  ·simp only [if_neg hi, if_neg hj] at hij
   exact h.inj i j x y hx' hy' hxl hyl hij
 ·rcases wF hx with ⟨rfl, rfl, _⟩ | ⟨hi, hx'⟩
  ·simp only [if_true]
   intro hb
   have := h.lt _ hb; omega
  ·simp only [if_neg hi]; exact h.own i x hx' hxl
 ·obtain ⟨j, x, hx, hxl, rfl⟩ := hb
  rcases wF hx with ⟨rfl, rfl, _⟩ | ⟨hj, hx'⟩
  ·simp only [if_true]; exact .inr (Nat.le_refl _)
  ·simp only [if_neg hj]; exact .inl ⟨j, x, hx', hxl, rfl⟩
theorem Inv.holes (h : Inv P S ρ A w) (n : Nat) : Inv P (S ++ List.replicate n .hole) ρ A w ∧ Step S ρ A w (S ++ List.replicate n .hole) ρ A w := by
 have split : ∀ i x, (S ++ List.replicate n Ob.hole)[i]? = some x → S[i]? = some x ∨ x = Ob.hole := fun i x hx => by
  rw [List.getElem?_append] at hx
  split at hx
  ·exact .inl hx
  ·rw [List.getElem?_replicate] at hx
   split at hx
   ·simp at hx; exact .inr hx.symm
   ·cases hx
 have hs : SLe S ρ w (S ++ List.replicate n .hole) ρ w := fun j x hx _ =>
  ⟨x, by rw [List.getElem?_append_left (z1e hx)]; exact hx, x.le_refl, .inr ⟨rfl, fun c e f hc => ⟨c, e, f, hc, rfl⟩⟩⟩
 refine ⟨⟨fun j x hx => ?_, fun i j x y hx hy hxl hyl hij => ?_, fun i x hx hxl => ?_, h.lt, h.gl⟩, ⟨rfl, rfl, rfl, Nat.le_refl _, fun _ _ _ => rfl, fun _ _ => rfl, fun _ h => h, fun _ h => .inl h, fun b hb => ?_, hs⟩⟩
 ·rcases split j x hx with h' | rfl
  ·exact (h.ok j x h').mono (fun _ h => h) (fun _ _ => rfl) hs (fun _ => rfl)
  ·trivial
 ·rcases split i x hx with hx' | rfl
  ·rcases split j y hy with hy' | rfl
   ·exact h.inj i j x y hx' hy' hxl hyl hij
   ·cases hyl
  ·cases hxl
 ·rcases split i x hx with hx' | rfl
  ·exact h.own i x hx' hxl
  ·cases hxl
 ·obtain ⟨j, x, hx, hxl, rfl⟩ := hb
  rcases split j x hx with hx' | rfl
  ·exact .inl ⟨j, x, hx', hxl, rfl⟩
  ·cases hxl
end
section
variable {P : Program} {S : zB} {ρ : Nat → Nat} {A : Nat → Prop} {w w' : World}
def Lays (P : Program) (S : zB) (ρ : Nat → Nat) (A : Nat → Prop) (w w' : World) (o : Ob) (f : Nat → V) (u : Value) : Prop :=
 o.live = true ∧ w'.heap.size = w.heap.size + 1 ∧ (∀ b, b < w.heap.size → w'.heap[b]? = w.heap[b]?) ∧ w'.os = w.os ∧ w'.tape = w.tape ∧ w'.output = w.output ∧
 (∀ S' ρ', SLe S ρ w S' ρ' w' → (∀ b, A b → w'.heap[b]? = w.heap[b]?) → ObOk P S' ρ' A w' w.heap.size o) ∧
 (∀ (S' : zB) ρ' id, S'[id]? = some o → ρ' id = w.heap.size → RepV P S' ρ' A w' (f id) u)
theorem zga {e : TypeId} {z : V} {u : Value} (hf : qB P e z = true) (hz : RepV P S ρ A w z u) : Lays P S ρ A w (w.alloc (.cells u.cells e)) (.row [z] e) (fun id => .ref id 0 0) (.pointer (some ⟨w.heap.size, 0, none⟩)) := by
 obtain ⟨hzw, k, hk, hk1, hk2⟩ := wZ hf hz
 have hzc := jJ hzw
 refine ⟨rfl, by simp, fun b hb => kN _ hb, rfl, rfl, rfl, fun S' ρ' hs hA => ?_, fun S' ρ' id h1 h2 => ?_⟩
 ·simp only [ObOk]
  refine ⟨k, u.cells, u.cells.toList, [], hk, jK _, by simp, ?_⟩
  simp only [qS]
  exact ⟨u.cells.toList, [], by simp, by simpa using hk1, wA (fun _ h => h) hA hs _ _ hzc, rfl⟩
 ·refine zV ((zM rfl).2 ?_)
  simp only [zU]
  refine ⟨_, rfl, ?_⟩
  unfold RefPl
  simp [h1, h2, hk]
theorem zof : Lays P S ρ A w (w.alloc (.map #[] 0)) (.mp [] 0) .mr (.map (some w.heap.size)) := by
 refine ⟨rfl, by simp, fun b hb => kN _ hb, rfl, rfl, rfl, fun S' ρ' hs hA => ?_, fun S' ρ' id h1 h2 => ?_⟩
 ·simp only [ObOk]
  exact ⟨#[], jK _, by simp [jM], by simp, by simp⟩
 ·refine zV ((zM rfl).2 ?_)
  simp only [zU]
  exact ⟨_, rfl, by unfold MapPl; simp [h1, h2]⟩
theorem zmq (s : List UInt8) : Lays P S ρ A w (w.alloc (.stringIter ⟨s.toArray⟩ 0)) (.iter s 0) .it (.pointer (some ⟨w.heap.size, 0, none⟩)) := by
 refine ⟨rfl, by simp, fun b hb => kN _ hb, rfl, rfl, rfl, fun S' ρ' hs hA => ?_, fun S' ρ' id h1 h2 => ?_⟩
 ·simp only [ObOk]
  exact jK _
 ·refine zV ((zM rfl).2 ?_)
  simp only [zU]
  exact ⟨_, rfl, by unfold ItPl; simp [h1, h2]⟩
theorem zi4 {t e : TypeId} {l c : Int} {z : V} (hu : P.underlying t = some (.slice e)) (hz : zeroV P e = some z) (hb : 0 ≤ l ∧ l ≤ c ∧ c ≤ 9223372036854775807) (hr : room P e c.toNat = true ∧ qB P e z = true) :
  ∃ w' u, (Instr.makeSlice t (.int .i64 l) (.int .i64 c)).run P w = .ok u w' ∧ Lays P S ρ A w w' (.row (List.replicate c.toNat z) e) (fun id => .rs id 0 l.toNat) u := by
 obtain ⟨h1, h2, h3⟩ := z1f hr.2
 obtain ⟨i, d, hi, hik, hd⟩ := z38 h3
 obtain ⟨r1, r2⟩ := z5e hr.1 hi
 unfold zeroV at hz
 simp only [hi, Option.bind_some] at hz
 cases hzz : i.zero with
 | none => simp [hzz] at hz
 | some z0 =>
  simp only [hzz, Option.bind_some] at hz
  have hzr := z0j (P := P) (S := S) (ρ := ρ) (A := A) (w := w) hz
  have hzc := jJ hzr
  have hzl : z0.cells.size = i.size := by
   have := jE hzc
   simp only [Array.length_toList] at this
   omega
  have wl : IntKind.i64.wrap l = l := IntWalk.i64_in _ (by omega)
  have wc : IntKind.i64.wrap c = c := IntWalk.i64_in _ (by omega)
  have hrow := z2z hzc hzl c.toNat
  have t1 : ¬ ((i.bytes : Int) * c > 2 ^ 48) := by
   have : (i.bytes : Int) * c = ((c.toNat * i.bytes : Nat) : Int) := by
    rw [Nat.mul_comm, Int.natCast_mul, Int.toNat_of_nonneg (by omega)]
   rw [this]; omega
  have hrun : (Instr.makeSlice t (.int .i64 l) (.int .i64 c)).run P w = .ok (.slice (some ⟨w.heap.size, 0, none⟩) l.toNat c.toNat) (w.alloc (.cells ((Array.range (c.toNat * i.size)).map fun j => z0.cells[j % i.size]!) e)) := by
   have hneg : ¬ c < 0 := by omega
   have hl0 : ¬ l < 0 := by omega
   have hlc : ¬ c < l := by omega
   have t1' : ¬ (281474976710656 < (i.bytes : Int) * c) := by have := t1; omega
   by_cases hn : c.toNat * i.size = 0
   ·simp [Instr.makeSlice, run_underlying hu, asInt, asIntOf, typeInfo, hi, wl, wc, hneg, hl0, hlc, t1', sizeOf, newRow, hn, Array.range_zero']
   ·simp [Instr.makeSlice, run_underlying hu, asInt, asIntOf, typeInfo, hi, wl, wc, hneg, hl0, hlc, t1', sizeOf, newRow, hn, zeroValue, hzz, hzl]
  refine ⟨_, _, hrun, rfl, by simp, fun b hb => kN _ hb, rfl, rfl, rfl, fun S' ρ' hs hA => ?_, fun S' ρ' id g1 g2 => ?_⟩
  ·simp only [ObOk]
   exact ⟨i.size, _, _, [], by rw [h3, hik], jK _, by rw [List.append_nil], jI (fun _ h => h) hA hs _ _ _ hrow⟩
  ·refine zV ((zM rfl).2 ?_)
   simp only [zU]
   refine ⟨_, _, rfl, ?_⟩
   unfold RowPl
   simp only [g1]
   refine ⟨i.size, by rw [h3, hik], .inl (by simp [g2]), by simp; omega, by omega, _, e, (0, 0), by rw [g2]; exact jK _, by simp⟩
theorem zop (hI : Inv P S ρ A w) {T : List V} {a : Act} (hT : RepT P S ρ A w T a.tmps.toList) {o : Oper} {ob : Ob} {f : Nat → V} (h : addO P T o = some (ob, f)) : ∃ u w', (execOp a.eval o).run P w = .ok (.value u) w' ∧ Lays P S ρ A w w' ob f u := by
 have ev := fun x => z1i hT x
 unfold addO at h
 unfold execOp
 split at h
 ·rename_i e hop
  simp only [hop]
  split at h
  ·rename_i z hz
   split at h
   ·rename_i hf
    simp only [Option.some.injEq, Prod.mk.injEq] at h; obtain ⟨rfl, rfl⟩ := h
    obtain ⟨zv, hz1, hz2⟩ := z2m (S := S) (ρ := ρ) (A := A) (w := w) hz
    exact ⟨_, _, vA _ (u := .pointer (some ⟨w.heap.size, 0, none⟩)) (by simp [Instr.alloc, hz1, newVar, newRow]), zga hf (zV hz2)⟩
   ·cases h
  ·cases h
 ·rename_i e x hop
  simp only [hop]
  split at h
  ·rename_i hf
   simp only [Option.some.injEq, Prod.mk.injEq] at h; obtain ⟨rfl, rfl⟩ := h
   exact ⟨_, _, vA _ (u := .pointer (some ⟨w.heap.size, 0, none⟩)) (by simp [Instr.box, newVar, newRow]), zga hf (ev x)⟩
  ·cases h
 ·rename_i t r hop
  simp only [hop]
  split at h
  ·simp only [Option.some.injEq, Prod.mk.injEq] at h; obtain ⟨rfl, rfl⟩ := h
   exact ⟨_, _, vA _ (u := .map (some w.heap.size)) (by simp [Instr.makeMap]), zof⟩
  ·cases h
 ·rename_i t l c hop
  simp only [hop]
  split at h
  ·rename_i e hu
   split at h
   ·rename_i l' c' z hl hc hz
    split at h
    ·rename_i hb
     split at h
     ·rename_i hr
      simp only [Bool.and_eq_true] at hr
      simp only [Option.some.injEq, Prod.mk.injEq] at h; obtain ⟨rfl, rfl⟩ := h
      have e1 := ev l
      have e2 := ev c
      rw [hl] at e1
      rw [hc] at e2
      rw [vM e1, vM e2]
      obtain ⟨w', u, g1, g2⟩ := zi4 (S := S) (ρ := ρ) (A := A) (w := w) hu hz hb hr
      exact ⟨u, w', vA _ g1, g2⟩
     ·cases h
    ·cases h
   ·cases h
  ·cases h
 ·rename_i t x hop
  simp only [hop]
  split at h
  ·rename_i hu
   split at h
   ·rename_i s hx
    simp only [Option.some.injEq, Prod.mk.injEq] at h; obtain ⟨rfl, rfl⟩ := h
    have e1 := ev x
    rw [hx] at e1
    have hx' := (zF rfl).1 (jP.1 e1)
    simp only [RepC, List.cons.injEq, and_true] at hx'
    exact ⟨_, _, vA _ (u := .pointer (some ⟨w.heap.size, 0, none⟩)) (by simp [Instr.range, run_underlying hu, hx']), zmq s⟩
   ·cases h
  ·cases h
 ·cases h
end
abbrev vG := Nat × (zB → Prop) → Prop
def z3v (C : Cfg) (call : kE) (ops : Array Oper) (i : Nat) (o : Oper) (T : List V) (v : V) : zB → Prop := fun S => effC C call ops i o T S = some (v, S, 1)
def RunsW (C : Cfg) (call : kE) (ops : Array Oper) (b : List Nat) (base : Nat) : vG → List (Nat × Nat) → List V → zB → List V → zB → Prop
 | _, [], T, S, T', S' => T = T' ∧ S = S'
 | ws, p :: r, T, S, T', S' => ∃ o v S1, ops[p.1]? = some o ∧ effC C call ops (base + p.1) o T S = some (v, S1, p.2) ∧ (2 < p.2 → ∀ x, ws x → (b.getD p.1 0).testBit x.1 = true ∨ x.2 S1) ∧
   RunsW C call ops b base (fun x => ws x ∨ (p.2 = 1 ∧ x = (p.1, z3v C call ops (base + p.1) o T v))) r (putT T o.dst v) S1 T' S'
theorem RunsW.mono {C : Cfg} {call : kE} {ops : Array Oper} {b : List Nat} {base : Nat} : ∀ {r : List (Nat × Nat)} {ws ws' : vG} {T T' : List V} {S S' : zB}, (∀ x, ws' x → ws x) → RunsW C call ops b base ws r T S T' S' → RunsW C call ops b base ws' r T S T' S'
 | [], _, _, _, _, _, _, _, h => h
 | p :: r, ws, ws', T, T', S, S', hle, h => by
  obtain ⟨o, v, S1, h1, h2, h3, h4⟩ := h
  exact ⟨o, v, S1, h1, h2, fun hp x hx => h3 hp x (hle x hx), h4.mono (fun x hx => hx.imp (hle x) id)⟩
theorem z6y {C : Cfg} {call : kE} {ops : Array Oper} {b : List Nat} {base i : Nat} {S' : zB} {w : Nat × List V × V} {o : Oper} (ho : ops[w.1]? = some o) (h : jR C call ops b base i S' w = true) : (b.getD i 0).testBit w.1 = true ∨ z3v C call ops (base + w.1) o w.2.1 w.2.2 S' := by
 unfold jR at h
 rw [Bool.or_eq_true] at h
 rcases h with h | h
 ·exact .inl h
 ·right
  simp only [ho] at h
  split at h
  ·rename_i v' S2 he
   have hs := (z22 he).2.1 rfl
   subst hs
   rw [zoy h]
   exact he
  ·cases h
theorem z4t {C : Cfg} {call : kE} {ops : Array Oper} {b : List Nat} {base : Nat} : ∀ {l : List Nat} {ws : List (Nat × List V × V)} {W : vG} {T T' : List V} {S S' : zB} {cs : List (Nat × Nat)},
  (∀ x, W x → ∃ w ∈ ws, ∃ o, ops[w.1]? = some o ∧ x = (w.1, z3v C call ops (base + w.1) o w.2.1 w.2.2)) → seqC C call ops b base ws l T S = some (T', S', cs) → RunsW C call ops b base W cs T S T' S'
 | [], ws, W, T, T', S, S', cs, hW, h => by
  simp only [seqC, Option.some.injEq, Prod.mk.injEq] at h
  obtain ⟨rfl, rfl, rfl⟩ := h
  exact ⟨rfl, rfl⟩
 | i :: l, ws, W, T, T', S, S', cs, hW, h => by
  simp only [seqC] at h
  cases ho : ops[i]? with
  | none => simp [ho] at h
  | some o =>
   simp only [ho] at h
   cases he : effC C call ops (base + i) o T S with
   | none => simp [he] at h
   | some q =>
    obtain ⟨v, S1, c⟩ := q
    simp only [he] at h
    split at h
    ·cases h
    ·rename_i hc
     cases hr : seqC C call ops b base (if c = 1 then (i, T, v) :: ws else ws) l (putT T o.dst v) S1 with
     | none => simp [hr] at h
     | some q2 =>
      obtain ⟨T2, S2, cs2⟩ := q2
      simp only [hr, Option.some.injEq, Prod.mk.injEq] at h
      obtain ⟨rfl, rfl, rfl⟩ := h
      refine ⟨o, v, S1, ho, he, fun hp x hx => ?_, z4t (fun x hx => ?_) hr⟩
      ·obtain ⟨w, hw, o2, ho2, rfl⟩ := hW x hx
       have hall : (ws.all (jR C call ops b base i S1)) = true := by
        cases hv : ws.all (jR C call ops b base i S1) with
        | true => rfl
        | false => exact absurd ⟨hp, hv⟩ hc
       rw [List.all_eq_true] at hall
       exact z6y ho2 (hall w hw)
      ·rcases hx with hx | ⟨h1, rfl⟩
       ·obtain ⟨w, hw, o2, ho2, rfl⟩ := hW x hx
        exact ⟨w, by split <;> simp [hw], o2, ho2, rfl⟩
       ·simp only at h1
        subst h1
        exact ⟨(i, T, v), by simp, o, ho, rfl⟩
def zap (base : Nat) (ws : vG) : Prop := ∀ x, ws x → ∀ (S : zB) (j : Nat) (ob : Ob), j ≠ x.1 → S[base + j]? = some .hole → x.2 S → x.2 (S.set (base + j) ob)
theorem zc2 {C : Cfg} {call : kE} (hcall : kB call) {ops : Array Oper} {base i : Nat} {o : Oper} {T : List V} {v : V} {S : zB} {j : Nat} {ob : Ob} (hj : j ≠ i) (hS : S[base + j]? = some .hole) (h : z3v C call ops (base + i) o T v S) : z3v C call ops (base + i) o T v (S.set (base + j) ob) :=
 (vE hcall ob hS (by omega) h).1
theorem zhp {C : Cfg} {call : kE} (hcall : kB call) {ops : Array Oper} {b : List Nat} {base : Nat} {ws : vG} {p q : Nat × Nat} {r : List (Nat × Nat)} {T T' : List V} {S S' : zB} (hcl : zap base ws) (hws : ∀ x, ws x → x.1 ≠ q.1) (hpq : p.1 ≠ q.1) {x y : Oper} (hx : ops[p.1]? = some x) (hy : ops[q.1]? = some y) (hap : kY ops x y = true) (hc : z1p p.2 q.2 = true) (hbit : (b.getD q.1 0).testBit p.1 = false)
  (hh : q.2 = 2 → S[base + q.1]? = some .hole) (h : RunsW C call ops b base ws (p :: q :: r) T S T' S') : RunsW C call ops b base ws (q :: p :: r) T S T' S' := by
 obtain ⟨o1, v1, S1, e1, e2, e3, o2, v2, S2, e4, e5, e6, e7⟩ := h
 rw [hx] at e1; cases e1
 rw [hy] at e4; cases e4
 obtain ⟨S3, g1, g2, g3⟩ := zn0 hcall (by omega) e2 e5 hap hc hh (fun h1 h3 => by
  rcases e6 h3 _ (.inr ⟨h1, rfl⟩) with h | h
  ·rw [hbit] at h; cases h
  ·exact h)
 have hcc := hc
 unfold z1p at hcc
 simp only [Bool.or_eq_true, beq_iff_eq] at hcc
 refine ⟨_, v2, S3, hy, g1, fun hq w hw => ?_, _, v1, S2, hx, g2, fun hp w hw => ?_, ?_⟩
 ·
  have hS : S2 = S3 := by
   have hp2 : p.2 = 0 ∨ p.2 = 1 := by omega
   rcases hp2 with h0 | h1
   ·exact ((z22 g2).1 h0).1
   ·exact (z22 g2).2.1 h1
  subst hS
  exact e6 hq w (.inl hw)
 ·rcases hw with hw | ⟨h1, _⟩
  ·rcases e3 hp w hw with h | h
   ·exact .inl h
   ·right
    have hq2 : q.2 = 0 ∨ q.2 = 2 := by omega
    rcases hq2 with h0 | h2
    ·have := ((z22 e5).1 h0).1
     rw [this]; exact h
    ·obtain ⟨ob, k1, rfl, _⟩ := (z22 e5).2.2 h2
     exact hcl w hw S1 q.1 ob (fun he => hws w hw he.symm) k1 h
  ·omega
 ·rw [← g3]
  refine e7.mono fun w hw => ?_
  obtain ⟨a1, a2, a3⟩ := z17 hap
  rcases hw with (hw | ⟨h1, rfl⟩) | ⟨h1, rfl⟩
  ·exact .inl (.inl hw)
  ·right
   refine ⟨h1, ?_⟩
   congr 1
   funext S4
   unfold z3v
   rw [z3p (fun t ht => z84 (fun h => a1 t h ht)) S4]
  ·left; right
   refine ⟨h1, ?_⟩
   congr 1
   funext S4
   unfold z3v
   rw [z3p (fun t ht => z84 (fun h => a3 t h ht)) S4]
section
variable {P : Program}
def zrz (base : Nat) (rem : List (Nat × Nat)) (S : zB) : Prop := ∀ p ∈ rem, p.2 = 2 → S[base + p.1]? = some .hole
def zkc (ops : Array Oper) (b : List Nat) (p q : Nat × Nat) : Prop := p.1 ≠ q.1 ∧ (b.getD q.1 0).testBit p.1 = false ∧ ∃ x y, ops[p.1]? = some x ∧ ops[q.1]? = some y ∧ kY ops x y = true ∧ z1p p.2 q.2 = true
theorem z3f {C : Cfg} {call : kE} (hcall : kB call) {ops : Array Oper} {base : Nat} {ws : vG} {p : Nat × Nat} {o : Oper} {T : List V} {v : V} (h : zap base ws) : zap base (fun x => ws x ∨ (p.2 = 1 ∧ x = (p.1, z3v C call ops (base + p.1) o T v))) := by
 intro x hx S j ob hj hS hp
 rcases hx with hx | ⟨_, rfl⟩
 ·exact h x hx S j ob hj hS hp
 ·exact zc2 hcall hj hS hp
theorem z13 {C : Cfg} {call : kE} (hcall : kB call) {ops : Array Oper} {b : List Nat} {base : Nat} {p : Nat × Nat} {l2 : List (Nat × Nat)} {T' : List V} {S' : zB} : ∀ {l1 : List (Nat × Nat)} {ws : vG} {T : List V} {S : zB}, zap base ws → (∀ x, ws x → x.1 ≠ p.1) → (p.2 = 2 → S[base + p.1]? = some .hole) → RunsW C call ops b base ws (l1 ++ p :: l2) T S T' S' → (∀ q ∈ l1, zkc ops b q p) → RunsW C call ops b base ws (p :: (l1 ++ l2)) T S T' S'
 | [], ws, T, S, _, _, _, h, _ => h
 | q :: l1, ws, T, S, hcl, hws, hh, h, ha => by
  obtain ⟨o1, v1, S1, h1, h2, h3, h4⟩ := h
  obtain ⟨hne, hbit, x, y, hx, hy, e1, e2⟩ := ha q (by simp)
  have g := z13 hcall (z3f hcall hcl) (fun z hz => by
   rcases hz with hz | ⟨_, rfl⟩
   ·exact hws z hz
   ·exact hne) (fun h2' => (vE hcall .hole (hh h2') (by omega) h2).2) h4 (fun q' hq => ha q' (by simp [hq]))
  exact zhp hcall hcl hws hne hx hy e1 e2 hbit hh ⟨o1, v1, S1, h1, h2, h3, g⟩
theorem z85 {C : Cfg} {call : kE} {ops : Array Oper} {b : List Nat} {base : Nat} {T' : List V} {S' : zB} : ∀ {l : List (Nat × Nat)} {ws : vG} {T : List V} {S : zB}, RunsW C call ops b base ws l T S T' S' → ∀ p ∈ l, p.1 < ops.size
 | [], _, _, _, _, p, hp => by simp at hp
 | q :: l, ws, T, S, h, p, hp => by
  obtain ⟨o, v, S1, h1, _, _, h3⟩ := h
  rcases List.mem_cons.1 hp with rfl | hp
  ·rcases Nat.lt_or_ge p.1 ops.size with h' | h'
   ·exact h'
   ·simp [h'] at h1
  ·exact z85 h3 p hp
theorem zmj {C : Cfg} {call : kE} {ops : Array Oper} {i : Nat} {o : Oper} {T : List V} {S S' : zB} {v : V} (h : effC C call ops i o T S = some (v, S', 2)) : jV o = true := by
 cases hk : jV o with
 | true => rfl
 | false =>
  exfalso
  unfold effC at h
  split at h
  ·cases h
  ·simp at h
  ·rw [if_neg (by simp [hk])] at h
   have n2 : ∀ c, num2 c ≠ 2 := fun c => by unfold num2; split <;> omega
   split at h
   ·simp only [Option.some.injEq, Prod.mk.injEq] at h; exact n2 _ h.2.2
   ·simp at h
   ·split at h
    ·simp only [Option.some.injEq, Prod.mk.injEq] at h; exact n2 _ h.2.2
    ·cases h
   ·cases h
theorem zau {C : Cfg} {call : kE} {ops : Array Oper} {b : List Nat} {base : Nat} {T' : List V} {S' : zB} : ∀ {l : List (Nat × Nat)} {ws : vG} {T : List V} {S : zB}, RunsW C call ops b base ws l T S T' S' → ∀ p ∈ l, p.2 = 2 → vL ops = ops.size
 | [], _, _, _, _, p, hp, _ => by simp at hp
 | q :: l, ws, T, S, h, p, hp, h2 => by
  obtain ⟨o, v, S1, h1, h4, _, h3⟩ := h
  rcases List.mem_cons.1 hp with rfl | hp
  ·rw [h2] at h4
   have hk := zmj h4
   unfold vL
   rw [if_pos]
   rw [Array.any_eq_true']
   exact ⟨o, Array.mem_of_getElem? h1, hk⟩
  ·exact zau h3 p hp h2
theorem z6u {acc : List Nat} {j : Nat} : ∀ {es : List Edge} {s : Nat}, (z4i acc es s).testBit j = true → s.testBit j = true ∨ ∃ e ∈ es, Region.binds .any e = true ∧ (e.on = j ∨ (acc.getD e.on 0).testBit j = true)
 | [], s, h => .inl h
 | e :: r, s, h => by
  simp only [z4i] at h
  rcases z6u h with h | ⟨e', h1, h2⟩
  ·split at h
   ·rename_i hb
    rw [Nat.testBit_or, Nat.testBit_or, Bool.or_eq_true, Bool.or_eq_true] at h
    rcases h with (h | h) | h
    ·exact .inl h
    ·rw [Nat.testBit_two_pow] at h
     exact .inr ⟨e, by simp, hb, .inl (by simpa using h)⟩
    ·exact .inr ⟨e, by simp, hb, .inr h⟩
   ·exact .inl h
  ·exact .inr ⟨e', by simp [h1], h2⟩
theorem zai : ∀ {l : List Oper} {acc : List Nat}, (∃ X, zbk acc l = acc ++ X ∧ X.length = l.length) ∧ ∀ k o, l[k]? = some o → (zbk acc l).getD (acc.length + k) 0 = z4i ((zbk acc l).take (acc.length + k)) o.after.toList 0
 | [], acc => ⟨⟨[], by simp [zbk], rfl⟩, fun k o h => by simp at h⟩
 | o :: r, acc => by
  obtain ⟨⟨X, hX, hl⟩, ih⟩ := zai (l := r) (acc := acc ++ [z4i acc o.after.toList 0])
  refine ⟨⟨z4i acc o.after.toList 0 :: X, by simp [zbk, hX], by simp [hl]⟩, fun k o' h => ?_⟩
  cases k with
  | zero =>
   simp at h; subst h
   simp only [zbk, hX, Nat.add_zero]
   simp [List.getD_eq_getElem?_getD]
  | succ k =>
   simp at h
   have := ih k o' h
   simp only [List.length_append, List.length_cons, List.length_nil, Nat.zero_add] at this
   simp only [zbk]
   rw [show acc.length + (k + 1) = acc.length + 1 + k by omega]
   exact this
theorem zcm {ops : Array Oper} {k j : Nat} (h : ((befs ops).getD k 0).testBit j = true) : ∃ o, ops[k]? = some o ∧ ∃ e ∈ o.after.toList, Region.binds .any e = true ∧ (e.on = j ∨ ((befs ops).getD e.on 0).testBit j = true) := by
 obtain ⟨⟨X, hX, hl⟩, hs⟩ := zai (l := ops.toList) (acc := [])
 have hlen : (befs ops).length = ops.size := by simp [befs, hX, hl]
 cases ho : ops[k]? with
 | none =>
  have : (befs ops).getD k 0 = 0 := by
   have hk : ops.size ≤ k := by simpa using ho
   simp [List.getD_eq_getElem?_getD, List.getElem?_eq_none (by omega : (befs ops).length ≤ k)]
  rw [this] at h; simp at h
 | some o =>
  refine ⟨o, rfl, ?_⟩
  have := hs k o (by simpa using ho)
  simp only [List.length_nil, Nat.zero_add] at this
  rw [befs, this] at h
  rcases z6u h with h | ⟨e, h1, h2, h3⟩
  ·simp at h
  ·refine ⟨e, h1, h2, h3.imp id fun h3 => ?_⟩
   simp only [List.getD_eq_getElem?_getD, List.getElem?_take] at h3 ⊢
   split at h3
   ·exact h3
   ·simp at h3
theorem z00 : ∀ {l : List Oper} {i : Nat}, z46 l i = true → ∀ k o, l[k]? = some o → ∀ e ∈ o.after.toList, Region.binds .any e = true → e.on < i + k
 | [], i, _, k, o, h => by simp at h
 | x :: r, i, hk, k, o, h => by
  simp only [z46, Bool.and_eq_true] at hk
  cases k with
  | zero =>
   simp at h; subst h
   intro e he hb
   have := hk.1
   rw [Array.all_eq_true'] at this
   have := this e (by simpa using he)
   rw [hb] at this
   simpa using this
  | succ k =>
   simp at h
   intro e he hb
   have := z00 hk.2 k o h e he hb
   omega
theorem zfo {C : Cfg} {call : kE} (hext : z64 C) (hrun : z9w C.P call) {ops : Array Oper} {i id : Nat} {o : Oper} {S S1 : zB} {T : List V} {v : V} {c : Nat} (hget : ops[i]? = some o) (h : effC C call ops id o T S = some (v, S1, c))
  {ρ : Nat → Nat} {A : Nat → Prop} {w : World} {a : Act} {F : Dfs} {Q : Exit → Act → World → Prop} {K : Act → World → Prop} (hI : Inv C.P S ρ A w) (hT : RepT C.P S ρ A w T a.tmps.toList) (hF : DfOk C.P S ρ A w F a.defers)
  (hK : ∀ ρ' A' w' a', Inv C.P S1 ρ' A' w' → Step S ρ A w S1 ρ' A' w' → RepT C.P S1 ρ' A' w' (putT T o.dst v) a'.tmps.toList → DfOk C.P S1 ρ' A' w' F a'.defers → K a' w') : wpOp C.P ops Q i K a w := by
 unfold wpOp
 simp only [hget]
 unfold effC at h
 cases hw : zY ops T o with
 | none => simp [hw] at h
 | some b =>
  rw [z33 hw hT]
  simp only [hw] at h
  cases b with
  | false =>
   simp only [Bool.false_eq_true, if_false]
   simp only [Option.some.injEq, Prod.mk.injEq] at h
   obtain ⟨rfl, rfl, rfl⟩ := h
   exact hK ρ A w _ hI .refl (vH hT vQ) (by rw [put_defers]; exact hF)
  | true =>
   simp only [if_true]
   refine .inl ?_
   cases hk : jV o with
   | true =>
    simp only [hk, if_true] at h
    cases hadd : addO C.P T o with
    | none => simp [hadd] at h
    | some q =>
     obtain ⟨ob, f⟩ := q
     simp only [hadd] at h
     split at h
     ·rename_i hh
      simp only [Option.some.injEq, Prod.mk.injEq] at h
      obtain ⟨rfl, rfl, rfl⟩ := h
      obtain ⟨u, w', g1, g2, g3, g4, g5, g6, g7, g8, g9⟩ := zop hI hT hadd
      obtain ⟨k1, k2⟩ := hI.fill (w' := w') hh g2 g3 g4 g5 g6 g7 (fun hs hA => g8 _ _ hs hA)
      unfold Oper.wp
      rw [g1]
      refine hK _ _ _ _ k1 k2 (vH (kJ k2.amono k2.keepA k2.sle _ _ hT) (g9 _ _ id (by simp [z1e hh]) (by simp))) (by rw [put_defers]; exact kL k2 hF)
     ·cases h
   | false =>
    simp only [hk, Bool.false_eq_true, if_false] at h
    cases ho : opV C.P S T o with
    | none => simp [ho] at h
    | some rs =>
     refine zeu hI hT ho ?_
     cases rs with
     | val v S2 c2 =>
      simp only [ho, Option.some.injEq, Prod.mk.injEq] at h
      obtain ⟨rfl, rfl, rfl⟩ := h
      intro ρ1 A1 w1 u h1 h2 h3
      exact hK _ _ _ _ h1 h2 (vH (kJ h2.amono h2.keepA h2.sle _ _ hT) h3) (by rw [put_defers]; exact kL h2 hF)
     | skip S2 c2 =>
      simp only [ho, Option.some.injEq, Prod.mk.injEq] at h
      obtain ⟨rfl, rfl, rfl⟩ := h
      intro ρ1 A1 w1 h1 h2
      exact hK _ _ _ _ h1 h2 (vH (kJ h2.amono h2.keepA h2.sle _ _ hT) vQ) (by rw [put_defers]; exact kL h2 hF)
     | enter f args =>
      simp only [ho] at h
      intro us hus
      cases hc : jU C call f args S with
      | none => simp [hc] at h
      | some q =>
       obtain ⟨out, S2, c2⟩ := q
       cases out with
       | pan v => simp [hc] at h
       | ret v =>
        simp only [hc, Option.some.injEq, Prod.mk.injEq] at h
        obtain ⟨rfl, rfl, rfl⟩ := h
        refine (zbf hext hrun hc hI hus).mono fun e w1 he => ?_
        cases e with
        | returned u =>
         obtain ⟨y, hy, ρ1, A1, h1, h2, h3⟩ := he
         cases hy
         exact hK _ _ _ _ h1 h2 (vH (kJ h2.amono h2.keepA h2.sle _ _ hT) h3) (by rw [put_defers]; exact kL h2 hF)
        | panicked chain =>
         obtain ⟨y, v, hy, _⟩ := he
         cases hy
        | outgrown => exact he.elim
     | dfr f args => simp [ho] at h
     | pan v => simp [ho] at h
theorem z4l {ops : Array Oper} {b : List Nat} {p : Nat × Nat} {l2 : List (Nat × Nat)} : ∀ {l1 : List (Nat × Nat)}, z07 ops b (l1 ++ p :: l2) = true → (∀ q ∈ l1, z28 ops b q p = true) ∧ (∀ q ∈ l2, z28 ops b p q = true) ∧ z07 ops b (l1 ++ l2) = true
 | [], h => by
  simp only [List.nil_append, z07, Bool.and_eq_true, List.all_eq_true] at h
  exact ⟨fun q hq => by simp at hq, h.1, h.2⟩
 | x :: l1, h => by
  simp only [List.cons_append, z07, Bool.and_eq_true, List.all_eq_true] at h
  obtain ⟨g1, g2, g3⟩ := z4l h.2
  refine ⟨fun q hq => ?_, g2, ?_⟩
  ·rcases List.mem_cons.1 hq with rfl | hq
   ·exact h.1 p (by simp)
   ·exact g1 q hq
  ·simp only [List.cons_append, z07, Bool.and_eq_true, List.all_eq_true]
   exact ⟨fun q hq => h.1 q (by rcases List.mem_append.1 hq with hq | hq <;> simp [hq]), g3⟩
theorem zx2 {C : Cfg} {call : kE} (hext : z64 C) (hrun : z9w C.P call) (hcall : kB call) {ops : Array Oper} {base : Nat} (hedge : z46 ops.toList 0 = true) {T' : List V} {S' : zB} {F : Dfs} : ∀ (fuel : Nat) {rem : List (Nat × Nat)} {listed : Array Bool} {S : zB} {T : List V} {ws : vG}, rem.length = fuel → RunsW C call ops (befs ops) base ws rem T S T' S' → zap base ws → (∀ x, ws x → ∀ p ∈ rem, x.1 ≠ p.1) → zrz base rem S → z07 ops (befs ops) rem = true →
  listed.size = ops.size → (∀ i, i < ops.size → (listed[i]? = some false ↔ ∃ c, (i, c) ∈ rem)) → (∀ k j, listed[k]? = some true → ((befs ops).getD k 0).testBit j = true → listed[j]? = some true) →
  ∀ {ρ : Nat → Nat} {A : Nat → Prop} {w : World} {a : Act} {Q : Exit → Act → World → Prop}, Inv C.P S ρ A w → RepT C.P S ρ A w T a.tmps.toList → DfOk C.P S ρ A w F a.defers → (∀ a' w', St C.P S ρ A w T' S' F a' w' → Q .normal a' w') →
  wpAny C.P .any ops Q fuel listed a w := by
 intro fuel
 induction fuel with
 | zero =>
  intro rem listed S T ws hlen hruns hclo hwsn hhol hpair hsz hrem hcl ρ A w a Q hI hT hF hQ
  have : rem = [] := by simpa using hlen
  subst this
  obtain ⟨rfl, rfl⟩ := hruns
  refine ⟨?_, hQ _ _ ⟨ρ, A, hI, .refl, hT, hF⟩⟩
  unfold Region.ready
  rw [List.filter_eq_nil_iff]
  intro i hi hc
  simp only [List.mem_range] at hi
  simp only [Bool.and_eq_true, Bool.not_eq_true'] at hc
  have hl : listed[i]? = some false := by
   have hlt : i < listed.size := by omega
   have := hc.1
   simp [Array.getD, hlt] at this
   simp [hlt, this]
  obtain ⟨c, hc⟩ := (hrem i hi).1 hl
  simp at hc
 | succ fuel ih =>
  intro rem listed S T ws hlen hruns hclo hwsn hhol hpair hsz hrem hcl ρ A w a Q hI hT hF hQ
  have getD_l : ∀ j, listed.getD j false = true ↔ listed[j]? = some true := fun j => by
   rcases Nat.lt_or_ge j listed.size with h | h
   ·simp [Array.getD, h]
   ·simp [Array.getD, h, Nat.not_lt.2 h]
  have ready_spec : ∀ i, i ∈ Region.ready .any ops listed ↔ (i < ops.size ∧ listed[i]? = some false ∧ ∃ o, ops[i]? = some o ∧ ∀ e ∈ o.after.toList, Region.binds .any e = true → listed[e.on]? = some true) := fun i => by
   unfold Region.ready
   rw [List.mem_filter, List.mem_range]
   constructor
   ·rintro ⟨h1, h2⟩
    simp only [Bool.and_eq_true, Bool.not_eq_true'] at h2
    have hlt : i < listed.size := by omega
    have ho : ops[i]? = some ops[i] := by simp [h1]
    refine ⟨h1, ?_, ops[i], ho, fun e he hb => ?_⟩
    ·have := h2.1
     simp [Array.getD, hlt] at this
     simp [hlt, this]
    ·have := h2.2
     rw [ho] at this
     simp only [Option.map_some, Option.getD_some] at this
     rw [Array.all_eq_true'] at this
     have := this e (by simpa using he)
     rw [hb] at this
     exact (getD_l _).1 (by simpa using this)
   ·rintro ⟨h1, h2, o, ho, h3⟩
    refine ⟨h1, ?_⟩
    have hlt : i < listed.size := by omega
    have h2' : listed[i] = false := by simpa [hlt] using h2
    simp only [Bool.and_eq_true, Bool.not_eq_true']
    refine ⟨by simp [Array.getD, hlt, h2'], ?_⟩
    rw [ho]
    simp only [Option.map_some, Option.getD_some]
    rw [Array.all_eq_true']
    intro e he
    cases hb : Region.binds .any e with
    | false => simp
    | true => simp [(getD_l _).2 (h3 e (by simpa using he) hb)]
  refine ⟨fun hnil => ?_, fun i hi => ?_⟩
  ·
   exfalso
   obtain ⟨p, hp⟩ : ∃ p, p ∈ rem := by
    cases rem with
    | nil => simp at hlen
    | cons p r => exact ⟨p, by simp⟩
   have hpl : p.1 < ops.size := z85 hruns p hp
   have key : ∀ n, ∀ i, i ≤ n → i < ops.size → listed[i]? = some false → False := by
    intro n
    induction n with
    | zero =>
     intro i hi0 hi hl
     have : i ∈ Region.ready .any ops listed := (ready_spec i).2 ⟨hi, hl, ops[i], by simp [hi], fun e he hb => by
      have := z00 hedge i ops[i] (by simp [hi]) e he hb
      omega⟩
     rw [hnil] at this; simp at this
    | succ n ihn =>
     intro i hi0 hi hl
     have : i ∈ Region.ready .any ops listed := (ready_spec i).2 ⟨hi, hl, ops[i], by simp [hi], fun e he hb => by
      have hlt := z00 hedge i ops[i] (by simp [hi]) e he hb
      simp only [Nat.zero_add] at hlt
      have he' : e.on < listed.size := by omega
      cases hv : listed[e.on] with
      | true => simp [he', hv]
      | false => exact (ihn e.on (by omega) (by omega) (by simp [he', hv])).elim⟩
     rw [hnil] at this; simp at this
   obtain ⟨pi, pc⟩ := p
   exact key pi pi (Nat.le_refl _) hpl ((hrem pi hpl).2 ⟨pc, hp⟩)
  ·obtain ⟨hi1, hi2, o, ho, hi3⟩ := (ready_spec i).1 hi
   obtain ⟨c, hc⟩ := (hrem i hi1).1 hi2
   obtain ⟨l1, l2, rfl⟩ := List.append_of_mem hc
   obtain ⟨g1, g2, g3⟩ := z4l hpair
   have hbits : ∀ j, ((befs ops).getD i 0).testBit j = true → listed[j]? = some true := fun j hj => by
    obtain ⟨o', ho', e, he, hb, h3⟩ := zcm hj
    rw [ho] at ho'; cases ho'
    have := hi3 e he hb
    rcases h3 with rfl | h3
    ·exact this
    ·exact hcl _ _ this h3
   have hun : ∀ q ∈ l1 ++ l2, q.1 < ops.size → listed[q.1]? = some false := fun q hq hlt => (hrem q.1 hlt).2 ⟨q.2, by
    rcases List.mem_append.1 hq with h | h <;> simp [h]⟩
   have hap : ∀ q ∈ l1, zkc ops (befs ops) q (i, c) := fun q hq => by
    have hp := g1 q hq
    have hnb : ((befs ops).getD i 0).testBit q.1 = false := by
     cases hb : ((befs ops).getD i 0).testBit q.1 with
     | false => rfl
     | true =>
      have := hbits _ hb
      have hlt : q.1 < ops.size := by
       rcases Nat.lt_or_ge q.1 listed.size with h' | h'
       ·omega
       ·simp [h'] at this
      have h2 := hun q (by simp [hq]) hlt
      rw [h2] at this; simp at this
    simp only [z28, Bool.and_eq_true, Bool.or_eq_true] at hp
    refine ⟨by simpa using hp.1, hnb, ?_⟩
    rcases hp.2 with hb | hp
    ·rw [hnb] at hb; cases hb
    ·split at hp
     ·rename_i x y hx hy
      simp only [Bool.and_eq_true] at hp
      exact ⟨x, y, hx, hy, hp.1, hp.2⟩
     ·cases hp
   obtain ⟨o', v1, S1, h1, h2, _, h3⟩ := z13 hcall hclo (fun x hx => hwsn x hx (i, c) (by simp)) (hhol (i, c) (by simp)) hruns hap
   simp only at h1 h2
   rw [ho] at h1; cases h1
   have hne : ∀ q ∈ l1 ++ l2, q.1 ≠ i := fun q hq => by
    rcases List.mem_append.1 hq with h | h
    ·have := g1 _ h; simp only [z28, Bool.and_eq_true] at this; simpa using this.1
    ·have := g2 _ h; simp only [z28, Bool.and_eq_true] at this; have := this.1; simp at this; exact fun h => this h.symm
   refine zfo hext hrun ho h2 hI hT hF fun ρ1 A1 w1 a1 j1 j2 j3 j4 => ?_
   refine ih (rem := l1 ++ l2) (by simp at hlen ⊢; omega) h3 (z3f hcall hclo) (fun x hx p hp => ?_) (fun p hp h22 => ?_) g3 (by simpa using hsz) (fun k hk => ?_) (fun k j hk hj => ?_) j1 j3 j4 (fun a' w' hs => hQ a' w' (hs.step j2))
   ·rcases hx with hx | ⟨_, rfl⟩
    ·exact hwsn x hx p (by rcases List.mem_append.1 hp with h | h <;> simp [h])
    ·exact fun h => hne p hp h.symm
   ·exact (vE hcall .hole (hhol p (by rcases List.mem_append.1 hp with h | h <;> simp [h]) h22) (by have := hne p hp; omega) h2).2
   ·rw [Array.getElem?_setIfInBounds]
    by_cases hik : i = k
    ·subst hik
     simp only [if_true]
     have hlt : i < listed.size := by omega
     simp only [hlt, if_true]
     constructor
     ·intro h; simp at h
     ·rintro ⟨c', hc'⟩
      exfalso
      rcases List.mem_append.1 hc' with h | h
      ·have := g1 _ h; simp [z28] at this
      ·have := g2 _ h; simp [z28] at this
    ·rw [if_neg hik, hrem k hk]
     constructor
     ·rintro ⟨c', hc'⟩
      refine ⟨c', ?_⟩
      rcases List.mem_append.1 hc' with h | h
      ·simp [h]
      ·rcases List.mem_cons.1 h with h | h
       ·simp only [Prod.mk.injEq] at h; exact absurd h.1.symm hik
       ·simp [h]
     ·rintro ⟨c', hc'⟩
      refine ⟨c', ?_⟩
      rcases List.mem_append.1 hc' with h | h <;> simp [h]
   ·have hset : ∀ m, listed[m]? = some true → (listed.setIfInBounds i true)[m]? = some true := fun m hm => by
     rw [Array.getElem?_setIfInBounds]
     by_cases him : i = m
     ·subst him
      have hlt : i < listed.size := by omega
      simp [hlt]
     ·rw [if_neg him]; exact hm
    rw [Array.getElem?_setIfInBounds] at hk
    by_cases hik : i = k
    ·subst hik
     exact hset j (hbits j hj)
    ·rw [if_neg hik] at hk
     exact hset j (hcl k j hk hj)
theorem zu8 {C : Cfg} {call : kE} (hext : z64 C) (hrun : z9w C.P call) (hcall : kB call) {ops : Array Oper} {id : Nat} {order : List Nat} {cs : List (Nat × Nat)} {S S' : zB} {T T' : List V} {F : Dfs} (h : seqC C call ops (befs ops) S.length [] order T (S ++ List.replicate (vL ops) .hole) = some (T', S', cs)) (hd : z2l ops cs = true)
  {ρ : Nat → Nat} {A : Nat → Prop} {w : World} {a : Act} {Q : Exit → Act → World → Prop} (hI : Inv C.P S ρ A w) (hT : RepT C.P S ρ A w T a.tmps.toList) (hF : DfOk C.P S ρ A w F a.defers) (hQ : ∀ a' w', St C.P S ρ A w T' S' F a' w' → Q .normal a' w') :
  (Code.region id ops true).wp C.P Q a w := by
 simp only [z2l, Bool.and_eq_true] at hd
 obtain ⟨⟨⟨_, hedge⟩, hall⟩, hpairs⟩ := hd
 obtain ⟨g1, g2⟩ := hI.world (w' := { w with drawn := w.drawn + 1 }) (Nat.le_refl _) (fun _ _ => rfl) rfl rfl rfl
 refine wp_region_any C.mixed ?_
 have hruns := z4t (W := fun _ => False) (fun x hx => hx.elim) h
 have hsize : ∀ p ∈ cs, p.1 < ops.size := z85 hruns
 obtain ⟨g3, g4⟩ := g1.holes (vL ops)
 have hT1 := kJ g2.amono g2.keepA g2.sle _ _ hT
 have hF1 := kL g2 hF
 have hnod : ∀ {l : List (Nat × Nat)}, z07 ops (befs ops) l = true → (l.map (·.1)).Nodup := by
  intro l
  induction l with
  | nil => intro _; simp
  | cons p r ih =>
   intro hp
   simp only [z07, Bool.and_eq_true, List.all_eq_true] at hp
   rw [List.map_cons, List.nodup_cons]
   refine ⟨fun hm => ?_, ih hp.2⟩
   obtain ⟨q, hq, he⟩ := List.mem_map.1 hm
   have := hp.1 q hq
   simp [z28, he] at this
 have hlen : cs.length = ops.size := by
  have h1 : (cs.map (·.1)).length ≤ (List.range ops.size).length := (hnod hpairs).length_le_of_subset (fun x hx => by
   obtain ⟨p, hp, rfl⟩ := List.mem_map.1 hx
   simpa using hsize p hp)
  have h2 : (List.range ops.size).length ≤ (cs.map (·.1)).length := List.nodup_range.length_le_of_subset (fun x hx => by
   rw [List.all_eq_true] at hall
   have := hall x hx
   rw [List.any_eq_true] at this
   obtain ⟨p, hp, he⟩ := this
   exact List.mem_map.2 ⟨p, hp, by simpa using he⟩)
  simp at h1 h2
  omega
 refine zx2 hext hrun hcall hedge ops.size hlen hruns (fun x hx => hx.elim) (fun x hx => hx.elim) (fun p hp h2 => ?_) hpairs (by simp) (fun i hi => ?_) (fun k j hk _ => ?_) g3 (kJ g4.amono g4.keepA g4.sle _ _ hT1) (kL g4 hF1) (fun a' w' hs => hQ a' w' ((hs.step g4).step g2))
 ·have h1 := zau hruns p hp h2
  have := hsize p hp
  rw [h1, List.getElem?_append_right (by omega), List.getElem?_replicate]
  simp; omega
 ·constructor
  ·intro _
   rw [List.all_eq_true] at hall
   have := hall i (by simpa using hi)
   rw [List.any_eq_true] at this
   obtain ⟨p, hp, he⟩ := this
   have : p.1 = i := by simpa using he
   exact ⟨p.2, by rw [← this]; exact hp⟩
  ·intro _; simp [hi]
 ·exfalso
  rw [Array.getElem?_replicate] at hk
  split at hk <;> simp at hk
end
section
variable {P : Program} {S : zB} {ρ : Nat → Nat} {A : Nat → Prop} {w : World}
theorem Inv.kill1 (h : Inv P S ρ A w) (id : Nat) : Inv P (S.set id .dead) ρ A w ∧ Step S ρ A w (S.set id .dead) ρ A w := by
 have get : ∀ j x, (S.set id .dead)[j]? = some x → (j = id ∧ x = .dead) ∨ (j ≠ id ∧ S[j]? = some x) := fun j x hx => by
  by_cases hj : j = id
  ·subst hj
   rw [List.getElem?_set] at hx
   split at hx
   ·split at hx
    ·cases hx; exact .inl ⟨rfl, rfl⟩
    ·cases hx
   ·rename_i hh; exact absurd rfl hh
  ·rw [List.getElem?_set_ne (fun hh => hj hh.symm)] at hx
   exact .inr ⟨hj, hx⟩
 have hle : SLe S ρ w (S.set id .dead) ρ w := by
  intro j o hj hne
  by_cases hji : j = id
  ·subst hji
   refine ⟨.dead, List.getElem?_set_self (z1e hj), ?_, .inl rfl⟩
   cases o <;> trivial
  ·exact ⟨o, by rw [List.getElem?_set_ne (fun hh => hji hh.symm)]; exact hj, o.le_refl, .inr ⟨rfl, fun c e f hc => ⟨c, e, f, hc, rfl⟩⟩⟩
 refine ⟨⟨fun j x hx => ?_, fun i j x y hx hy hxl hyl hij => ?_, fun j x hx hxl => ?_, h.lt, h.gl⟩, ⟨rfl, rfl, rfl, Nat.le_refl _, fun _ _ _ => rfl, fun _ _ => rfl, fun _ h => h, fun _ h => .inl h, fun b hb => ?_, hle⟩⟩
 ·rcases get j x hx with ⟨_, rfl⟩ | ⟨_, hj⟩
  ·trivial
  ·exact (h.ok j x hj).mono (fun _ h => h) (fun _ _ => rfl) hle (fun _ => rfl)
 ·rcases get i x hx with ⟨_, rfl⟩ | ⟨_, hi⟩
  ·cases hxl
  ·rcases get j y hy with ⟨_, rfl⟩ | ⟨_, hj⟩
   ·cases hyl
   ·exact h.inj i j x y hi hj hxl hyl hij
 ·rcases get j x hx with ⟨_, rfl⟩ | ⟨_, hj⟩
  ·cases hxl
  ·exact h.own j x hj hxl
 ·obtain ⟨j, x, hx, hxl, hr⟩ := hb
  rcases get j x hx with ⟨_, rfl⟩ | ⟨_, hj⟩
  ·cases hxl
  ·exact .inl ⟨j, x, hj, hxl, hr⟩
theorem Inv.killAll {base : Nat} : ∀ {l : List Nat} {S : zB}, Inv P S ρ A w → Inv P (killAll base l S) ρ A w ∧ Step S ρ A w (Go.Vm.killAll base l S) ρ A w
 | [], S, h => ⟨h, .refl⟩
 | i :: r, S, h => by
  obtain ⟨h1, h2⟩ := h.kill1 (base + i)
  obtain ⟨h3, h4⟩ := Inv.killAll (l := r) h1
  exact ⟨h3, h2.trans h4⟩
end
theorem z96 {base q : Nat} {ob : Ob} : ∀ {l : List Nat} {S : zB}, q ∈ l → killAll base l (S.set (base + q) ob) = killAll base l S
 | i :: r, S, h => by
  simp only [killAll]
  by_cases hi : i = q
  ·rw [hi, List.set_set]
  ·have hq : q ∈ r := by
    rcases List.mem_cons.1 h with h | h
    ·exact absurd h.symm hi
    ·exact h
   rw [List.set_comm _ _ (by omega : base + q ≠ base + i)]
   exact z96 hq
theorem zal {C : Cfg} {call : kE} {ops : Array Oper} {b : List Nat} {base q : Nat} {o : Oper} {v : V} {S3 : zB} (ho : ops[q]? = some o) : ∀ {l : List (Nat × Nat)} {ws : vG} {T T' : List V} {S S' : zB}, RunsW C call ops b base ws l T S T' S' → effC C call ops (base + q) o T' S' = some (v, S3, 2) → RunsW C call ops b base ws (l ++ [(q, 2)]) T S (putT T' o.dst v) S3
 | [], ws, T, T', S, S', h, he => by
  obtain ⟨rfl, rfl⟩ := h
  exact ⟨o, v, S3, ho, he, fun h => absurd h (by simp), rfl, rfl⟩
 | p :: l, ws, T, T', S, S', h, he => by
  obtain ⟨o1, v1, S1, h1, h2, h3, h4⟩ := h
  exact ⟨o1, v1, S1, h1, h2, h3, zal ho h4 he⟩
theorem za9 {C : Cfg} {call : kE} (hcall : kB call) {ops : Array Oper} {b : List Nat} {base id : Nat} : ∀ {l : List (Nat × Nat)} {ws : vG} {T T' : List V} {S S' : zB}, RunsW C call ops b base ws l T S T' S' → (∀ q ∈ l, base + q.1 ≠ id) → S[id]? = some .hole → S'[id]? = some .hole
 | [], ws, T, T', S, S', h, _, hS => by obtain ⟨rfl, rfl⟩ := h; exact hS
 | p :: l, ws, T, T', S, S', h, hne, hS => by
  obtain ⟨o1, v1, S1, h1, h2, h3, h4⟩ := h
  exact za9 hcall h4 (fun q hq => hne q (by simp [hq])) (vE hcall .hole hS (hne p (by simp)) h2).2
theorem zod {C : Cfg} {call : kE} {ops : Array Oper} {o : Oper} (h : zfs C.P o = true) : ∃ (ob : Ob) (v : Nat → V), ∀ (id : Nat) (T : List V) (S : zB), S[id]? = some .hole → effC C call ops id o T S = some (v id, S.set id ob, 2) := by
 obtain ⟨dst, op, ty, pos, after, g⟩ := o
 simp only [zfs, Bool.and_eq_true, Option.isNone_iff_eq_none] at h
 obtain ⟨rfl, h⟩ := h
 cases op <;> simp only [Bool.false_eq_true] at h
 rename_i e
 split at h
 ·rename_i z hz
  refine ⟨.row [z] e, fun id => .ref id 0 0, fun id T S hS => ?_⟩
  simp only [effC, zY, jV, addO, hz, h, if_true, hS]
 ·cases h
theorem zj7 {C : Cfg} {call : kE} {ops : Array Oper} {o : Oper} {T T' : List V} (h : ∀ t ∈ zhg ops o, T[t]? = T'[t]?) (S : zB) : panO C call ops o T S = panO C call ops o T' S := by
 have h0 : ∀ x ∈ o.op.operands.toList, zE T x = zE T' x := fun x hx => by
  cases x with
  | tmp t =>
   have := h t (List.mem_append_left _ (zax hx))
   simp [zE, List.getD_eq_getElem?_getD, this]
  | _ => rfl
 have h1 : opV C.P S T o = opV C.P S T' o := zdx h0
 have h2 : zY ops T o = zY ops T' o := by
  unfold zY
  cases hg : o.guard with
  | none => rfl
  | some g =>
   obtain ⟨j, want⟩ := g
   simp only
   unfold qO
   cases hd : (ops[j]?).bind (·.dst) with
   | none => rfl
   | some d =>
    have := h d (List.mem_append_right _ (by simp [hg, hd]))
    simp only [this]
 unfold panO
 rw [h1, h2]
def PanPost (P : Program) (S : zB) (ρ : Nat → Nat) (A : Nat → Prop) (w : World) (Sf : zB) (v : V) (F : Dfs) (a' : Act) (w' : World) (chain : List PanicEntry) : Prop :=
 ∃ u, chain = [{ v := u, recovered := false }] ∧ (F = [] → a'.defers = []) ∧ ∃ ρ' A', Inv P Sf ρ' A' w' ∧ Step S ρ A w Sf ρ' A' w' ∧ RepW P Sf ρ' A' w' v u
theorem PanPost.step {P : Program} {S S1 : zB} {ρ ρ1 : Nat → Nat} {A A1 : Nat → Prop} {w w1 : World} {Sf : zB} {v : V} {F : Dfs} {a' : Act} {w' : World} {chain : List PanicEntry} (h : Step S ρ A w S1 ρ1 A1 w1) (hp : PanPost P S1 ρ1 A1 w1 Sf v F a' w' chain) : PanPost P S ρ A w Sf v F a' w' chain := by
 obtain ⟨u, h1, h2, ρ', A', h3, h4, h5⟩ := hp
 exact ⟨u, h1, h2, ρ', A', h3, h.trans h4, h5⟩
theorem zup {C : Cfg} {call : kE} (hext : z64 C) (hrun : z9w C.P call) {ops : Array Oper} {i : Nat} {o : Oper} {S S1 : zB} {T : List V} {v : V} (hget : ops[i]? = some o) (h : panO C call ops o T S = some (v, S1))
  {ρ : Nat → Nat} {A : Nat → Prop} {w : World} {a : Act} {F : Dfs} {Q : Exit → Act → World → Prop} {K : Act → World → Prop} {base : Nat} {rest : List Nat} (hI : Inv C.P S ρ A w) (hT : RepT C.P S ρ A w T a.tmps.toList) (hF : DfOk C.P S ρ A w F a.defers)
  (hQ : ∀ a' w' c, PanPost C.P S ρ A w (killAll base rest S1) v F a' w' c → Q (.panic c) a' w') : wpOp C.P ops Q i K a w := by
 unfold wpOp
 simp only [hget]
 unfold panO at h
 cases hw : zY ops T o with
 | none => simp [hw] at h
 | some b =>
  rw [z33 hw hT]
  simp only [hw] at h
  cases b with
  | false => cases h
  | true =>
   simp only [if_true]
   refine .inl ?_
   simp only at h
   split at h
   ·cases h
   ·cases ho : opV C.P S T o with
    | none => simp [ho] at h
    | some rs =>
     refine zeu hI hT ho ?_
     cases rs with
     | enter f args =>
      simp only [ho] at h
      intro us hus
      cases hc : jU C call f args S with
      | none => simp [hc] at h
      | some q =>
       obtain ⟨out, S2, c2⟩ := q
       cases out with
       | ret v => simp [hc] at h
       | pan v =>
        simp only [hc, Option.some.injEq, Prod.mk.injEq] at h
        obtain ⟨rfl, rfl⟩ := h
        refine (zbf hext hrun hc hI hus).mono fun e w1 he => ?_
        cases e with
        | returned u => obtain ⟨y, hy, _⟩ := he; cases hy
        | panicked chain =>
         obtain ⟨y, u, hy, rfl, ρ1, A1, h1, h2, h3⟩ := he
         cases hy
         obtain ⟨k1, k2⟩ := h1.killAll (base := base) (l := rest)
         exact hQ _ _ _ ⟨u, rfl, fun hf => by subst hf; simpa [DfOk] using hF, ρ1, A1, k1, h2.trans k2, z0n k2.amono k2.keepA k2.sle h3⟩
        | outgrown => exact he.elim
     | val _ _ _ => simp [ho] at h
     | skip _ _ => simp [ho] at h
     | dfr f args => simp [ho] at h
     | pan v => simp [ho] at h
theorem zs6 {C : Cfg} {call : kE} (hext : z64 C) (hrun : z9w C.P call) (hcall : kB call) {ops : Array Oper} {base : Nat} (hedge : z46 ops.toList 0 = true) {p : Nat} {op : Oper} {rest : List Nat} {v : V} {Sf : zB} {F : Dfs} (hop : ops[p]? = some op) :
  ∀ (fuel : Nat) {pre : List (Nat × Nat)} {un : List Nat} {listed : Array Bool} {S Sp S2 : zB} {T Tp : List V} {ws : vG}, un.length = fuel → un.Nodup → RunsW C call ops (befs ops) base ws pre T S Tp Sp → panO C call ops op Tp Sp = some (v, S2) → killAll base rest S2 = Sf →
  zap base ws → (∀ x, ws x → ∀ q ∈ pre, x.1 ≠ q.1) → (∀ x, ws x → ∀ i ∈ un, x.1 ≠ i) → (∀ q ∈ pre, q.2 ≠ 2) → z07 ops (befs ops) pre = true →
  listed.size = ops.size → (∀ i, i < ops.size → (listed[i]? = some false ↔ i ∈ un)) → (∀ q ∈ pre, q.1 ∈ un) → p ∈ un → (∀ i ∈ un, i < ops.size) → (∀ i ∈ un, (∃ c, (i, c) ∈ pre) ∨ i = p ∨ i ∈ rest) →
  (∀ k j, listed[k]? = some true → ((befs ops).getD k 0).testBit j = true → listed[j]? = some true) →
  (∀ q ∈ pre, q.1 ≠ p ∧ ((befs ops).getD p 0).testBit q.1 = true) →
  (∀ i ∈ rest, i ≠ p ∧ (∀ q ∈ pre, q.1 ≠ i) ∧ (((befs ops).getD i 0).testBit p = true ∨ ∃ x, ops[i]? = some x ∧ zfs C.P x = true ∧ kY ops x op = true ∧ ∀ q ∈ pre, ∃ z, ops[q.1]? = some z ∧ kY ops z x = true)) →
  (∀ i ∈ rest, i ∈ un → ((befs ops).getD i 0).testBit p = false → S[base + i]? = some .hole) →
  ∀ {ρ : Nat → Nat} {A : Nat → Prop} {w : World} {a : Act} {Q : Exit → Act → World → Prop}, Inv C.P S ρ A w → RepT C.P S ρ A w T a.tmps.toList → DfOk C.P S ρ A w F a.defers → (∀ a' w' c, PanPost C.P S ρ A w Sf v F a' w' c → Q (.panic c) a' w') →
  wpAny C.P .any ops Q fuel listed a w := by
 intro fuel
 induction fuel with
 | zero =>
  intro pre un listed S Sp S2 T Tp ws hlen hnd hruns hpan hkill hclo hwsn hwsu hc2 hpair hsz hun hpu hpun hulen hcase hcl hpb hrest hhol ρ A w a Q hI hT hF hQ
  have : un = [] := by simpa using hlen
  subst this
  simp at hpun
 | succ fuel ih =>
  intro pre un listed S Sp S2 T Tp ws hlen hnd hruns hpan hkill hclo hwsn hwsu hc2 hpair hsz hun hpu hpun hulen hcase hcl hpb hrest hhol ρ A w a Q hI hT hF hQ
  have getD_l : ∀ j, listed.getD j false = true ↔ listed[j]? = some true := fun j => by
   rcases Nat.lt_or_ge j listed.size with h | h
   ·simp [Array.getD, h]
   ·simp [Array.getD, h, Nat.not_lt.2 h]
  have ready_spec : ∀ i, i ∈ Region.ready .any ops listed ↔ (i < ops.size ∧ listed[i]? = some false ∧ ∃ o, ops[i]? = some o ∧ ∀ e ∈ o.after.toList, Region.binds .any e = true → listed[e.on]? = some true) := fun i => by
   unfold Region.ready
   rw [List.mem_filter, List.mem_range]
   constructor
   ·rintro ⟨h1, h2⟩
    simp only [Bool.and_eq_true, Bool.not_eq_true'] at h2
    have hlt : i < listed.size := by omega
    have ho : ops[i]? = some ops[i] := by simp [h1]
    refine ⟨h1, ?_, ops[i], ho, fun e he hb => ?_⟩
    ·have := h2.1
     simp [Array.getD, hlt] at this
     simp [hlt, this]
    ·have := h2.2
     rw [ho] at this
     simp only [Option.map_some, Option.getD_some] at this
     rw [Array.all_eq_true'] at this
     have := this e (by simpa using he)
     rw [hb] at this
     exact (getD_l _).1 (by simpa using this)
   ·rintro ⟨h1, h2, o, ho, h3⟩
    refine ⟨h1, ?_⟩
    have hlt : i < listed.size := by omega
    have h2' : listed[i] = false := by simpa [hlt] using h2
    simp only [Bool.and_eq_true, Bool.not_eq_true']
    refine ⟨by simp [Array.getD, hlt, h2'], ?_⟩
    rw [ho]
    simp only [Option.map_some, Option.getD_some]
    rw [Array.all_eq_true']
    intro e he
    cases hb : Region.binds .any e with
    | false => simp
    | true => simp [(getD_l _).2 (h3 e (by simpa using he) hb)]
  have unf : ∀ i, i ∈ un → listed[i]? = some false := fun i hi => (hun i (hulen i hi)).2 hi
  refine ⟨fun hnil => ?_, fun i hi => ?_⟩
  ·exfalso
   have key : ∀ n, ∀ i, i ≤ n → i < ops.size → listed[i]? = some false → False := by
    intro n
    induction n with
    | zero =>
     intro i hi0 hi hl
     have : i ∈ Region.ready .any ops listed := (ready_spec i).2 ⟨hi, hl, ops[i], by simp [hi], fun e he hb => by
      have := z00 hedge i ops[i] (by simp [hi]) e he hb
      omega⟩
     rw [hnil] at this; simp at this
    | succ n ihn =>
     intro i hi0 hi hl
     have : i ∈ Region.ready .any ops listed := (ready_spec i).2 ⟨hi, hl, ops[i], by simp [hi], fun e he hb => by
      have hlt := z00 hedge i ops[i] (by simp [hi]) e he hb
      simp only [Nat.zero_add] at hlt
      have he' : e.on < listed.size := by omega
      cases hv : listed[e.on] with
      | true => simp [he', hv]
      | false => exact (ihn e.on (by omega) (by omega) (by simp [he', hv])).elim⟩
     rw [hnil] at this; simp at this
   exact key p p (Nat.le_refl _) (hulen p hpun) (unf p hpun)
  ·obtain ⟨hi1, hi2, o, ho, hi3⟩ := (ready_spec i).1 hi
   have hiu : i ∈ un := (hun i hi1).1 hi2
   have hbits : ∀ j, ((befs ops).getD i 0).testBit j = true → listed[j]? = some true := fun j hj => by
    obtain ⟨o', ho', e, he, hb, h3⟩ := zcm hj
    rw [ho] at ho'; cases ho'
    have := hi3 e he hb
    rcases h3 with rfl | h3
    ·exact this
    ·exact hcl _ _ this h3
   have nobit : ∀ j ∈ un, ((befs ops).getD i 0).testBit j = false := fun j hj => by
    cases hb : ((befs ops).getD i 0).testBit j with
    | false => rfl
    | true =>
     have h1 := hbits j hb
     rw [unf j hj] at h1
     cases h1
   have hlen' : (un.erase i).length = fuel := by rw [List.length_erase_of_mem hiu]; omega
   have hnd' : (un.erase i).Nodup := hnd.erase i
   have mem' : ∀ j, j ∈ un.erase i ↔ j ≠ i ∧ j ∈ un := fun j => hnd.mem_erase_iff
   have hset : ∀ m, listed[m]? = some true → (listed.setIfInBounds i true)[m]? = some true := fun m hm => by
    rw [Array.getElem?_setIfInBounds]
    by_cases him : i = m
    ·subst him
     have hlt : i < listed.size := by omega
     simp [hlt]
    ·rw [if_neg him]; exact hm
   have hun' : ∀ k, k < ops.size → ((listed.setIfInBounds i true)[k]? = some false ↔ k ∈ un.erase i) := fun k hk => by
    rw [Array.getElem?_setIfInBounds, mem']
    by_cases hik : i = k
    ·subst hik
     have hlt : i < listed.size := by omega
     simp [hlt]
    ·rw [if_neg hik, hun k hk]
     exact ⟨fun h => ⟨fun hh => hik hh.symm, h⟩, fun h => h.2⟩
   have hcl' : ∀ k j, (listed.setIfInBounds i true)[k]? = some true → ((befs ops).getD k 0).testBit j = true → (listed.setIfInBounds i true)[j]? = some true := fun k j hk hj => by
    rw [Array.getElem?_setIfInBounds] at hk
    by_cases hik : i = k
    ·subst hik
     exact hset j (hbits j hj)
    ·rw [if_neg hik] at hk
     exact hset j (hcl k j hk hj)
   by_cases hip : i = p
   ·
    subst hip
    have hpre : pre = [] := by
     cases pre with
     | nil => rfl
     | cons q r =>
      have h1 := (hpb q (by simp)).2
      rw [nobit q.1 (hpu q (by simp))] at h1
      cases h1
    subst hpre
    obtain ⟨rfl, rfl⟩ := hruns
    exact zup hext hrun hop hpan hI hT hF (base := base) (rest := rest) (by rw [hkill]; exact hQ)
   ·by_cases hpr : ∃ c, (i, c) ∈ pre
    ·
     obtain ⟨c, hc⟩ := hpr
     obtain ⟨l1, l2, rfl⟩ := List.append_of_mem hc
     obtain ⟨g1, g2, g3⟩ := z4l hpair
     have hap : ∀ q ∈ l1, zkc ops (befs ops) q (i, c) := fun q hq => by
      have hp := g1 q hq
      have hnb := nobit q.1 (hpu q (by simp [hq]))
      simp only [z28, Bool.and_eq_true, Bool.or_eq_true] at hp
      refine ⟨by simpa using hp.1, hnb, ?_⟩
      rcases hp.2 with hb | hp
      ·rw [hnb] at hb; cases hb
      ·split at hp
       ·rename_i x y hx hy
        simp only [Bool.and_eq_true] at hp
        exact ⟨x, y, hx, hy, hp.1, hp.2⟩
       ·cases hp
     obtain ⟨o', v1, S1, h1, h2, _, h3⟩ := z13 hcall hclo (fun x hx => hwsn x hx (i, c) (by simp)) (fun h => absurd h (hc2 (i, c) (by simp))) hruns hap
     simp only at h1 h2
     rw [ho] at h1; cases h1
     have hne : ∀ q ∈ l1 ++ l2, q.1 ≠ i := fun q hq => by
      rcases List.mem_append.1 hq with h | h
      ·have := g1 _ h; simp only [z28, Bool.and_eq_true] at this; simpa using this.1
      ·have := g2 _ h; simp only [z28, Bool.and_eq_true] at this; have := this.1; simp at this; exact fun h => this h.symm
     have hsub : ∀ q ∈ l1 ++ l2, q ∈ l1 ++ (i, c) :: l2 := fun q hq => by
      rcases List.mem_append.1 hq with h | h <;> simp [h]
     refine zfo hext hrun ho h2 hI hT hF fun ρ1 A1 w1 a1 j1 j2 j3 j4 => ?_
     refine ih hlen' hnd' h3 hpan hkill (z3f hcall hclo) (fun x hx q hq => ?_) (fun x hx j hj => ?_) (fun q hq => hc2 q (hsub q hq)) g3 (by simpa using hsz) hun' (fun q hq => (mem' _).2 ⟨hne q hq, hpu q (hsub q hq)⟩) ((mem' _).2 ⟨fun hh => hip hh.symm, hpun⟩) (fun j hj => hulen j ((mem' _).1 hj).2) (fun j hj => ?_) hcl' (fun q hq => hpb q (hsub q hq)) (fun j hj => ?_) (fun j hj hju hjb => ?_) j1 j3 j4 (fun a' w' c' hs => hQ a' w' c' (hs.step j2))
     ·rcases hx with hx | ⟨_, rfl⟩
      ·exact hwsn x hx q (hsub q hq)
      ·exact fun h => hne q hq h.symm
     ·rcases hx with hx | ⟨_, rfl⟩
      ·exact hwsu x hx j ((mem' _).1 hj).2
      ·exact fun h => ((mem' _).1 hj).1 h.symm
     ·rcases hcase j ((mem' _).1 hj).2 with ⟨c', h⟩ | h | h
      ·refine .inl ⟨c', ?_⟩
       rcases List.mem_append.1 h with h | h
       ·simp [h]
       ·rcases List.mem_cons.1 h with h | h
        ·simp only [Prod.mk.injEq] at h; exact absurd h.1 ((mem' _).1 hj).1
        ·simp [h]
      ·exact .inr (.inl h)
      ·exact .inr (.inr h)
     ·obtain ⟨a1, a2, a3⟩ := hrest j hj
      refine ⟨a1, fun q hq => a2 q (hsub q hq), a3.imp id ?_⟩
      rintro ⟨x, b1, b2, b3, b4⟩
      exact ⟨x, b1, b2, b3, fun q hq => b4 q (hsub q hq)⟩
     ·have hji : j ≠ i := ((mem' _).1 hju).1
      exact (vE hcall .hole (hhol j hj ((mem' _).1 hju).2 hjb) (by omega) h2).2
    ·
     have hir : i ∈ rest := by
      rcases hcase i hiu with h | h | h
      ·exact absurd h hpr
      ·exact absurd h hip
      ·exact h
     obtain ⟨a1, a2, a3⟩ := hrest i hir
     have hnp := nobit p hpun
     rcases a3 with a3 | ⟨x, b1, b2, b3, b4⟩
     ·rw [hnp] at a3; cases a3
     ·rw [ho] at b1; cases b1
      obtain ⟨ob, vv, heff⟩ := zod (call := call) (ops := ops) b2
      have hS := hhol i hir hiu hnp
      have hSp : Sp[base + i]? = some .hole := za9 hcall hruns (fun q hq => by have := a2 q hq; omega) hS
      have hr2 := zal ho hruns (heff _ Tp Sp hSp)
      obtain ⟨o', v1, S1, h1, h2, _, h3⟩ := z13 (p := (i, 2)) (l2 := []) hcall hclo (fun x hx => hwsu x hx i hiu) (fun _ => hS) hr2 (fun q hq => by
       obtain ⟨z, hz, hza⟩ := b4 q hq
       exact ⟨a2 q hq, nobit q.1 (hpu q hq), z, o, hz, ho, hza, by simp [z1p]⟩)
      simp only at h1 h2
      rw [ho] at h1; cases h1
      have h2' := h2
      rw [heff _ T S hS] at h2'
      simp only [Option.some.injEq, Prod.mk.injEq] at h2'
      obtain ⟨rfl, rfl, _⟩ := h2'
      rw [List.append_nil] at h3
      obtain ⟨c1, c2, c3⟩ := z17 b3
      have hpan1 : panO C call ops op (putT Tp o.dst (vv (base + i))) Sp = some (v, S2) := by
       rw [← hpan]
       refine zj7 (fun t ht => ?_) Sp
       cases hd : o.dst with
       | none => rfl
       | some d =>
        simp only [putT]
        rw [List.getElem?_set_ne]
        rintro rfl
        exact c1 d hd ht
      obtain ⟨hpan2, hS2⟩ := zds hcall ob hSp hpan1
      refine zfo hext hrun ho h2 hI hT hF fun ρ1 A1 w1 a1' j1 j2 j3 j4 => ?_
      refine ih hlen' hnd' h3 hpan2 (by rw [z96 hir]; exact hkill) (z3f hcall hclo) (fun x hx q hq => ?_) (fun x hx j hj => ?_) hc2 hpair (by simpa using hsz) hun' (fun q hq => (mem' _).2 ⟨a2 q hq, hpu q hq⟩) ((mem' _).2 ⟨fun hh => hip hh.symm, hpun⟩) (fun j hj => hulen j ((mem' _).1 hj).2) (fun j hj => hcase j ((mem' _).1 hj).2) hcl' hpb hrest (fun j hj hju hjb => ?_) j1 j3 j4 (fun a' w' c' hs => hQ a' w' c' (hs.step j2))
      ·rcases hx with hx | ⟨h, _⟩
       ·exact hwsn x hx q hq
       ·simp at h
      ·rcases hx with hx | ⟨h, _⟩
       ·exact hwsu x hx j ((mem' _).1 hj).2
       ·simp at h
      ·have hji : j ≠ i := ((mem' _).1 hju).1
       rw [List.getElem?_set_ne (by omega)]
       exact hhol j hj ((mem' _).1 hju).2 hjb
theorem z4q {C : Cfg} {call : kE} {ops : Array Oper} {b : List Nat} {base : Nat} : ∀ {l : List Nat} {ws : List (Nat × List V × V)} {W : vG} {T : List V} {S S2 : zB} {v : V} {cs : List (Nat × Nat)} {p : Nat} {rest : List Nat},
  (∀ x, W x → ∃ w ∈ ws, ∃ o, ops[w.1]? = some o ∧ x = (w.1, z3v C call ops (base + w.1) o w.2.1 w.2.2)) → seqP C call ops b base ws l T S = some (v, S2, cs, p, rest) → ∃ Tp Sp op, RunsW C call ops b base W cs T S Tp Sp ∧ ops[p]? = some op ∧ panO C call ops op Tp Sp = some (v, S2)
 | [], ws, W, T, S, S2, v, cs, p, rest, hW, h => by simp [seqP] at h
 | i :: l, ws, W, T, S, S2, v, cs, p, rest, hW, h => by
  simp only [seqP] at h
  cases ho : ops[i]? with
  | none => simp [ho] at h
  | some o =>
   simp only [ho] at h
   cases hp : panO C call ops o T S with
   | some q =>
    obtain ⟨v1, S1⟩ := q
    simp only [hp, Option.some.injEq, Prod.mk.injEq] at h
    obtain ⟨rfl, rfl, rfl, rfl, rfl⟩ := h
    exact ⟨T, S, o, ⟨rfl, rfl⟩, ho, hp⟩
   | none =>
    simp only [hp] at h
    cases he : effC C call ops (base + i) o T S with
    | none => simp [he] at h
    | some q =>
     obtain ⟨v1, S1, c⟩ := q
     simp only [he] at h
     split at h
     ·cases h
     ·rename_i hc
      cases hr : seqP C call ops b base (if c = 1 then (i, T, v1) :: ws else ws) l (putT T o.dst v1) S1 with
      | none => simp [hr] at h
      | some q2 =>
       obtain ⟨v2, S3, cs2, p2, rest2⟩ := q2
       simp only [hr, Option.some.injEq, Prod.mk.injEq] at h
       obtain ⟨rfl, rfl, rfl, rfl, rfl⟩ := h
       obtain ⟨Tp, Sp, op, g1, g2, g3⟩ := z4q (W := fun x => W x ∨ (c = 1 ∧ x = (i, z3v C call ops (base + i) o T v1))) (fun x hx => by
        rcases hx with hx | ⟨h1, rfl⟩
        ·obtain ⟨w, hw, o2, ho2, rfl⟩ := hW x hx
         refine ⟨w, ?_, o2, ho2, rfl⟩
         split
         ·exact List.mem_cons_of_mem _ hw
         ·exact hw
        ·rw [if_pos h1]
         exact ⟨(i, T, v1), by simp, o, ho, rfl⟩) hr
       refine ⟨Tp, Sp, op, ⟨o, v1, S1, ho, he, fun hp x hx => ?_, g1⟩, g2, g3⟩
       obtain ⟨w, hw, o2, ho2, rfl⟩ := hW x hx
       have hall : (ws.all (jR C call ops b base i S1)) = true := by
        cases hv : ws.all (jR C call ops b base i S1) with
        | true => rfl
        | false => exact absurd ⟨hp, hv⟩ hc
       rw [List.all_eq_true] at hall
       exact z6y ho2 (hall w hw)
theorem zqi {ops : Array Oper} {i : Nat} {x : Oper} (h : ops[i]? = some x) (ha : jV x = true) : vL ops = ops.size := by
 unfold vL
 rw [if_pos]
 rw [Array.any_eq_true]
 have hi : i < ops.size := by
  rcases Nat.lt_or_ge i ops.size with h' | h'
  ·exact h'
  ·rw [Array.getElem?_eq_none h'] at h; cases h
 refine ⟨i, hi, ?_⟩
 rw [Array.getElem?_eq_getElem hi] at h
 cases h
 exact ha
theorem zk8 {P : Program} {o : Oper} (h : zfs P o = true) : jV o = true := by
 obtain ⟨dst, op, ty, pos, after, g⟩ := o
 simp only [zfs, Bool.and_eq_true] at h
 cases op <;> simp at h
 rfl
theorem zfq {C : Cfg} {call : kE} (hext : z64 C) (hrun : z9w C.P call) (hcall : kB call) {ops : Array Oper} {id : Nat} {order : List Nat} {cs : List (Nat × Nat)} {p : Nat} {rest : List Nat} {S S' : zB} {T : List V} {v : V} {F : Dfs} (h : seqP C call ops (befs ops) S.length [] order T (S ++ List.replicate (vL ops) .hole) = some (v, S', cs, p, rest)) (hd : zsz C.P ops cs p rest = true)
  {ρ : Nat → Nat} {A : Nat → Prop} {w : World} {a : Act} {Q : Exit → Act → World → Prop} (hI : Inv C.P S ρ A w) (hT : RepT C.P S ρ A w T a.tmps.toList) (hF : DfOk C.P S ρ A w F a.defers) (hQ : ∀ a' w' c, PanPost C.P S ρ A w (killAll S.length rest S') v F a' w' c → Q (.panic c) a' w') :
  (Code.region id ops true).wp C.P Q a w := by
 simp only [zsz, Bool.and_eq_true] at hd
 obtain ⟨⟨⟨⟨hedge, hall⟩, hpairs⟩, hcs⟩, hrs⟩ := hd
 obtain ⟨g1, g2⟩ := hI.world (w' := { w with drawn := w.drawn + 1 }) (Nat.le_refl _) (fun _ _ => rfl) rfl rfl rfl
 refine wp_region_any C.mixed ?_
 obtain ⟨Tp, Sp, op, hruns, hop, hpan⟩ := z4q (W := fun _ => False) (fun x hx => hx.elim) h
 have hsize : ∀ q ∈ cs, q.1 < ops.size := z85 hruns
 have hp : p < ops.size := by
  rcases Nat.lt_or_ge p ops.size with h' | h'
  ·exact h'
  ·rw [Array.getElem?_eq_none h'] at hop; cases hop
 obtain ⟨g3, g4⟩ := g1.holes (vL ops)
 have hT1 := kJ g2.amono g2.keepA g2.sle _ _ hT
 have hF1 := kL g2 hF
 rw [List.all_eq_true] at hall hcs hrs
 have hrest : ∀ i ∈ rest, i ≠ p ∧ (∀ q ∈ cs, q.1 ≠ i) ∧ (((befs ops).getD i 0).testBit p = true ∨ ∃ x, ops[i]? = some x ∧ zfs C.P x = true ∧ kY ops x op = true ∧ ∀ q ∈ cs, ∃ z, ops[q.1]? = some z ∧ kY ops z x = true) := fun i hi => by
  have h1 := hrs i hi
  simp only [Bool.and_eq_true, List.all_eq_true] at h1
  obtain ⟨⟨h1, h2⟩, h3⟩ := h1
  refine ⟨by simpa using h1, fun q hq => by have := h2 q hq; simpa using this, ?_⟩
  rw [Bool.or_eq_true] at h3
  rcases h3 with h3 | h3
  ·exact .inl h3
  ·right
   rw [hop] at h3
   cases hx : ops[i]? with
   | none => rw [hx] at h3; cases h3
   | some x =>
    rw [hx] at h3
    simp only [Bool.and_eq_true, List.all_eq_true] at h3
    refine ⟨x, rfl, h3.1.1, h3.1.2, fun q hq => ?_⟩
    have h4 := h3.2 q hq
    cases hz : ops[q.1]? with
    | none => rw [hz] at h4; cases h4
    | some z => rw [hz] at h4; exact ⟨z, rfl, h4⟩
 refine zs6 hext hrun hcall hedge hop ops.size (un := List.range ops.size) (by simp) List.nodup_range hruns hpan rfl (fun x hx => hx.elim) (fun x hx => hx.elim) (fun x hx => hx.elim) (fun q hq => ?_) hpairs (by simp) (fun i hi => ?_) (fun q hq => by simpa using hsize q hq) (by simpa using hp) (fun i hi => by simpa using hi) (fun i hi => ?_) (fun k j hk _ => ?_) (fun q hq => ?_) hrest (fun i hi hiu hb => ?_) g3 (kJ g4.amono g4.keepA g4.sle _ _ hT1) (kL g4 hF1) (fun a' w' c hs => hQ a' w' c ((hs.step g4).step g2))
 ·have h1 := hcs q hq
  simp only [Bool.and_eq_true] at h1
  have := h1.1.2
  simpa using this
 ·simp [hi]
 ·have h1 := hall i hi
  simp only [Bool.or_eq_true, List.any_eq_true] at h1
  rcases h1 with (⟨q, hq, he⟩ | h1) | h1
  ·have : q.1 = i := by simpa using he
   exact .inl ⟨q.2, by rw [← this]; exact hq⟩
  ·exact .inr (.inl (by simpa using h1))
  ·exact .inr (.inr (by simpa using h1))
 ·exfalso
  rw [Array.getElem?_replicate] at hk
  split at hk <;> simp at hk
 ·have h1 := hcs q hq
  simp only [Bool.and_eq_true] at h1
  exact ⟨by have := h1.1.1; simpa using this, h1.2⟩
 ·obtain ⟨_, _, h3⟩ := hrest i hi
  rcases h3 with h3 | ⟨x, h3, h4, _⟩
  ·rw [hb] at h3; cases h3
  ·have hil : i < ops.size := by simpa using hiu
   rw [zqi h3 (zk8 h4), List.getElem?_append_right (by omega), List.getElem?_replicate]
   simp; omega
end Go.Vm
end
