/- Plain: what is refused, or changes nothing by its kind, leaves the tree; what was renamed is found there. -/
import Derived.Test.YtghllhghboaagaaB11
set_option linter.unusedVariables false
set_option linter.unusedSimpArgs false
set_option maxRecDepth 100000
set_option maxHeartbeats 4000000
set_option linter.defProp false
section
namespace Go.Proofs.Ytghllhghboaagaa
theorem zdv {l : List Ent} (hu : ∀ e ∈ l, ∀ e' ∈ l, e.name = e'.name → e.ino = e'.ino) {e : Ent} (he : e ∈ l) : qE l e.name = e.ino := by
 unfold qE
 cases hf : l.find? (fun x => decide (x.name = e.name)) with
 | none => have := List.find?_eq_none.1 hf e he; simp at this
 | some x =>
  have h1 := List.mem_of_find?_eq_some hf
  have h2 := List.find?_some hf
  exact hu x h1 e he (by simpa using h2)
theorem zpm {l : List Ent} {p : List UInt8} (h : ∀ e ∈ l, e.name ≠ p) : qE l p = -1 := by
 unfold qE
 rw [List.find?_eq_none.2 (fun e he => by simpa using h e he)]
theorem zcg {u : List Node} {d y i : Int} {s : List UInt8} (hu : Uniq u) (hd : (getN u d).kind = 2) : getN (putN u d s i) y = if y = d then { getN u d with names := putA s i false (getN u d).names } else getN u y := by
 unfold putN
 rw [jA hu]
 unfold upd
 have hi : ({ getN u d with names := putA s i false (getN u d).names } : Node).ino = d := jF hd
 rw [hi]
structure Ren (t u : List Node) (f d : Int) (old s : List UInt8) (ino was : Int) : Prop where
 kind : ∀ y, y ≠ was → (getN u y).kind = (getN t y).kind
 names : ∀ y, y ≠ was → ∀ e, e ∈ (getN u y).names ↔ (y = d ∧ e = ⟨s, ino⟩) ∨ (e ∈ (getN t y).names ∧ ¬ (y = f ∧ e.name = old) ∧ ¬ (y = d ∧ e.name = s))
theorem zrb {t w : List Node} {f d ino was : Int} {old s : List UInt8} (hw : Uniq w) (kf : (getN w f).kind = 2) (kd : (getN w d).kind = 2) (ki : (getN t ino).kind = 2 → (getN w ino).kind = 2) (h1 : ∀ y, y ≠ was → (getN w y).kind = (getN t y).kind) (h2 : ∀ y, y ≠ was → ∀ e, e ∈ (getN w y).names ↔ e ∈ (getN t y).names ∧ ¬ (y = d ∧ e.name = s)) :
  Ren t (if (getN t ino).kind = 2 then qR (putN (zS w f old) d s ino) (moved (getN (putN (zS w f old) d s ino) ino) d) else putN (zS w f old) d s ino) f d old s ino was := by
 have hD := fun y => vA (s := old) (y := y) hw kf
 have huD : Uniq (zS w f old) := vN hw
 have kdD : (getN (zS w f old) d).kind = 2 := by rw [(qQ hw kf).1]; exact kd
 have hP := fun y => zcg (s := s) (i := ino) (y := y) huD kdD
 have huP : Uniq (putN (zS w f old) d s ino) := vN huD
 have core : Ren t (putN (zS w f old) d s ino) f d old s ino was := by
  refine ⟨fun y hy => ?_, fun y hy e => ?_⟩
  ·rw [(z4y huD kdD).1, (qQ hw kf).1, h1 y hy]
  ·have hd' : e ∈ (getN (zS w f old) y).names ↔ e ∈ (getN t y).names ∧ ¬ (y = f ∧ e.name = old) ∧ ¬ (y = d ∧ e.name = s) := by
    rw [hD]
    by_cases hyf : y = f
    ·subst hyf
     rw [if_pos rfl]
     show e ∈ (getN w y).names.filter (fun e => decide (e.name ≠ old)) ↔ _
     rw [List.mem_filter, h2 y hy e]
     simp only [decide_eq_true_eq, true_and]
     constructor
     ·rintro ⟨⟨a, b⟩, c⟩; exact ⟨a, c, b⟩
     ·rintro ⟨a, c, b⟩; exact ⟨⟨a, b⟩, c⟩
    ·rw [if_neg hyf, h2 y hy e]
     simp only [hyf, false_and, not_false_eq_true, true_and]
   rw [hP]
   by_cases hyd : y = d
   ·rw [if_pos hyd, ← hd', hyd]
    show e ∈ putA s ino false (getN (zS w f old) d).names ↔ _
    rw [mem_putA]
    simp only [true_and]
   ·rw [if_neg hyd, ← hd']
    simp only [hyd, false_and, false_or]
 split
 ·rename_i hk
  have hki : (getN (putN (zS w f old) d s ino) ino).kind = 2 := by
   rw [(z4y huD kdD).1, (qQ hw kf).1]; exact ki hk
  have hg : ∀ y, (getN (qR (putN (zS w f old) d s ino) (moved (getN (putN (zS w f old) d s ino) ino) d)) y).kind = (getN (putN (zS w f old) d s ino) y).kind ∧ (getN (qR (putN (zS w f old) d s ino) (moved (getN (putN (zS w f old) d s ino) ino) d)) y).names = (getN (putN (zS w f old) d s ino) y).names := fun y => by
   rw [jA huP]
   unfold upd
   have hi : (moved (getN (putN (zS w f old) d s ino) ino) d).ino = ino := jF hki
   rw [hi]
   split
   ·rename_i e; subst e; exact ⟨rfl, rfl⟩
   ·exact ⟨rfl, rfl⟩
  exact ⟨fun y hy => by rw [(hg y).1]; exact core.kind y hy, fun y hy e => by rw [(hg y).2]; exact core.names y hy e⟩
 ·exact core
theorem z7e {t : List Node} (h : LJ t (fun _ => 0)) (hT : TInv t 1) : ∀ (ps : List (List UInt8)) (a y : Int) (c : List Int), goN t ps a = (y, 0) → (getN t y).kind = 2 → z51 t (a :: c) → ∃ c', z51 t (y :: c') ∧ a ∈ y :: c'
 | [], a, y, c, hg, _, hc => by
  cases hg
  exact ⟨c, hc, by simp⟩
 | p :: r, a, y, c, hg, hy, hc => by
  simp only [goN] at hg
  split at hg
  ·cases (Prod.mk.inj hg).2
  split at hg
  ·cases (Prod.mk.inj hg).2
  rename_i ka hz
  obtain ⟨e, he, _, hi⟩ := wC (l := (getN t a).names) (s := p) (by omega)
  have hkz : (getN t (qE (getN t a).names p)).kind = 2 := by
   cases r with
   | nil => simp only [goN] at hg; rw [(Prod.mk.inj hg).1]; exact hy
   | cons q r' =>
    simp only [goN] at hg
    split at hg
    ·cases (Prod.mk.inj hg).2
    ·rename_i hh; exact Classical.not_not.1 hh
  rw [← hi] at hg hkz
  have hp := z5e h hT he hkz
  have hge := hT.inv.ge2 a e he
  have hc2 : z51 t (e.ino :: a :: c) := ⟨za8 hkz, by omega, hp, hc⟩
  obtain ⟨c', h1, h2⟩ := z7e h hT r e.ino y (a :: c) hg hy hc2
  refine ⟨c', h1, ?_⟩
  rcases List.mem_cons.1 h2 with h2 | h2
  ·rw [h2] at hc2
   have := z0v h1 hc2
   rw [this]; simp
  ·obtain ⟨c2, h3, _⟩ := z2a h1 h2
   have := z0v h3 hc2
   have key : ∀ (l : List Int) (x : Int), z51 t (x :: l) → e.ino ∈ l → a ∈ x :: l := fun l => by
    induction l with
    | nil => intro x _ hm; cases hm
    | cons j l ih =>
     intro x hx hm
     rcases List.mem_cons.1 hm with rfl | hm
     ·have := z0v hx.2.2.2 hc2
      rw [this]; simp
     ·exact List.mem_cons_of_mem _ (ih j hx.2.2.2 hm)
   exact key c' y h1 h2
theorem zcz {t u : List Node} {f d ino was : Int} {old s : List UInt8} (hR : Ren t u f d old s ino was) (hu : TInv u 1) (hi : qE (getN t f).names old = ino) (hw : qE (getN t d).names s = was) (hkw : (getN t was).kind ≠ 2) : ∀ (ps : List (List UInt8)) (a y : Int), goN t ps a = (y, 0) → (getN t y).kind = 2 → a ≠ was → (∀ p2, goN t p2 ino ≠ (y, 0)) → goN u ps a = (y, 0)
 | [], a, y, hg, _, _, _ => hg
 | p :: r, a, y, hg, hy, ha, hv => by
  have stuck : ∀ q, goN t q was ≠ (y, 0) := fun q hq => by
   cases q with
   | nil => cases hq; exact hkw hy
   | cons x q =>
    simp only [goN] at hq
    rw [if_pos hkw] at hq
    cases (Prod.mk.inj hq).2
  simp only [goN] at hg ⊢
  split at hg
  ·cases (Prod.mk.inj hg).2
  split at hg
  ·cases (Prod.mk.inj hg).2
  rename_i ka hz
  obtain ⟨e, he, hn, hei⟩ := wC (l := (getN t a).names) (s := p) (by omega)
  have c1 : ¬ (a = f ∧ e.name = old) := fun ⟨h1, h2⟩ => by
   subst h1
   rw [← hn, h2, hi] at hg
   exact hv r hg
  have c2 : ¬ (a = d ∧ e.name = s) := fun ⟨h1, h2⟩ => by
   subst h1
   rw [← hn, h2, hw] at hg
   exact stuck r hg
  have hmem : e ∈ (getN u a).names := (hR.names a ha e).2 (.inr ⟨he, c1, c2⟩)
  have hnu : qE (getN u a).names p = qE (getN t a).names p := by
   rw [← hei, ← hn]
   exact zdv (hu.inv.un a) hmem
  rw [hnu, if_neg (by rw [hR.kind a ha]; exact ka), if_neg hz]
  refine zcz hR hu hi hw hkw r _ y hg hy (fun hh => ?_) hv
  rw [hh] at hg
  exact stuck r hg
theorem zd0 {t : List Node} : ∀ (p q : List (List UInt8)) (a y : Int), goN t p a = (y, 0) → goN t (p ++ q) a = goN t q y
 | [], q, a, y, h => by cases h; rfl
 | x :: p, q, a, y, h => by
  simp only [List.cons_append, goN] at h ⊢
  split at h
  ·cases (Prod.mk.inj h).2
  split at h
  ·cases (Prod.mk.inj h).2
  rename_i h1 h2
  rw [if_neg h1, if_neg h2]
  exact zd0 p q _ y h
theorem z8z {t : List Node} {s : List UInt8} (h : (zI t s).2.2 = 0) : ∃ p, (zL s).2 = 0 ∧ (zL s).1 = p ++ [(zI t s).2.1] ∧ goN t p 1 = ((zI t s).1, 0) := by
 unfold zI at h ⊢
 by_cases h1 : (zL s).2 ≠ 0
 ·rw [if_pos h1] at h; exact absurd h h1
 rw [if_neg h1] at h ⊢
 by_cases h2 : (zL s).1.length = 0
 ·rw [if_pos h2] at h; exact absurd (show (15 : Int) = 0 from h) (by decide)
 rw [if_neg h2] at h ⊢
 by_cases h3 : (goN t ((zL s).1.take ((zL s).1.length - 1)) 1).2 ≠ 0
 ·rw [if_pos h3] at h; exact absurd h h3
 rw [if_neg h3] at h ⊢
 by_cases h4 : (getN t (goN t ((zL s).1.take ((zL s).1.length - 1)) 1).1).kind ≠ 2
 ·rw [if_pos h4] at h; exact absurd (show (6 : Int) = 0 from h) (by decide)
 rw [if_neg h4]
 refine ⟨(zL s).1.take ((zL s).1.length - 1), by simpa using h1, ?_, ?_⟩
 ·have hlt : (zL s).1.length - 1 < (zL s).1.length := by omega
  have := List.take_succ_eq_append_getElem hlt
  rw [show (zL s).1.length - 1 + 1 = (zL s).1.length by omega, List.take_length] at this
  show (zL s).1 = _ ++ [(zL s).1.getD ((zL s).1.length - 1) []]
  rw [List.getD_eq_getElem?_getD, List.getElem?_eq_getElem hlt]
  exact this
 ·show _ = ((goN t ((zL s).1.take ((zL s).1.length - 1)) 1).1, (0 : Int))
  have : (goN t ((zL s).1.take ((zL s).1.length - 1)) 1).2 = 0 := by simpa using h3
  rw [← this]
theorem ze4 {t : List Node} {n : Nat} {o : Opn} (hA : At n t) (h6 : o.does = 6) (he : (qU t o).2.err = 0) (hne : t ≠ (qU t o).1) : zE (qU t o).1 o.b = ((zE t o.a).1, 0) ∧ (zE (qU t o).1 o.a).2 = 4 := by
 have hG := hA.g
 have h := hG.lj
 have hT := hG.ti
 have hu := hT.step (o := o)
 have hs : mayN o = true := by
  cases hm : mayN o with
  | true => rfl
  | false =>
   unfold qU at he
   rw [if_pos hm] at he
   exact absurd (show (1 : Int) = 0 from he) (by decide)
 have hb : qU t o = kA t o := by
  unfold qU
  rw [if_neg (by rw [hs]; exact Bool.noConfusion), if_neg (by omega), if_neg (by omega), if_neg (by omega), if_pos (by omega)]
 rw [hb] at he hne hu ⊢
 by_cases c1 : (zI t o.a).2.2 ≠ 0
 ·unfold kA at he; rw [if_pos c1] at he; exact absurd he c1
 by_cases c2 : qE (getN t (zI t o.a).1).names (zI t o.a).2.1 < 0
 ·unfold kA at he; rw [if_neg c1, if_pos c2] at he; exact absurd (show (4 : Int) = 0 from he) (by decide)
 by_cases c3 : (zI t o.b).2.2 ≠ 0
 ·unfold kA at he; rw [if_neg c1, if_neg c2, if_pos c3] at he; exact absurd he c3
 have hr : kA t o = z08 t (zI t o.a).1 (zI t o.a).2.1 (qE (getN t (zI t o.a).1).names (zI t o.a).2.1) (zI t o.b).1 (zI t o.b).2.1 (qE (getN t (zI t o.b).1).names (zI t o.b).2.1) := by
  unfold kA
  rw [if_neg c1, if_neg c2, if_neg c3]
 rw [hr] at he hne hu ⊢
 have hf := jP (t := t) (s := o.a) (by simpa using c1)
 have hd := jP (t := t) (s := o.b) (by simpa using c3)
 obtain ⟨pa, a0, a1, a2⟩ := z8z (t := t) (s := o.a) (by simpa using c1)
 obtain ⟨pb, b0, b1, b2⟩ := z8z (t := t) (s := o.b) (by simpa using c3)
 generalize zI t o.a = w at *
 generalize zI t o.b = v at *
 obtain ⟨f, old, _⟩ := w
 obtain ⟨d, s, _⟩ := v
 simp only at *
 obtain ⟨e0, he0, hs0, hi0⟩ := wC (l := (getN t f).names) (s := old) (by omega)
 have hge : 2 ≤ qE (getN t f).names old := by rw [← hi0]; exact hT.inv.ge2 _ e0 he0
 have hk0 : (getN t (qE (getN t f).names old)).kind ≠ 0 := by rw [← hi0]; exact h.told he0
 have hpar := fun hk : (getN t (qE (getN t f).names old)).kind = 2 => z5e h hT he0 (by rw [hi0]; exact hk)
 have hnef := fun hk : (getN t (qE (getN t f).names old)).kind = 2 => zkl h hT he0 (by rw [hi0]; exact hk)
 rw [hi0] at hpar hnef
 generalize hino : qE (getN t f).names old = ino at *
 generalize hwas : qE (getN t d).names s = was at *
 have r0 : (zE t o.a).1 = ino := by
  unfold zE
  rw [if_neg (by simp [a0]), a1, zd0 pa [old] 1 f a2]
  simp only [goN]
  rw [if_neg (by simp [hf]), if_neg (by rw [hino]; omega), hino]
 by_cases c4 : was = ino
 ·unfold z08 at hne; rw [if_pos c4] at hne; exact absurd rfl hne
 by_cases c5 : (getN t ino).kind = 2 ∧ wF t ino (t.length + 1) d = true
 ·unfold z08 at he; rw [if_neg c4, if_pos c5] at he; exact absurd (show (9 : Int) = 0 from he) (by decide)
 by_cases c6 : 0 ≤ was ∧ (getN t ino).kind = 2
 ·unfold z08 at he; rw [if_neg c4, if_neg c5, if_pos c6] at he; exact absurd (show (5 : Int) = 0 from he) (by decide)
 by_cases c7 : 0 ≤ was ∧ (getN t was).kind = 2
 ·unfold z08 at he; rw [if_neg c4, if_neg c5, if_neg c6, if_pos c7] at he; exact absurd (show (7 : Int) = 0 from he) (by decide)
 have hren : z08 t f old ino d s was = (renamed t f old d s ino was (getN t ino).kind, okN) := by
  unfold z08
  rw [if_neg c4, if_neg c5, if_neg c6, if_neg c7]
 rw [hren] at hu ⊢
 have hkw : (getN t was).kind ≠ 2 := by
  by_cases hw : 0 ≤ was
  ·exact fun hh => c7 ⟨hw, hh⟩
  ·intro hh
   have := hT.inv.pos was hh
   omega
 have hR : Ren t (renamed t f old d s ino was (getN t ino).kind) f d old s ino was := by
  unfold renamed
  by_cases hw : 0 ≤ was
  ·simp only [if_pos hw]
   have hM := zi1 (k := 1 + 5 * n) (f := f) (d := d) (old := old) (s := s) (ino := ino) h hT hG.sm hf hd e0 he0 hs0 hi0 (by rw [hwas]; exact c4) (by rw [hwas]; exact hw) (by rw [hwas]; exact hkw)
   rw [hwas] at hM
   have hDu : Uniq (zS t d s) := vN h.srt.uniq
   refine zrb hM.lj.srt.uniq hM.kf hM.kd (fun hk => absurd ⟨hw, hk⟩ c6) (fun y hy => ?_) (fun y hy e => ?_)
   ·rw [vV hDu hy, (qQ h.srt.uniq hd).1]
   ·rw [vV hDu hy, vA h.srt.uniq hd]
    split
    ·rename_i hyd
     subst hyd
     show e ∈ (getN t y).names.filter (fun e => decide (e.name ≠ s)) ↔ _
     rw [List.mem_filter]
     simp only [decide_eq_true_eq, true_and]
    ·rename_i hyd
     simp only [hyd, false_and, not_false_eq_true, and_true]
  ·simp only [if_neg hw]
   have hno := z0b (hT.inv.ge2 d) (show qE (getN t d).names s < 0 by rw [hwas]; omega)
   refine zrb h.srt.uniq hf hd (fun hk => hk) (fun y _ => rfl) (fun y _ e => ⟨fun hm => ⟨hm, fun ⟨h1, h2⟩ => hno e (by rw [← h1]; exact hm) h2⟩, fun hm => hm.1⟩)
 have hdw : d ≠ was := fun hh => by rw [hh] at hd; exact hkw hd
 have hfw : f ≠ was := fun hh => by rw [hh] at hf; exact hkw hf
 have h1w : (1 : Int) ≠ was := fun hh => by have := hT.inv.root; rw [hh] at this; exact hkw this
 have stuck : ∀ y, (getN t y).kind = 2 → (getN t ino).kind ≠ 2 → ∀ p2, goN t p2 ino ≠ (y, 0) := fun y hy hk p2 hq => by
  cases p2 with
  | nil => cases hq; exact hk hy
  | cons x q =>
   simp only [goN] at hq
   rw [if_pos hk] at hq
   cases (Prod.mk.inj hq).2
 have vd : ∀ p2, goN t p2 ino ≠ (d, 0) := by
  by_cases hk : (getN t ino).kind = 2
  ·intro p2 hq
   obtain ⟨c, hc, _⟩ := z8u hT.inv.root (hT.inv.way ino hk)
   obtain ⟨c', h1, h2⟩ := z7e h hT p2 ino d c hq hd hc
   exact c5 ⟨hk, z5z h1 h2 (by have := zep h1; omega)⟩
  ·exact stuck d hd hk
 have vf : ∀ p2, goN t p2 ino ≠ (f, 0) := by
  by_cases hk : (getN t ino).kind = 2
  ·intro p2 hq
   obtain ⟨c, hc, _⟩ := z8u hT.inv.root (hT.inv.way f hf)
   have hci : z51 t (ino :: f :: c) := ⟨za8 hk, by omega, hpar hk, hc⟩
   obtain ⟨c', h1, h2⟩ := z7e h hT p2 ino f (f :: c) hq hf hci
   have e1 := z0v h1 hc
   subst e1
   rcases List.mem_cons.1 h2 with h2 | h2
   ·exact hnef hk h2
   ·obtain ⟨c2, h3, h4⟩ := z2a h1 h2
    have e2 := z0v h3 hci
    rw [e2, List.length_cons] at h4
    omega
  ·exact stuck f hf hk
 have gb := zcz hR hu hino hwas hkw pb 1 d b2 hd h1w vd
 have ga := zcz hR hu hino hwas hkw pa 1 f a2 hf h1w vf
 refine ⟨?_, ?_⟩
 ·rw [r0]
  unfold zE
  rw [if_neg (by simp [b0]), b1, zd0 pb [s] 1 d gb]
  have hm : (⟨s, ino⟩ : Ent) ∈ (getN (renamed t f old d s ino was (getN t ino).kind) d).names := (hR.names d hdw _).2 (.inl ⟨rfl, rfl⟩)
  have hn : qE (getN (renamed t f old d s ino was (getN t ino).kind) d).names s = ino := zdv (hu.inv.un d) hm
  simp only [goN]
  rw [if_neg (by rw [hR.kind d hdw, hd]; simp), if_neg (by rw [hn]; omega), hn]
 ·unfold zE
  rw [if_neg (by simp [a0]), a1, zd0 pa [old] 1 f ga]
  have hn : qE (getN (renamed t f old d s ino was (getN t ino).kind) f).names old = -1 := zpm fun e hm hh => by
   rcases (hR.names f hfw e).1 hm with ⟨h1, h2⟩ | ⟨_, h2, _⟩
   ·have : old = s := by rw [← hh, h2]
    subst this
    subst h1
    exact c4 (hwas.symm.trans hino)
   ·exact h2 ⟨rfl, hh⟩
  simp only [goN]
  rw [if_neg (by rw [hR.kind f hfw, hf]; simp), if_pos (by rw [hn]; decide)]
def z3a (o : Opn) : Bool := decide ((o.does ≥ 1 ∧ o.does ≤ 7) ∨ o.does = 9)
theorem zkd {t : List Node} {n : Nat} {o : Opn} (hA : At n t) (h : (qU t o).2.err ≠ 0 ∨ z3a o = false) : (qU t o).1 = t := by
 rcases h with h | h
 ·rw [(ansP hA.g.sm).fail h]
 ·have h := of_decide_eq_false h
  unfold qU
  split
  ·rfl
  rename_i hm
  have hm2 : o.does ≥ 1 ∧ o.does ≤ 13 ∧ o.data.length ≤ 1024 := by have h2 : mayN o = true := (Bool.not_eq_false _).mp hm; exact of_decide_eq_true h2
  split
  ·omega
  split
  ·omega
  split
  ·omega
  split
  ·omega
  split
  ·unfold wI
   split
   ·rfl
   unfold z3w
   split
   ·rfl
   split
   ·omega
   split
   ·split
    ·rfl
    split <;> rfl
   ·omega
  split <;> rfl
end Go.Proofs.Ytghllhghboaagaa
end
section
namespace Go.Proofs.Ytghllhghboaagaa
open Go.Vm
theorem zjx (o : Opn) : Ev cfg 33 [encOpn o] (.ret (.d (.bool (z3a o)))) := by
 refine kR rfl rfl zw6 ?_
 show Wp cfg (Try.f33.body.getD .skip) ((.d (encOpn o)) :: uZ ((.tup []) :: (.tup []) :: (.tup []) :: (.tup []) :: (.tup []) :: [])) [] [] _
 unfold uZ
 conv => arg 2; whnf
 generalize hr : z3a o = r
 unfold z3a at hr
 by_cases c1 : o.does ≥ 1
 ·by_cases c2 : o.does ≤ 7
  ·rw [decide_eq_true (.inl ⟨c1, c2⟩)] at hr
   subst hr
   simp (maxSteps:=1000000) (disch:=first|assumption|omega|rfl) only [↓gp, gc, Nat.reduceAdd]
   exact zM rfl rfl rfl
  ·by_cases c3 : o.does = 9
   ·rw [decide_eq_true (.inr c3)] at hr
    subst hr
    simp (maxSteps:=1000000) (disch:=first|assumption|omega|rfl) only [↓gp, gc, Nat.reduceAdd]
    exact zM rfl rfl rfl
   ·rw [decide_eq_false (by omega)] at hr
    subst hr
    simp (maxSteps:=1000000) (disch:=first|assumption|omega|rfl) only [↓gp, gc, Nat.reduceAdd]
    exact zM rfl rfl rfl
 ·have c3 : ¬ o.does = 9 := by omega
  rw [decide_eq_false (by omega)] at hr
  subst hr
  simp (maxSteps:=1000000) (disch:=first|assumption|omega|rfl) only [↓gp, gc, Nat.reduceAdd]
  exact zM rfl rfl rfl
section
variable {ops : Array Oper} {dst : Option Tmp} {k : List Oper} {T : List V} {S : zA} {F : Dfs} {Q : Post}
theorem z2x {o : Opn} : WpR cfgT ops dst k T S F Q (some (.enter 33 [.d (encOpn o)])) = WpL cfgT ops k (putT T dst (.d (.bool (z3a o)))) S F Q :=
 zV (ds := [encOpn o]) rfl (zcy rfl rfl (zjx o))
theorem z9x {n m : Nat} {t u : List Node} (ht : At n t) (hu : At m u) (hn : n ≤ 24) (hm : m ≤ 24) : WpR cfgT ops dst k T S F Q (some (.enter 34 [.d (.sl (t.map zB)), .d (.sl (u.map zB))])) = WpL cfgT ops k (putT T dst (.d (.bool (decide (t = u))))) S F Q :=
 zV (ds := [.sl (t.map zB), .sl (u.map zB)]) rfl (zcy rfl rfl (zul t u (by have := ht.g.sm.len; omega) (by have := hu.g.sm.len; omega) (fun x hx => by have := ht.g.sm.nms x hx; omega) (fun x hx => by have := hu.g.sm.nms x hx; omega)))
theorem vX {n : Nat} {t : List Node} {s : List UInt8} (h : At n t) (hn : n ≤ 24) (hl : s.length < 900000) : WpR cfgT ops dst k T S F Q (some (.enter 27 [.d (.sl (t.map zB)), .d (.str s)])) = WpL cfgT ops k (putT T dst (.tup [.d (.int .i64 (zE t s).1), .d (.int .i64 (zE t s).2)])) S F Q :=
 zV (ds := [.sl (t.map zB), .str s]) rfl (zcy rfl rfl (zge t h.g.told _ (by omega) h.g.sm h.g.lj.srt.nodup s hl))
end
theorem zh4 : (zC Try.prog 33).isSome = true := by kernel_rfl
theorem zfv : (zC Try.prog 34).isSome = true := by kernel_rfl
theorem keeps_ok (l : List Opn) (o : Opn) : Ev cfgT 8 [.sl (l.map encOpn), encOpn o] (.ret (.d (.bool true))) := by
 refine kR rfl rfl q17 ?_
 show Wp cfgT (Try.f8.body.getD .skip) ((.d (.sl (l.map encOpn))) :: (.d (encOpn o)) :: uZ (uZ (uZ (uZ (uZ (uZ (uZ (uZ (uZ ((.tup []) :: (.tup []) :: (.tup []) :: (.tup []) :: (.tup []) :: (.tup []) :: (.tup []) :: (.tup []) :: [])))))))))) [] [] _
 unfold uZ
 conv => arg 2; whnf
 have h12 : (16 : Int) ≤ 1000 := by omega
 have h1 : (1 : Int) ≤ 1000 := by omega
 cases hm : zam l 16 with
 | true =>
  simp (maxSteps:=1000000) (disch:=first|assumption|omega|rfl) only [↓gp, gc, Nat.reduceAdd, ↓vbs, ↓wV, hPT, z35 h12, hm, z1i, bo16]
  exact zM rfl rfl rfl
 | false =>
 cases hm1 : zam [o] 1 with
 | true =>
  simp (maxSteps:=1000000) (disch:=first|assumption|omega|rfl) only [↓gp, gc, Nat.reduceAdd, ↓vbs, ↓wV, hPT, z35 h12, hm, bs22, z2g h1, hm1, z1i, bo16]
  exact zM rfl rfl rfl
 | false =>
 have hsc := zbx h12 hm
 have hll : l.length ≤ 16 := by
  unfold zam at hm
  rw [Bool.or_eq_false_iff] at hm
  have := of_decide_eq_false hm.1
  omega
 obtain ⟨ha, hb, hd⟩ := zsm hm1
 have hA := At.play (l := l) (by omega)
 obtain ⟨t, ht⟩ : ∃ t, zjk l = t := ⟨_, rfl⟩
 rw [ht] at hA
 have h24 : l.length ≤ 24 := by omega
 have h23 : l.length ≤ 23 := by omega
 have h24' : l.length + 1 ≤ 24 := by omega
 have hla : o.a.length < 900000 := by omega
 have hlb : o.b.length < 900000 := by omega
 have hld : o.data.length < 900000 := by omega
 have hAu := hA.step (o := o) h23
 obtain ⟨u, hu⟩ : ∃ u, (qU t o).1 = u := ⟨_, rfl⟩
 have hkr := fun h6 he hne => ze4 (o := o) hA h6 he hne
 have hks := fun h => zkd (o := o) hA h
 rw [hu] at hAu hkr hks
 by_cases he : (qU t o).2.err = 0
 ·cases hc : z3a o with
  | true =>
   by_cases h6 : o.does = 6
   ·by_cases hr : (zE t o.a).2 = 0
    ·by_cases hs : t = u
     ·have hs' := decide_eq_true hs
      simp (maxSteps:=1000000) (disch:=first|assumption|omega|rfl) only [↓gp, gc, Nat.reduceAdd, ↓vbs, ↓wV, hPT, z35 h12, hm, bs22, z2g h1, hm1, z61 hsc, ht, zfp hA h24, z5q hld, zh7, bo19, z5p hA h23 hla hlb, hu, vX hA h24 hla, z2x, zh4, zfv, hc, z9x hA hAu h24 h24', hs', wJ, Bool.not_true, Bool.not_false, z1i, bo16, dne, z0o]
      exact zM rfl rfl rfl
     ·have hs' := decide_eq_false hs
      obtain ⟨k1, k2⟩ := hkr h6 he hs
      simp (maxSteps:=1000000) (disch:=first|assumption|omega|rfl) only [↓gp, gc, Nat.reduceAdd, ↓vbs, ↓wV, hPT, z35 h12, hm, bs22, z2g h1, hm1, z61 hsc, ht, zfp hA h24, z5q hld, zh7, bo19, z5p hA h23 hla hlb, hu, vX hA h24 hla, z2x, zh4, zfv, hc, z9x hA hAu h24 h24', hs', wJ, Bool.not_true, Bool.not_false, z1i, bo16, dne, z0o, vX hAu h24' hla, vX hAu h24' hlb, k1, k2]
      exact zM rfl rfl rfl
    ·simp (maxSteps:=1000000) (disch:=first|assumption|omega|rfl) only [↓gp, gc, Nat.reduceAdd, ↓vbs, ↓wV, hPT, z35 h12, hm, bs22, z2g h1, hm1, z61 hsc, ht, zfp hA h24, z5q hld, zh7, bo19, z5p hA h23 hla hlb, hu, vX hA h24 hla, z2x, zh4, zfv, hc, wJ, Bool.not_true, Bool.not_false, z1i, bo16, dne, z0o]
     exact zM rfl rfl rfl
   ·simp (maxSteps:=1000000) (disch:=first|assumption|omega|rfl) only [↓gp, gc, Nat.reduceAdd, ↓vbs, ↓wV, hPT, z35 h12, hm, bs22, z2g h1, hm1, z61 hsc, ht, zfp hA h24, z5q hld, zh7, bo19, z5p hA h23 hla hlb, hu, vX hA h24 hla, z2x, zh4, zfv, hc, wJ, Bool.not_true, Bool.not_false, z1i, bo16, dne, z0o]
    exact zM rfl rfl rfl
  | false =>
   have hs : t = u := (hks (.inr hc)).symm
   have hs' := decide_eq_true hs
   by_cases h6 : o.does = 6
   ·exact absurd hc (by unfold z3a; rw [h6]; decide)
   ·simp (maxSteps:=1000000) (disch:=first|assumption|omega|rfl) only [↓gp, gc, Nat.reduceAdd, ↓vbs, ↓wV, hPT, z35 h12, hm, bs22, z2g h1, hm1, z61 hsc, ht, zfp hA h24, z5q hld, zh7, bo19, z5p hA h23 hla hlb, hu, vX hA h24 hla, z2x, zh4, zfv, hc, z9x hA hAu h24 h24', hs', wJ, Bool.not_true, Bool.not_false, z1i, bo16, dne, z0o]
    exact zM rfl rfl rfl
 ·have hs : t = u := (hks (.inl he)).symm
  have hs' := decide_eq_true hs
  by_cases h6 : o.does = 6
  ·simp (maxSteps:=1000000) (disch:=first|assumption|omega|rfl) only [↓gp, gc, Nat.reduceAdd, ↓vbs, ↓wV, hPT, z35 h12, hm, bs22, z2g h1, hm1, z61 hsc, ht, zfp hA h24, z5q hld, zh7, bo19, z5p hA h23 hla hlb, hu, vX hA h24 hla, zh4, zfv, z9x hA hAu h24 h24', hs', wJ, Bool.not_true, Bool.not_false, z1i, bo16, dne, z0o]
   exact zM rfl rfl rfl
  ·simp (maxSteps:=1000000) (disch:=first|assumption|omega|rfl) only [↓gp, gc, Nat.reduceAdd, ↓vbs, ↓wV, hPT, z35 h12, hm, bs22, z2g h1, hm1, z61 hsc, ht, zfp hA h24, z5q hld, zh7, bo19, z5p hA h23 hla hlb, hu, vX hA h24 hla, zh4, zfv, z9x hA hAu h24 h24', hs', wJ, Bool.not_true, Bool.not_false, z1i, bo16, dne, z0o]
   exact zM rfl rfl rfl
end Go.Proofs.Ytghllhghboaagaa
end
