/- Trees that are right, as functions from numbers to nodes: what the steps keep. Plain. -/
import Derived.ProofKit
import Derived.Deep.Slices
import Derived.OpenShut
import Derived.WalkKit
import Derived.Defers
import Derived.Recover
import Derived.Laws.Pointers
import Derived.OneCell
import Derived.Test.YtghllhghboaagaaS06
set_option linter.unusedVariables false
set_option linter.unusedSimpArgs false
set_option maxRecDepth 100000
set_option maxHeartbeats 4000000
set_option linter.defProp false
section
namespace Go.Proofs.Ytghllhghboaagaa
open Go.Vm
def upd (g : Int → Node) (m : Node) : Int → Node := fun x => if x = m.ino then m else g x
def del (g : Int → Node) (i : Int) : Int → Node := fun x => if x = i then zM else g x
inductive Up (g : Int → Node) (i : Int) : Int → Prop
 | root : i ≠ 1 → Up g i 1
 | step {x : Int} : x ≠ i → (g x).kind = 2 → x ≠ 1 → Up g i (g x).parent → Up g i x
theorem Up.mono {g g' : Int → Node} {i x : Int} (h : ∀ x, (g x).kind = 2 → x ≠ i → (g' x).kind = 2 ∧ (g' x).parent = (g x).parent) (hx : Up g i x) : Up g' i x := by
 induction hx with
 | root h1 => exact .root h1
 | step h1 h2 h3 _ ih => exact .step h1 (h _ h2 h1).1 h3 (by rw [(h _ h2 h1).2]; exact ih)
structure Inv (g : Int → Node) (i : Int) : Prop where
 root : (g 1).kind = 2
 ge2 : ∀ x, ∀ e ∈ (g x).names, 2 ≤ e.ino
 un : ∀ x, ∀ e ∈ (g x).names, ∀ e' ∈ (g x).names, e.name = e'.name → e.ino = e'.ino
 ln : ∀ x, (g x).kind = 2 → (g x).links = 1
 told : ∀ x, (g x).kind = 2 → x ≠ 1 → x ≠ i → (g (g x).parent).kind = 2 ∧ ∃ e ∈ (g (g x).parent).names, e.ino = x
 way : ∀ x, (g x).kind = 2 → Up g 0 x
 pos : ∀ x, (g x).kind = 2 → 1 ≤ x
theorem Inv.any {g : Int → Node} {i : Int} (h : Inv g 1) : Inv g i :=
 ⟨h.root, h.ge2, h.un, h.ln, fun x h1 h2 _ => h.told x h1 h2 h2, h.way, h.pos⟩
theorem Inv.file {g : Int → Node} {i : Int} {m : Node} (h : Inv g i) (hm : m.kind ≠ 2) (hg : (g m.ino).kind ≠ 2) (h2 : ∀ e ∈ m.names, 2 ≤ e.ino) (hu : ∀ e ∈ m.names, ∀ e' ∈ m.names, e.name = e'.name → e.ino = e'.ino) : Inv (upd g m) i := by
 have hk : ∀ x, (upd g m x).kind = 2 → x ≠ m.ino ∧ (g x).kind = 2 := fun x hx => by unfold upd at hx; grind
 have he : ∀ x, x ≠ m.ino → upd g m x = g x := fun x hx => by simp [upd, hx]
 have hs : upd g m m.ino = m := by simp [upd]
 refine ⟨?_, ?_, ?_, ?_, ?_, ?_, ?_⟩
 ·rw [he]; exact h.root
  intro h1; rw [← h1] at hg; exact hg h.root
 ·intro x e hx
  by_cases hxm : x = m.ino
  ·rw [hxm, hs] at hx; exact h2 e hx
  ·rw [he x hxm] at hx; exact h.ge2 x e hx
 ·intro x
  by_cases hxm : x = m.ino
  ·rw [hxm, hs]; exact hu
  ·rw [he x hxm]; exact h.un x
 ·intro x hx
  obtain ⟨h1, h3⟩ := hk x hx
  rw [he x h1]; exact h.ln x h3
 ·intro x hx n1 ni
  obtain ⟨h1, h3⟩ := hk x hx
  rw [he x h1]
  obtain ⟨h4, h5⟩ := h.told x h3 n1 ni
  have h6 : (g x).parent ≠ m.ino := fun hh => by rw [hh] at h4; exact hg h4
  rw [he _ h6]; exact ⟨h4, h5⟩
 ·intro x hx
  obtain ⟨h1, h3⟩ := hk x hx
  refine (h.way x h3).mono fun y hy _ => ?_
  have : y ≠ m.ino := fun hh => by rw [hh] at hy; exact hg hy
  rw [he y this]; exact ⟨hy, rfl⟩
 ·intro x hx
  exact h.pos x (hk x hx).2
theorem Inv.delFile {g : Int → Node} {i j : Int} (h : Inv g i) (hg : (g j).kind ≠ 2) : Inv (del g j) i := by
 have he : ∀ x, x ≠ j → del g j x = g x := fun x hx => by simp [del, hx]
 have hs : del g j j = zM := by simp [del]
 have hk : ∀ x, (del g j x).kind = 2 → x ≠ j ∧ (g x).kind = 2 := fun x hx => by
  by_cases hxj : x = j
  ·rw [hxj, hs] at hx; exact absurd hx (by simp [zM])
  ·rw [he x hxj] at hx; exact ⟨hxj, hx⟩
 refine ⟨?_, ?_, ?_, ?_, ?_, ?_, ?_⟩
 ·rw [he]; exact h.root
  intro h1; rw [← h1] at hg; exact hg h.root
 ·intro x e hx
  by_cases hxm : x = j
  ·rw [hxm, hs] at hx; simp [zM] at hx
  ·rw [he x hxm] at hx; exact h.ge2 x e hx
 ·intro x
  by_cases hxm : x = j
  ·rw [hxm, hs]; simp [zM]
  ·rw [he x hxm]; exact h.un x
 ·intro x hx
  obtain ⟨h1, h3⟩ := hk x hx
  rw [he x h1]; exact h.ln x h3
 ·intro x hx n1 ni
  obtain ⟨h1, h3⟩ := hk x hx
  rw [he x h1]
  obtain ⟨h4, h5⟩ := h.told x h3 n1 ni
  have h6 : (g x).parent ≠ j := fun hh => by rw [hh] at h4; exact hg h4
  rw [he _ h6]; exact ⟨h4, h5⟩
 ·intro x hx
  obtain ⟨h1, h3⟩ := hk x hx
  refine (h.way x h3).mono fun y hy _ => ?_
  have : y ≠ j := fun hh => by rw [hh] at hy; exact hg hy
  rw [he y this]; exact ⟨hy, rfl⟩
 ·intro x hx
  exact h.pos x (hk x hx).2
theorem Inv.delDir {g : Int → Node} {j : Int} (h : Inv g j) (hj : j ≠ 1) (hn : (g j).names = []) : Inv (del g j) 1 := by
 have he : ∀ x, x ≠ j → del g j x = g x := fun x hx => by simp [del, hx]
 have hs : del g j j = zM := by simp [del]
 have hk : ∀ x, (del g j x).kind = 2 → x ≠ j ∧ (g x).kind = 2 := fun x hx => by
  by_cases hxj : x = j
  ·rw [hxj, hs] at hx; exact absurd hx (by simp [zM])
  ·rw [he x hxj] at hx; exact ⟨hxj, hx⟩
 have hp : ∀ x, (g x).kind = 2 → x ≠ 1 → x ≠ j → (g x).parent ≠ j := fun x h1 h2 h3 hh => by
  obtain ⟨_, e, h5, _⟩ := h.told x h1 h2 h3
  rw [hh, hn] at h5
  simp at h5
 refine ⟨?_, ?_, ?_, ?_, ?_, ?_, ?_⟩
 ·rw [he _ (fun h1 => hj h1.symm)]; exact h.root
 ·intro x e hx
  by_cases hxm : x = j
  ·rw [hxm, hs] at hx; simp [zM] at hx
  ·rw [he x hxm] at hx; exact h.ge2 x e hx
 ·intro x
  by_cases hxm : x = j
  ·rw [hxm, hs]; simp [zM]
  ·rw [he x hxm]; exact h.un x
 ·intro x hx
  obtain ⟨h1, h3⟩ := hk x hx
  rw [he x h1]; exact h.ln x h3
 ·intro x hx n1 ni
  obtain ⟨h1, h3⟩ := hk x hx
  rw [he x h1, he _ (hp x h3 n1 h1)]
  exact h.told x h3 n1 h1
 ·intro x hx
  obtain ⟨h1, h3⟩ := hk x hx
  have hw := h.way x h3
  clear hx h3
  induction hw with
  | root h0 => exact .root h0
  | step h4 h5 h6 _ ih => exact .step h4 (by rw [he _ h1]; exact h5) h6 (by rw [he _ h1]; exact ih (hp _ h5 h6 h1))
 ·intro x hx
  exact h.pos x (hk x hx).2
theorem Inv.names {g : Int → Node} {i j d : Int} {m : Node} (h : Inv g i) (hd : (g d).kind = 2) (hi : m.ino = d) (hk : m.kind = 2) (hl : m.links = (g d).links) (hp : m.parent = (g d).parent)
  (h2 : ∀ e ∈ m.names, 2 ≤ e.ino) (hu : ∀ e ∈ m.names, ∀ e' ∈ m.names, e.name = e'.name → e.ino = e'.ino)
  (ht : ∀ x, (g x).kind = 2 → x ≠ 1 → x ≠ j → (g (g x).parent).kind = 2 ∧ ∃ e ∈ (if (g x).parent = d then m.names else (g (g x).parent).names), e.ino = x) : Inv (upd g m) j := by
 have he : ∀ x, x ≠ d → upd g m x = g x := fun x hx => by simp [upd, hi, hx]
 have hs : upd g m d = m := by simp [upd, hi]
 have hkk : ∀ x, (upd g m x).kind = (g x).kind := fun x => by
  by_cases hx : x = d
  ·rw [hx, hs, hk, hd]
  ·rw [he x hx]
 have hpp : ∀ x, (upd g m x).parent = (g x).parent := fun x => by
  by_cases hx : x = d
  ·rw [hx, hs, hp]
  ·rw [he x hx]
 have hnn : ∀ x, (upd g m x).names = if x = d then m.names else (g x).names := fun x => by
  by_cases hx : x = d
  ·rw [if_pos hx, hx, hs]
  ·rw [if_neg hx, he x hx]
 refine ⟨?_, ?_, ?_, ?_, ?_, ?_, ?_⟩
 ·rw [hkk]; exact h.root
 ·intro x e hx
  rw [hnn] at hx
  split at hx
  ·exact h2 e hx
  ·exact h.ge2 x e hx
 ·intro x
  rw [hnn]
  split
  ·exact hu
  ·exact h.un x
 ·intro x hx
  rw [hkk] at hx
  by_cases hxd : x = d
  ·rw [hxd, hs, hl]; exact h.ln d hd
  ·rw [he x hxd]; exact h.ln x hx
 ·intro x hx n1 nj
  rw [hkk] at hx
  rw [hpp, hkk, hnn]
  exact ht x hx n1 nj
 ·intro x hx
  rw [hkk] at hx
  exact (h.way x hx).mono fun y hy _ => ⟨by rw [hkk]; exact hy, hpp y⟩
 ·intro x hx
  rw [hkk] at hx
  exact h.pos x hx
theorem Inv.newDir {g : Int → Node} {m : Node} (h : Inv g 1) (hg : (g m.ino).kind ≠ 2) (hm : m.kind = 2) (hl : m.links = 1) (hn : m.names = []) (hp : (g m.parent).kind = 2) (h2 : 2 ≤ m.ino) : Inv (upd g m) m.ino := by
 have he : ∀ x, x ≠ m.ino → upd g m x = g x := fun x hx => by simp [upd, hx]
 have hs : upd g m m.ino = m := by simp [upd]
 have hmono : ∀ x, Up g 0 x → Up (upd g m) 0 x := fun x hx => hx.mono fun y hy _ => by
  have : y ≠ m.ino := fun hh => by rw [hh] at hy; exact hg hy
  rw [he y this]; exact ⟨hy, rfl⟩
 refine ⟨?_, ?_, ?_, ?_, ?_, ?_, ?_⟩
 ·rw [he _ (by omega)]; exact h.root
 ·intro x e hx
  by_cases hxm : x = m.ino
  ·rw [hxm, hs, hn] at hx; simp at hx
  ·rw [he x hxm] at hx; exact h.ge2 x e hx
 ·intro x
  by_cases hxm : x = m.ino
  ·rw [hxm, hs, hn]; simp
  ·rw [he x hxm]; exact h.un x
 ·intro x hx
  by_cases hxm : x = m.ino
  ·rw [hxm, hs, hl]
  ·rw [he x hxm] at hx ⊢; exact h.ln x hx
 ·intro x hx n1 ni
  rw [he x ni] at hx ⊢
  obtain ⟨h4, h5⟩ := h.told x hx n1 n1
  have h6 : (g x).parent ≠ m.ino := fun hh => by rw [hh] at h4; exact hg h4
  rw [he _ h6]; exact ⟨h4, h5⟩
 ·intro x hx
  by_cases hxm : x = m.ino
  ·rw [hxm]
   refine .step (by omega) (by rw [hs]; exact hm) (by omega) ?_
   rw [hs]
   exact hmono _ (h.way _ hp)
  ·rw [he x hxm] at hx; exact hmono _ (h.way x hx)
 ·intro x hx
  by_cases hxm : x = m.ino
  ·omega
  ·rw [he x hxm] at hx; exact h.pos x hx
theorem Inv.move {g : Int → Node} {i d : Int} {m : Node} (h : Inv g i) (hi : m.ino = i) (hk : m.kind = 2) (hki : (g i).kind = 2) (h1 : i ≠ 1) (hl : m.links = (g i).links) (hp : m.parent = d) (hn : m.names = (g i).names)
  (hd : (g d).kind = 2) (hid : d ≠ i) (ht : ∃ e ∈ (g d).names, e.ino = i) (hu : Up g i d) : Inv (upd g m) 1 := by
 have he : ∀ x, x ≠ i → upd g m x = g x := fun x hx => by simp [upd, hi, hx]
 have hs : upd g m i = m := by simp [upd, hi]
 have hkk : ∀ x, (upd g m x).kind = (g x).kind := fun x => by
  by_cases hx : x = i
  ·rw [hx, hs, hk, hki]
  ·rw [he x hx]
 have hnn : ∀ x, (upd g m x).names = (g x).names := fun x => by
  by_cases hx : x = i
  ·rw [hx, hs, hn]
  ·rw [he x hx]
 have hpi := h.pos i hki
 have hup : ∀ x, Up g i x → Up (upd g m) 0 x := fun x hx => by
  induction hx with
  | root _ => exact .root (by omega)
  | step a b c _ ih =>
   have := h.pos _ b
   exact .step (by omega) (by rw [hkk]; exact b) c (by rw [he _ a]; exact ih)
 refine ⟨?_, ?_, ?_, ?_, ?_, ?_, ?_⟩
 ·rw [hkk]; exact h.root
 ·intro x e hx
  rw [hnn] at hx; exact h.ge2 x e hx
 ·intro x
  rw [hnn]; exact h.un x
 ·intro x hx
  rw [hkk] at hx
  by_cases hxi : x = i
  ·rw [hxi, hs, hl]; exact h.ln i hki
  ·rw [he x hxi]; exact h.ln x hx
 ·intro x hx n1 _
  rw [hkk] at hx
  by_cases hxi : x = i
  ·rw [hxi, hs, hp, hkk, hnn]; exact ⟨hd, ht⟩
  ·rw [he x hxi, hkk, hnn]; exact h.told x hx n1 hxi
 ·intro x hx
  rw [hkk] at hx
  have hw := h.way x hx
  clear hx
  induction hw with
  | root h0 => exact .root h0
  | @step x a b c _ ih =>
   by_cases hxi : x = i
   ·refine .step a (by rw [hkk]; exact b) c ?_
    rw [hxi, hs, hp]
    exact hup _ hu
   ·exact .step a (by rw [hkk]; exact b) c (by rw [he _ hxi]; exact ih)
 ·intro x hx
  rw [hkk] at hx; exact h.pos x hx
def Uniq (t : List Node) : Prop := ∀ n ∈ t, ∀ m ∈ t, n.ino = m.ino → n = m
theorem z4j {t : List Node} (hu : Uniq t) {n : Node} (hn : n ∈ t) : getN t n.ino = n := by
 rcases jH t n.ino with ⟨_, h⟩ | ⟨h1, h2⟩
 ·exact absurd rfl (h n hn)
 ·exact hu _ h1 _ hn h2
theorem z1s {t : List Node} {x : Int} (h : ∀ n ∈ t, n.ino ≠ x) : getN t x = zM := by
 rcases jH t x with ⟨h1, _⟩ | ⟨h1, h2⟩
 ·exact h1
 ·exact absurd h2 (h _ h1)
theorem vS {t : List Node} {m : Node} (hu : Uniq t) : Uniq (qY t m) := by
 intro n hn n' hn' he
 rw [wI] at hn hn'
 rcases hn with rfl | ⟨h1, h2⟩ <;> rcases hn' with rfl | ⟨h3, h4⟩
 ·rfl
 ·exact absurd he.symm h4
 ·exact absurd he h2
 ·exact hu _ h1 _ h3 he
theorem qX {t : List Node} {m : Node} (hu : Uniq t) : getN (qY t m) = upd (getN t) m := by
 funext x
 unfold upd
 split
 ·rename_i hx
  rw [hx]
  exact z4j (vS hu) (wI.2 (.inl rfl))
 ·rename_i hx
  rcases jH t x with ⟨h1, h2⟩ | ⟨h1, h2⟩
  ·rw [h1]
   refine z1s fun n hn => ?_
   rcases wI.1 hn with rfl | ⟨h3, _⟩
   ·exact fun h => hx h.symm
   ·exact h2 n h3
  ·have h3 : getN t x ∈ qY t m := wI.2 (.inr ⟨h1, by rw [h2]; exact hx⟩)
   have := z4j (vS hu) h3
   rw [h2] at this
   exact this
theorem z50 {t : List Node} {p : Node → Bool} (hu : Uniq t) : Uniq (t.filter p) :=
 fun n hn m hm => hu n (List.mem_filter.1 hn).1 m (List.mem_filter.1 hm).1
theorem z1m {t : List Node} {i : Int} (hu : Uniq t) : getN (t.filter (fun n => n.ino ≠ i)) = del (getN t) i := by
 funext x
 unfold del
 split
 ·rename_i hx
  refine z1s fun n hn => ?_
  have := (List.mem_filter.1 hn).2
  rw [hx]
  simpa using this
 ·rename_i hx
  rcases jH t x with ⟨h1, h2⟩ | ⟨h1, h2⟩
  ·rw [h1]
   exact z1s fun n hn => h2 n (List.mem_filter.1 hn).1
  ·have h3 : getN t x ∈ t.filter (fun n => n.ino ≠ i) := List.mem_filter.2 ⟨h1, by rw [h2]; simpa using hx⟩
   have := z4j (z50 hu) h3
   rw [h2] at this
   exact this
theorem jD {t : List Node} {d : Int} (h : (getN t d).kind = 2) : (getN t d).ino = d := by
 rcases jH t d with ⟨h1, _⟩ | ⟨_, h2⟩
 ·rw [h1] at h; simp [zM] at h
 ·exact h2
theorem zd3 {t : List Node} {i x : Int} (h : Inv (getN t) i) (hx : (getN t x).kind ≠ 2) : (getN t (getN t x).ino).kind ≠ 2 := by
 rcases jH t x with ⟨h1, _⟩ | ⟨_, h2⟩
 ·rw [h1]
  intro hh
  have := h.pos _ hh
  simp [zM] at this
 ·rw [h2]; exact hx
structure TInv (t : List Node) (i : Int) : Prop where
 uniq : Uniq t
 inv : Inv (getN t) i
theorem wW {l : List Ent} {s : List UInt8} (h : 0 ≤ qV l s) : ∃ e ∈ l, e.name = s ∧ e.ino = qV l s := by
 unfold qV at h ⊢
 cases hf : l.find? (fun e => decide (e.name = s)) with
 | none => rw [hf] at h; simp at h
 | some e =>
  refine ⟨e, List.mem_of_find?_eq_some hf, ?_, rfl⟩
  have := List.find?_some hf
  simpa using this
theorem z0h {l : List Ent} {s : List UInt8} (h2 : ∀ e ∈ l, 2 ≤ e.ino) (h : qV l s < 0) : ∀ e ∈ l, e.name ≠ s := by
 unfold qV at h
 cases hf : l.find? (fun e => decide (e.name = s)) with
 | none =>
  intro e he hs
  have := List.find?_eq_none.1 hf e he
  simp [hs] at this
 | some e =>
  rw [hf] at h
  have := h2 e (List.mem_of_find?_eq_some hf)
  simp only at h
  omega
theorem TInv.drop {t : List Node} {i d : Int} {s : List UInt8} (h : TInv t i) (hd : (getN t d).kind = 2) (hs : ∀ e ∈ (getN t d).names, e.name = s → (getN t e.ino).kind ≠ 2 ∨ e.ino = i) : TInv (zU t d s) i := by
 refine ⟨vS h.uniq, ?_⟩
 unfold zU
 rw [qX h.uniq]
 refine h.inv.names hd (jD hd) hd rfl rfl ?_ ?_ ?_
 ·intro e he
  exact h.inv.ge2 d e (List.mem_filter.1 he).1
 ·intro e he e' he'
  exact h.inv.un d e (List.mem_filter.1 he).1 e' (List.mem_filter.1 he').1
 ·intro x hx n1 ni
  obtain ⟨h1, e, h2, h3⟩ := h.inv.told x hx n1 ni
  refine ⟨h1, e, ?_, h3⟩
  split
  ·rename_i hp
   rw [hp] at h2
   refine List.mem_filter.2 ⟨h2, ?_⟩
   rw [decide_eq_true_eq]
   intro hes
   rcases hs e h2 hes with h4 | h4
   ·rw [h3] at h4; exact h4 hx
   ·rw [h3] at h4; exact ni h4
  ·exact h2
theorem TInv.put {t : List Node} {i j d x : Int} {s : List UInt8} (h : TInv t i) (hd : (getN t d).kind = 2) (hs : ∀ e ∈ (getN t d).names, e.name ≠ s) (h2 : 2 ≤ x) (hj : i ≠ j → (x = i ∧ (getN t i).parent = d)) : TInv (putN t d s x) j := by
 refine ⟨vS h.uniq, ?_⟩
 unfold putN
 rw [qX h.uniq]
 refine h.inv.names hd (jD hd) hd rfl rfl ?_ ?_ ?_
 ·intro e he
  rcases mem_putA.1 he with ⟨_, rfl⟩ | he
  ·exact h2
  ·exact h.inv.ge2 d e he
 ·intro e he e' he'
  rcases mem_putA.1 he with ⟨_, rfl⟩ | he <;> rcases mem_putA.1 he' with ⟨_, rfl⟩ | he'
  ·exact fun _ => rfl
  ·exact fun hh => absurd hh.symm (hs _ he')
  ·exact fun hh => absurd hh (hs _ he)
  ·exact h.inv.un d e he e' he'
 ·intro y hy n1 nj
  by_cases hyi : y = i
  ·have hij : i ≠ j := fun hh => nj (hyi.trans hh)
   obtain ⟨hx, hp⟩ := hj hij
   rw [hyi, hp, if_pos rfl]
   exact ⟨hd, ⟨s, x⟩, mem_putA.2 (.inl ⟨rfl, rfl⟩), hx⟩
  ·obtain ⟨h1, e, h3, h4⟩ := h.inv.told y hy n1 hyi
   refine ⟨h1, e, ?_, h4⟩
   split
   ·rename_i hp
    rw [hp] at h3
    exact mem_putA.2 (.inr h3)
   ·exact h3
theorem TInv.loses {t : List Node} {i x : Int} (h : TInv t i) (hx : (getN t x).kind ≠ 2) : TInv (kO t x) i := by
 unfold kO
 split
 ·refine ⟨z50 h.uniq, ?_⟩
  rw [z1m h.uniq]
  exact h.inv.delFile hx
 ·refine ⟨vS h.uniq, ?_⟩
  rw [qX h.uniq]
  exact h.inv.file hx (zd3 h.inv hx) (h.inv.ge2 x) (h.inv.un x)
theorem TInv.with {t : List Node} {i : Int} {m : Node} (h : TInv t i) (hm : m.kind ≠ 2) (hg : (getN t m.ino).kind ≠ 2) (h2 : ∀ e ∈ m.names, 2 ≤ e.ino) (hu : ∀ e ∈ m.names, ∀ e' ∈ m.names, e.name = e'.name → e.ino = e'.ino) : TInv (qY t m) i := by
 refine ⟨vS h.uniq, ?_⟩
 rw [qX h.uniq]
 exact h.inv.file hm hg h2 hu
theorem jM {t : List Node} {s : List UInt8} (h : (zQ t s).2.2 = 0) : (getN t (zQ t s).1).kind = 2 := by
 unfold zQ at h ⊢
 by_cases h1 : (zV s).2 ≠ 0
 ·rw [if_pos h1] at h; exact absurd h h1
 ·rw [if_neg h1] at h ⊢
  by_cases h2 : (zV s).1.length = 0
  ·rw [if_pos h2] at h; simp at h
  ·rw [if_neg h2] at h ⊢
   split at h
   ·rename_i h3; exact absurd h h3
   ·split at h
    ·simp at h
    ·rename_i h3 h4
     rw [if_neg h3, if_neg h4]
     simpa using h4
theorem zrk {t : List Node} (h2 : ∀ x, ∀ e ∈ (getN t x).names, 2 ≤ e.ino) : ∀ {ps : List (List UInt8)} {d : Int}, (goN t ps d).2 = 0 → (goN t ps d).1 = d ∨ 2 ≤ (goN t ps d).1
 | [], d, _ => .inl rfl
 | p :: r, d, h => by
  unfold goN at h ⊢
  split at h
  ·simp at h
  ·split at h
   ·simp at h
   ·rename_i h3 h4
    rw [if_neg h3, if_neg h4]
    obtain ⟨e, h5, _, h6⟩ := wW (l := (getN t d).names) (s := p) (by omega)
    have h7 := h2 d e h5
    rcases zrk h2 h with h8 | h8
    ·right; rw [h8]; omega
    ·exact .inr h8
theorem zh8 {t : List Node} {s : List UInt8} (h2 : ∀ x, ∀ e ∈ (getN t x).names, 2 ≤ e.ino) (h : (zN t s).2 = 0) : (zN t s).1 = 1 ∨ 2 ≤ (zN t s).1 := by
 unfold zN at h ⊢
 split at h
 ·rename_i h1; exact absurd h h1
 ·rename_i h1
  rw [if_neg h1]
  exact zrk h2 h
theorem TInv.make {t : List Node} {o : Opn} (h : TInv t 1) : TInv (z3j t o).1 1 := by
 unfold z3j
 split
 ·exact h
 ·rename_i h1
  split
  ·exact h
  ·rename_i h2
   have hd := jM (t := t) (s := o.a) (by simpa using h1)
   obtain ⟨hn1, hn2, _⟩ := z0g t
   have hz : getN t (jE t) = zM := z1s hn1
   have hnd : (zQ t o.a).1 ≠ jE t := fun hh => by rw [hh, hz] at hd; simp [zM] at hd
   have hkz : (getN t (jE t)).kind ≠ 2 := by rw [hz]; simp [zM]
   have hfresh := z0h (h.inv.ge2 (zQ t o.a).1) (Int.not_le.1 h2)
   have hi : (qM t o).ino = jE t := by unfold qM; split <;> rfl
   have hgd : getN (qY t (qM t o)) (zQ t o.a).1 = getN t (zQ t o.a).1 := by
    rw [qX h.uniq]
    unfold upd
    rw [hi, if_neg hnd]
   by_cases ho : o.does = 2
   ·have hm : qM t o = ⟨jE t, 2, 1, (zQ t o.a).1, 0, [], []⟩ := by unfold qM; rw [if_pos ho]
    have h3 : TInv (qY t (qM t o)) (jE t) := by
     refine ⟨vS h.uniq, ?_⟩
     rw [qX h.uniq]
     have := h.inv.newDir (m := qM t o) (by rw [hi]; exact hkz) (by rw [hm]) (by rw [hm]) (by rw [hm]) (by rw [hm]; exact hd) (by rw [hi]; exact hn2)
     rw [hi] at this
     exact this
    have hgi : getN (qY t (qM t o)) (jE t) = qM t o := by
     rw [qX h.uniq]
     unfold upd
     rw [hi, if_pos rfl]
    exact h3.put (by rw [hgd]; exact hd) (by rw [hgd]; exact hfresh) hn2 (fun _ => ⟨rfl, by rw [hgi, hm]⟩)
   ·have hm : (qM t o).kind ≠ 2 := by unfold qM; rw [if_neg ho]; simp
    have hn : (qM t o).names = [] := by unfold qM; rw [if_neg ho]
    have h3 : TInv (qY t (qM t o)) 1 := h.with hm (by rw [hi]; exact hkz) (by rw [hn]; simp) (by rw [hn]; simp)
    exact h3.put (by rw [hgd]; exact hd) (by rw [hgd]; exact hfresh) hn2 (fun hh => absurd rfl hh)
theorem TInv.link {t : List Node} {o : Opn} (h : TInv t 1) : TInv (z3v t o).1 1 := by
 unfold z3v
 split
 ·exact h
 ·rename_i h1
  split
  ·exact h
  ·rename_i h2
   split
   ·exact h
   ·rename_i h3
    split
    ·exact h
    ·rename_i h4
     have hd := jM (t := t) (s := o.b) (by simpa using h3)
     have hge := zh8 (t := t) (s := o.a) h.inv.ge2 (by simpa using h1)
     have hfresh := z0h (h.inv.ge2 (zQ t o.b).1) (Int.not_le.1 h4)
     have hfi := zd3 h.inv h2
     have h5 : TInv (qY t (more (getN t (zN t o.a).1))) 1 := h.with h2 hfi (h.inv.ge2 _) (h.inv.un _)
     have hgd : getN (qY t (more (getN t (zN t o.a).1))) (zQ t o.b).1 = getN t (zQ t o.b).1 := by
      rw [qX h.uniq]
      unfold upd
      rw [if_neg]
      intro hh
      have hh : (zQ t o.b).1 = (getN t (zN t o.a).1).ino := hh
      rw [hh] at hd
      exact hfi hd
     refine h5.put (by rw [hgd]; exact hd) (by rw [hgd]; exact hfresh) ?_ (fun hh => absurd rfl hh)
     rcases hge with hg | hg
     ·rw [hg] at h2; exact absurd h.inv.root h2
     ·exact hg
theorem TInv.bytes {t : List Node} {o : Opn} (h : TInv t 1) : TInv (vG t o).1 1 := by
 unfold vG
 split
 ·exact h
 ·unfold z4v
  split
  ·exact h
  ·rename_i hk
   have hfi := zd3 h.inv hk
   have hw : ∀ m : Node, m.ino = (getN t (zN t o.a).1).ino → m.kind = (getN t (zN t o.a).1).kind → m.names = (getN t (zN t o.a).1).names → TInv (qY t m) 1 := fun m a b c =>
    h.with (by rw [b]; exact hk) (by rw [a]; exact hfi) (by rw [c]; exact h.inv.ge2 _) (by rw [c]; exact h.inv.un _)
   repeat' split
   all_goals first | exact h | exact hw _ rfl rfl rfl
theorem vU {t : List Node} {d y : Int} {s : List UInt8} (hu : Uniq t) (hd : (getN t d).kind = 2) : getN (zU t d s) y = if y = d then { getN t d with names := (getN t d).names.filter (fun e => decide (e.name ≠ s)) } else getN t y := by
 unfold zU
 rw [qX hu]
 unfold upd
 have : (getN t d).ino = d := jD hd
 simp only [this]
theorem qR {t : List Node} {d y : Int} {s : List UInt8} (hu : Uniq t) (hd : (getN t d).kind = 2) : (getN (zU t d s) y).kind = (getN t y).kind ∧ (getN (zU t d s) y).parent = (getN t y).parent ∧ (getN (zU t d s) y).links = (getN t y).links := by
 rw [vU hu hd]
 split
 ·rename_i h; rw [h]; exact ⟨rfl, rfl, rfl⟩
 ·exact ⟨rfl, rfl, rfl⟩
theorem z1f {t : List Node} {d y : Int} {s : List UInt8} (hu : Uniq t) (hd : (getN t d).kind = 2) : ∀ e ∈ (getN (zU t d s) y).names, e ∈ (getN t y).names ∧ (y = d → e.name ≠ s) := by
 rw [vU hu hd]
 split
 ·rename_i h
  rw [h]
  intro e he
  exact ⟨(List.mem_filter.1 he).1, fun _ => by have := (List.mem_filter.1 he).2; simpa using this⟩
 ·rename_i h
  exact fun e he => ⟨he, fun hh => absurd hh h⟩
theorem z04 {t : List Node} {x y : Int} (hu : Uniq t) (hy : y ≠ x) : getN (kO t x) y = getN t y := by
 unfold kO
 split
 ·rw [z1m hu]; simp [del, hy]
 ·rename_i hl
  rw [qX hu]
  unfold upd
  rw [if_neg]
  rcases jH t x with ⟨h1, _⟩ | ⟨_, h2⟩
  ·rw [h1] at hl; simp [zM] at hl
  ·intro hh
   have hh : y = (getN t x).ino := hh
   exact hy (hh.trans h2)
theorem TInv.remove {t : List Node} {o : Opn} (h : TInv t 1) (hdo : o.does = 4 ∨ o.does = 5) : TInv (vF t o).1 1 := by
 unfold vF
 split
 ·exact h
 ·rename_i h1
  split
  ·exact h
  ·rename_i h2
   have hd := jM (t := t) (s := o.a) (by simpa using h1)
   generalize zQ t o.a = w at *
   obtain ⟨e0, he0, hs0, hi0⟩ := wW (l := (getN t w.1).names) (s := w.2.1) (by omega)
   have hge : 2 ≤ qV (getN t w.1).names w.2.1 := by rw [← hi0]; exact h.inv.ge2 _ e0 he0
   have hall : ∀ e ∈ (getN t w.1).names, e.name = w.2.1 → e.ino = qV (getN t w.1).names w.2.1 := fun e he hs => by
    rw [← hi0]; exact h.inv.un _ e he e0 he0 (hs.trans hs0.symm)
   generalize qV (getN t w.1).names w.2.1 = ino at *
   split
   ·exact h
   ·rename_i h3
    split
    ·exact h
    ·rename_i h4
     split
     ·exact h
     ·rename_i h5
      rcases hdo with d4 | d5
      ·have hk : (getN t ino).kind ≠ 2 := fun hh => h3 ⟨d4, hh⟩
       have hD := h.drop (d := w.1) (s := w.2.1) hd (fun e he hs => .inl (by rw [hall e he hs]; exact hk))
       exact hD.loses (by rw [(qR h.uniq hd).1]; exact hk)
      ·have hk : (getN t ino).kind = 2 := Decidable.byContradiction fun hh => h4 ⟨d5, hh⟩
       have hn : (getN t ino).names = [] := by
        have : ¬ 0 < (getN t ino).names.length := fun hh => h5 ⟨d5, hh⟩
        exact List.length_eq_zero_iff.1 (by omega)
       have hne : ino ≠ w.1 := fun hh => by rw [← hh, hn] at he0; simp at he0
       have hD : TInv (zU t w.1 w.2.1) ino := TInv.drop ⟨h.uniq, h.inv.any⟩ hd (fun e he hs => .inr (hall e he hs))
       have hg : getN (zU t w.1 w.2.1) ino = getN t ino := by rw [vU h.uniq hd, if_neg hne]
       unfold kO
       rw [if_pos (by rw [hg, h.inv.ln ino hk]; omega)]
       refine ⟨z50 hD.uniq, ?_⟩
       rw [z1m hD.uniq]
       exact hD.inv.delDir (by omega) (by rw [hg]; exact hn)
theorem zgp {t : List Node} {x : Int} (h : (getN t x).kind = 2) : hasN t x = true := by
 unfold hasN
 cases hf : t.find? (fun n => decide (n.ino = x)) with
 | none => unfold getN at h; rw [hf] at h; simp [zM] at h
 | some n => rfl
theorem zqz {t : List Node} {x : Int} (h : hasN t x = true) : x ∈ t.map (·.ino) := by
 unfold hasN at h
 cases hf : t.find? (fun n => decide (n.ino = x)) with
 | none => rw [hf] at h; cases h
 | some n =>
  have h1 := List.mem_of_find?_eq_some hf
  have h2 := List.find?_some hf
  exact List.mem_map.2 ⟨n, h1, by simpa using h2⟩
theorem zik {t : List Node} {x : Int} (hr : (getN t 1).kind = 2) (h : Up (getN t) 0 x) : ∃ c, za0 t (x :: c) ∧ ∀ y ∈ x :: c, (getN t y).kind = 2 := by
 induction h with
 | root _ => exact ⟨[], ⟨zgp hr, rfl⟩, fun y hy => by simp at hy; rw [hy]; exact hr⟩
 | @step x a b c _ ih =>
  obtain ⟨l, h1, h2⟩ := ih
  refine ⟨_ :: l, ⟨zgp b, c, rfl, h1⟩, fun y hy => ?_⟩
  rcases List.mem_cons.1 hy with rfl | hy
  ·exact b
  ·exact h2 y hy
theorem zc3 {t : List Node} : ∀ {c c' : List Int} {x : Int}, za0 t (x :: c) → za0 t (x :: c') → c = c'
 | [], [], x, _, _ => rfl
 | [], j :: r, x, h, h' => absurd h.2 h'.2.1
 | j :: r, [], x, h, h' => absurd h'.2 h.2.1
 | j :: r, j' :: r', x, h, h' => by
  have e : j = j' := h.2.2.1.symm.trans h'.2.2.1
  subst e
  rw [zc3 h.2.2.2 h'.2.2.2]
theorem z7s {t : List Node} : ∀ {c : List Int} {x y : Int}, za0 t (x :: c) → y ∈ c → ∃ c', za0 t (y :: c') ∧ c'.length < c.length
 | [], x, y, _, hy => by simp at hy
 | j :: r, x, y, h, hy => by
  rcases List.mem_cons.1 hy with rfl | hy
  ·exact ⟨r, h.2.2.2, by simp⟩
  ·obtain ⟨c', h1, h2⟩ := z7s h.2.2.2 hy
   exact ⟨c', h1, by simp; omega⟩
theorem z4w {t : List Node} : ∀ {c : List Int} {x : Int}, za0 t (x :: c) → (x :: c).Nodup
 | [], x, _ => by simp
 | j :: r, x, h => by
  refine List.nodup_cons.2 ⟨fun hx => ?_, z4w h.2.2.2⟩
  obtain ⟨c', h1, h2⟩ := z7s h hx
  rw [zc3 h1 h] at h2
  omega
theorem zeh {t : List Node} : ∀ {c : List Int} {x : Int}, za0 t (x :: c) → ∀ y ∈ x :: c, hasN t y = true
 | [], x, h, y, hy => by simp at hy; rw [hy]; exact h.1
 | j :: r, x, h, y, hy => by
  rcases List.mem_cons.1 hy with rfl | hy
  ·exact h.1
  ·exact zeh h.2.2.2 y hy
theorem zf3 : ∀ {l m : List Int}, l.Nodup → (∀ x ∈ l, x ∈ m) → l.length ≤ m.length
 | [], m, _, _ => Nat.zero_le _
 | x :: r, m, hn, hs => by
  obtain ⟨h1, h2⟩ := List.nodup_cons.1 hn
  have hx := hs x (by simp)
  have := zf3 (l := r) (m := m.erase x) h2 (fun y hy => (List.mem_erase_of_ne (fun h : y = x => h1 (by rw [← h]; exact hy))).2 (hs y (by simp [hy])))
  rw [List.length_erase_of_mem hx] at this
  have := List.length_pos_of_mem hx
  simp only [List.length_cons]
  omega
theorem zlv {t : List Node} {c : List Int} {x : Int} (h : za0 t (x :: c)) : (x :: c).length ≤ t.length := by
 have := zf3 (m := t.map (·.ino)) (z4w h) (fun y hy => zqz (zeh h y hy))
 rwa [List.length_map] at this
theorem z9s {t : List Node} {i : Int} : ∀ {c : List Int} {x : Int} {k : Nat}, za0 t (x :: c) → i ∈ x :: c → (x :: c).length ≤ k → z0c t i k x = true
 | _, x, 0, _, _, hk => by simp at hk
 | [], x, k + 1, _, hi, _ => by simp at hi; rw [hi]; simp [z0c]
 | j :: r, x, k + 1, h, hi, hk => by
  unfold z0c
  split
  ·rfl
  ·rename_i hx
   rw [h.2.2.1]
   refine z9s h.2.2.2 ?_ (by simpa using hk)
   rcases List.mem_cons.1 hi with rfl | hi
   ·exact absurd rfl hx
   ·exact hi
theorem zhx {t : List Node} {i : Int} : ∀ {c : List Int} {x : Int}, za0 t (x :: c) → (∀ y ∈ x :: c, (getN t y).kind = 2) → i ∉ x :: c → Up (getN t) i x
 | [], x, h, _, hi => by
  have hx : x = 1 := h.2
  rw [hx] at hi ⊢
  exact .root (fun hh => hi (by simp [hh]))
 | j :: r, x, h, hk, hi => by
  refine .step (fun hh => hi (by simp [hh])) (hk x (by simp)) h.2.1 ?_
  rw [h.2.2.1]
  exact zhx h.2.2.2 (fun y hy => hk y (by simp [hy])) (fun hh => hi (by simp [hh]))
theorem znb {t : List Node} {i d : Int} (h : TInv t 1) (hd : (getN t d).kind = 2) (hb : z0c t i (t.length + 1) d = false) : Up (getN t) i d := by
 obtain ⟨c, h1, h2⟩ := zik h.inv.root (h.inv.way d hd)
 refine zhx h1 h2 fun hi => ?_
 rw [z9s h1 hi (by have := zlv h1; omega)] at hb
 cases hb
theorem z8p {t : List Node} {d y x : Int} {s : List UInt8} (hu : Uniq t) (hd : (getN t d).kind = 2) : (getN (putN t d s x) y).kind = (getN t y).kind ∧ (getN (putN t d s x) y).parent = (getN t y).parent ∧ (y = d → ∀ e, e ∈ (getN (putN t d s x) y).names ↔ (e = ⟨s, x⟩ ∨ e ∈ (getN t d).names)) := by
 unfold putN
 rw [qX hu]
 unfold upd
 have hi : (getN t d).ino = d := jD hd
 simp only [hi]
 split
 ·rename_i h
  rw [h]
  refine ⟨rfl, rfl, fun _ e => ?_⟩
  exact mem_putA.trans (by simp)
 ·rename_i h
  exact ⟨rfl, rfl, fun hh => absurd hh h⟩
theorem TInv.rename {t : List Node} {o : Opn} (h : TInv t 1) : TInv (wY t o).1 1 := by
 unfold wY
 split
 ·exact h
 ·rename_i h1
  split
  ·exact h
  ·rename_i h2
   split
   ·exact h
   ·rename_i h3
    have hf := jM (t := t) (s := o.a) (by simpa using h1)
    have hd := jM (t := t) (s := o.b) (by simpa using h3)
    generalize zQ t o.a = w at *
    generalize zQ t o.b = v at *
    obtain ⟨f, old, _⟩ := w
    obtain ⟨d, s, _⟩ := v
    simp only at *
    obtain ⟨e0, he0, hs0, hi0⟩ := wW (l := (getN t f).names) (s := old) (by omega)
    have hge : 2 ≤ qV (getN t f).names old := by rw [← hi0]; exact h.inv.ge2 _ e0 he0
    have hall : ∀ e ∈ (getN t f).names, e.name = old → e.ino = qV (getN t f).names old := fun e he hs => by
     rw [← hi0]; exact h.inv.un _ e he e0 he0 (hs.trans hs0.symm)
    generalize qV (getN t f).names old = ino at *
    unfold z3e
    split
    ·exact h
    ·rename_i h4
     split
     ·exact h
     ·rename_i h5
      split
      ·exact h
      ·rename_i h6
       split
       ·exact h
       ·rename_i h7
        unfold renamed
        by_cases hk : (getN t ino).kind = 2
        ·
         have hw : ¬ 0 ≤ qV (getN t d).names s := fun hh => h6 ⟨hh, hk⟩
         have hbl : z0c t ino (t.length + 1) d = false := by
          cases hb : z0c t ino (t.length + 1) d with
          | false => rfl
          | true => exact absurd ⟨hk, hb⟩ h5
         have hid : d ≠ ino := fun hh => by rw [hh] at hbl; simp [z0c] at hbl
         have hup := znb h hd hbl
         have hfresh := z0h (h.inv.ge2 d) (Int.not_le.1 hw)
         simp only [if_neg hw, if_pos hk]
         have hD : TInv (zU t f old) ino := TInv.drop ⟨h.uniq, h.inv.any⟩ hf (fun e he hs => .inr (hall e he hs))
         have hkd : (getN (zU t f old) d).kind = 2 := by rw [(qR h.uniq hf).1]; exact hd
         have hP : TInv (putN (zU t f old) d s ino) ino := hD.put hkd (fun e he => hfresh e ((z1f h.uniq hf) e he).1) hge (fun hh => absurd rfl hh)
         have hk2 : ∀ y, (getN (putN (zU t f old) d s ino) y).kind = (getN t y).kind := fun y => by
          rw [(z8p hD.uniq hkd).1, (qR h.uniq hf).1]
         have hp2 : ∀ y, (getN (putN (zU t f old) d s ino) y).parent = (getN t y).parent := fun y => by
          rw [(z8p hD.uniq hkd).2.1, (qR h.uniq hf).2.1]
         refine ⟨vS hP.uniq, ?_⟩
         rw [qX hP.uniq]
         have hki : (getN (putN (zU t f old) d s ino) ino).kind = 2 := by rw [hk2]; exact hk
         exact hP.inv.move (i := ino) (d := d) (jD hki) hki hki (by omega) rfl rfl rfl (by rw [hk2]; exact hd) hid
          ⟨⟨s, ino⟩, ((z8p hD.uniq hkd).2.2 rfl _).2 (.inl rfl), rfl⟩ (hup.mono fun y hy _ => ⟨by rw [hk2]; exact hy, hp2 y⟩)
        ·
         simp only [if_neg hk]
         have main : ∀ u : List Node, TInv u 1 → (getN u f).kind = 2 → (getN u d).kind = 2 → (∀ e ∈ (getN u f).names, e ∈ (getN t f).names) → (∀ e ∈ (getN u d).names, e.name ≠ s) → (getN u ino).kind ≠ 2 → TInv (putN (zU u f old) d s ino) 1 := fun u hu kf kd nf nd ki => by
          have hD : TInv (zU u f old) 1 := hu.drop kf (fun e he hs => .inl (by rw [hall e (nf e he) hs]; exact ki))
          exact hD.put (by rw [(qR hu.uniq kf).1]; exact kd) (fun e he => nd e ((z1f hu.uniq kf) e he).1) hge (fun hh => absurd rfl hh)
         split
         ·rename_i hw
          have hkw : (getN t (qV (getN t d).names s)).kind ≠ 2 := fun hh => h7 ⟨hw, hh⟩
          obtain ⟨e1, he1, hs1, hi1⟩ := wW hw
          have hall1 : ∀ e ∈ (getN t d).names, e.name = s → e.ino = qV (getN t d).names s := fun e he hs => by
           rw [← hi1]; exact h.inv.un _ e he e1 he1 (hs.trans hs1.symm)
          generalize qV (getN t d).names s = was at *
          have hD : TInv (zU t d s) 1 := h.drop hd (fun e he hs => .inl (by rw [hall1 e he hs]; exact hkw))
          have hL : TInv (kO (zU t d s) was) 1 := hD.loses (by rw [(qR h.uniq hd).1]; exact hkw)
          have hnf : f ≠ was := fun hh => by rw [hh] at hf; exact hkw hf
          have hnd : d ≠ was := fun hh => by rw [hh] at hd; exact hkw hd
          refine main _ hL ?_ ?_ ?_ ?_ ?_
          ·rw [z04 hD.uniq hnf, (qR h.uniq hd).1]; exact hf
          ·rw [z04 hD.uniq hnd, (qR h.uniq hd).1]; exact hd
          ·rw [z04 hD.uniq hnf]; exact fun e he => ((z1f h.uniq hd) e he).1
          ·rw [z04 hD.uniq hnd]; exact fun e he => ((z1f h.uniq hd) e he).2 rfl
          ·rw [z04 hD.uniq (fun hh => h4 hh.symm), (qR h.uniq hd).1]; exact hk
         ·rename_i hw
          exact main t h hf hd (fun e he => he) (z0h (h.inv.ge2 d) (Int.not_le.1 hw)) hk
theorem TInv.step {t : List Node} {o : Opn} (h : TInv t 1) : TInv (jL t o).1 1 := by
 unfold jL
 split
 ·exact h
 ·rename_i hm
  repeat' split
  ·exact h.make
  ·exact h.link
  ·exact h.remove (by omega)
  ·exact h.rename
  ·exact h.bytes
  ·exact h
  ·exact h
theorem z6a (x : Int) : getN newN x = if x = 1 then ⟨1, 2, 1, 1, 0, [], []⟩ else zM := by
 unfold getN newN
 by_cases hx : x = 1
 ·subst hx; rfl
 ·have : ¬ (1 : Int) = x := fun hh => hx hh.symm
  simp [hx, this]
theorem TInv.new : TInv newN 1 := by
 have hn : ∀ x, (getN newN x).names = [] := fun x => by rw [z6a]; split <;> rfl
 have hk : ∀ x, (getN newN x).kind = 2 → x = 1 := fun x hx => by
  rw [z6a] at hx
  split at hx
  ·assumption
  ·simp [zM] at hx
 refine ⟨fun n hn m hm _ => ?_, ⟨rfl, fun x e he => by rw [hn] at he; simp at he, fun x e he => by rw [hn] at he; simp at he, fun x hx => by rw [hk x hx]; rfl, fun x hx n1 _ => absurd (hk x hx) n1, fun x hx => by rw [hk x hx]; exact .root (by omega), fun x hx => by rw [hk x hx]; omega⟩⟩
 simp only [newN, List.mem_singleton] at hn hm
 rw [hn, hm]
end Go.Proofs.Ytghllhghboaagaa
end
section
namespace Go.Proofs.Ytghllhghboaagaa
theorem z6i : ∀ {a : List UInt8}, wD a a = false
 | [] => rfl
 | x :: a => by simp [wD, z6i (a := a)]
theorem z2b : ∀ {a b c : List UInt8}, wD a b = true → wD b c = true → wD a c = true
 | [], [], _, h, _ => by cases h
 | [], _ :: _, [], _, h => by simp [wD] at h
 | [], _ :: _, _ :: _, _, _ => rfl
 | _ :: _, [], _, h, _ => by simp [wD] at h
 | _ :: _, _ :: _, [], _, h => by simp [wD] at h
 | x :: a, y :: b, z :: c, h1, h2 => by
  simp only [wD] at h1 h2 ⊢
  by_cases hxy : x = y
  ·subst hxy
   by_cases hxz : x = z
   ·subst hxz
    simp only [ne_eq, not_true_eq_false, if_false] at h1 h2 ⊢
    exact z2b h1 h2
   ·rw [if_pos hxz] at h2 ⊢
    exact h2
  ·rw [if_pos hxy, decide_eq_true_eq] at h1
   by_cases hyz : y = z
   ·subst hyz
    rw [if_pos hxy, decide_eq_true_eq]
    exact h1
   ·rw [if_pos hyz, decide_eq_true_eq] at h2
    have h3 : x < z := by rw [UInt8.lt_iff_toNat_lt] at *; omega
    have hne : x ≠ z := fun hh => by subst hh; rw [UInt8.lt_iff_toNat_lt] at h3; omega
    rw [if_pos hne, decide_eq_true_eq]
    exact h3
theorem z8u : ∀ {a b : List UInt8}, wD b a = !(wD a b || a == b)
 | [], [] => rfl
 | [], _ :: _ => rfl
 | _ :: _, [] => rfl
 | x :: a, y :: b => by
  by_cases hxy : x = y
  ·subst hxy
   have := z8u (a := a) (b := b)
   simp [wD, this]
  ·have hyx : y ≠ x := fun hh => hxy hh.symm
   have h1 : decide (y < x) = !(decide (x < y)) := by
    by_cases h : x < y
    ·have : ¬ y < x := by rw [UInt8.lt_iff_toNat_lt] at *; omega
     simp [h, this]
    ·have hn : x.toNat ≠ y.toNat := fun hh => hxy (UInt8.toNat_inj.1 hh)
     have : y < x := by rw [UInt8.lt_iff_toNat_lt] at *; omega
     simp [h, this]
   simp [wD, hxy, hyx, h1]
theorem z7b : ∀ {a b : List UInt8}, Op.bytesLess a b = wD a b
 | [], [] => rfl
 | [], _ :: _ => rfl
 | _ :: _, [] => rfl
 | x :: a, y :: b => by
  by_cases hxy : x = y
  ·subst hxy
   have h : ¬ x < x := by rw [UInt8.lt_iff_toNat_lt]; omega
   simp [wD, Op.bytesLess, z7b, h]
  ·simp [wD, Op.bytesLess, hxy]
def Ord (l : List Ent) : Prop := (l.map (·.name)).Pairwise fun a b => wD a b = true
theorem Ord.cons {e : Ent} {l : List Ent} : Ord (e :: l) ↔ (∀ x ∈ l, wD e.name x.name = true) ∧ Ord l := by
 unfold Ord
 rw [List.map_cons, List.pairwise_cons]
 simp
theorem Ord.nodup {l : List Ent} (h : Ord l) : (l.map (·.name)).Nodup := List.Pairwise.imp (fun {a b} h => fun hh => by rw [hh, z6i] at h; cases h) h
theorem Ord.filter {l : List Ent} {p : Ent → Bool} (h : Ord l) : Ord (l.filter p) := by
 unfold Ord at *
 exact h.sublist (List.filter_sublist.map _)
theorem z9v {s : List UInt8} {i : Int} : ∀ {l : List Ent}, putA s i true l = l
 | [] => rfl
 | e :: r => by simp [putA, z9v (l := r)]
theorem Ord.put {s : List UInt8} {i : Int} : ∀ {l : List Ent}, Ord l → (∀ e ∈ l, e.name ≠ s) → Ord (putA s i false l)
 | [], _, _ => by simp [putA, Ord]
 | e :: r, h, hs => by
  obtain ⟨h1, h2⟩ := Ord.cons.1 h
  cases hl : wD s e.name with
  | true =>
   have e1 : putA s i false (e :: r) = ⟨s, i⟩ :: e :: r := by simp [putA, hl, z9v]
   rw [e1]
   refine Ord.cons.2 ⟨fun x hx => ?_, h⟩
   rcases List.mem_cons.1 hx with rfl | hx
   ·exact hl
   ·exact z2b hl (h1 x hx)
  | false =>
   have e1 : putA s i false (e :: r) = e :: putA s i false r := by simp [putA, hl]
   have hes : wD e.name s = true := by
    rw [z8u (a := s) (b := e.name), hl]
    have : ¬ s = e.name := fun hh => hs e (by simp) hh.symm
    simp [this]
   rw [e1]
   refine Ord.cons.2 ⟨fun x hx => ?_, Ord.put h2 (fun x hx => hs x (List.mem_cons_of_mem _ hx))⟩
   rcases mem_putA.1 hx with ⟨_, rfl⟩ | hx
   ·exact hes
   ·exact h1 x hx
theorem zrc {s : List UInt8} {i : Int} : ∀ {l : List Ent} {k : Nat}, k ≤ l.length → (∀ j (h : j < l.length), j < k → wD s l[j].name = false) → (∀ h : k < l.length, wD s l[k].name = true) → putA s i false l = l.take k ++ ⟨s, i⟩ :: l.drop k
 | [], k, hk, _, _ => by
  have : k = 0 := by simpa using hk
  subst this
  rfl
 | e :: r, 0, hk, _, h2 => by
  have := h2 (by simp)
  simp only [List.getElem_cons_zero] at this
  simp [putA, this, z9v]
 | e :: r, k + 1, hk, h1, h2 => by
  have h0 := h1 0 (by simp) (by omega)
  simp only [List.getElem_cons_zero] at h0
  have ih := zrc (s := s) (i := i) (l := r) (k := k) (by simpa using hk) (fun j h hj => by have := h1 (j + 1) (by simpa using h) (by omega); simpa using this) (fun h => by have := h2 (by simpa using h); simpa using this)
  simp [putA, h0, ih]
theorem zu0 {l : List Ent} {k : Nat} (h : (l.map (·.name)).Nodup) (hk : k < l.length) : l.filter (fun e => decide (e.name ≠ l[k].name)) = l.take k ++ l.drop (k + 1) := by
 have hs : l = l.take k ++ l[k] :: l.drop (k + 1) := by rw [← List.drop_eq_getElem_cons hk, List.take_append_drop]
 generalize l[k] = e at *
 generalize l.take k = a at *
 generalize l.drop (k + 1) = b at *
 subst hs
 rw [List.map_append, List.map_cons, List.nodup_append] at h
 obtain ⟨_, h2, h3⟩ := h
 rw [List.nodup_cons] at h2
 rw [List.filter_append, List.filter_cons_of_neg (by simp), List.filter_eq_self.2, List.filter_eq_self.2]
 ·intro x hx
  rw [decide_eq_true_eq]
  exact fun hh => h2.1 (List.mem_map.2 ⟨x, hx, hh⟩)
 ·intro x hx
  rw [decide_eq_true_eq]
  exact fun hh => h3 _ (List.mem_map.2 ⟨x, hx, rfl⟩) _ (by simp) hh
def cp (l : List Ent) (x : Int) : Nat := l.countP fun e => decide (e.ino = x)
def cnt (t : List Node) (x : Int) : Nat := (t.map fun n => cp n.names x).sum
theorem zhr (x : Int) : cnt [] x = 0 := rfl
theorem z0q (n : Node) (r : List Node) (x : Int) : cnt (n :: r) x = cp n.names x + cnt r x := by simp [cnt]
theorem znh (x : Int) : cp [] x = 0 := rfl
theorem z76 (e : Ent) (l : List Ent) (x : Int) : cp (e :: l) x = cp l x + if e.ino = x then 1 else 0 := by simp [cp, List.countP_cons]
theorem zrp {l : List Ent} {e : Ent} (h : e ∈ l) : cp l e.ino ≠ 0 := by
 have : 0 < cp l e.ino := List.countP_pos_iff.2 ⟨e, h, by simp⟩
 omega
theorem zo1 {t : List Node} {n : Node} (h : n ∈ t) (x : Int) : cp n.names x ≤ cnt t x := by
 induction t with
 | nil => cases h
 | cons m r ih =>
  rw [z0q]
  rcases List.mem_cons.1 h with rfl | h
  ·omega
  ·have := ih h; omega
def Srt (t : List Node) : Prop := (t.map (·.ino)).Pairwise (· < ·)
theorem Srt.cons {n : Node} {r : List Node} : Srt (n :: r) ↔ (∀ m ∈ r, n.ino < m.ino) ∧ Srt r := by
 unfold Srt
 rw [List.map_cons, List.pairwise_cons]
 simp
theorem Srt.nodup {t : List Node} (h : Srt t) : (t.map (·.ino)).Nodup := List.Pairwise.imp (fun h => Int.ne_of_lt h) h
theorem Srt.uniq {t : List Node} (h : Srt t) : Uniq t := by
 induction t with
 | nil => intro n hn; cases hn
 | cons x r ih =>
  obtain ⟨h1, h2⟩ := Srt.cons.1 h
  intro n hn m hm he
  rcases List.mem_cons.1 hn with e | hn <;> rcases List.mem_cons.1 hm with e' | hm
  ·rw [e, e']
  ·have := h1 m hm; rw [e] at he; omega
  ·have := h1 n hn; rw [e'] at he; omega
  ·exact ih h2 n hn m hm he
theorem Srt.filter {t : List Node} {p : Node → Bool} (h : Srt t) : Srt (t.filter p) := by
 unfold Srt at *
 exact h.sublist (List.filter_sublist.map _)
theorem z2l {n : Node} : ∀ {l : List Node}, wQ n true l = l.filter (fun m => m.ino ≠ n.ino)
 | [] => rfl
 | x :: r => by
  have ih := z2l (n := n) (l := r)
  by_cases h : x.ino = n.ino <;> simp [wQ, h, ih]
theorem zem {n : Node} : ∀ {l : List Node}, Srt l → Srt (wQ n false l)
 | [], _ => by simp [wQ, Srt]
 | x :: r, h => by
  obtain ⟨h1, h2⟩ := Srt.cons.1 h
  by_cases hx : n.ino ≤ x.ino
  ·have e : wQ n false (x :: r) = n :: (x :: r).filter (fun m => m.ino ≠ n.ino) := by
    rw [← z2l]
    simp [wQ, hx]
   rw [e]
   refine Srt.cons.2 ⟨fun m hm => ?_, h.filter⟩
   obtain ⟨hm1, hm2⟩ := List.mem_filter.1 hm
   have hm2 : m.ino ≠ n.ino := by simpa using hm2
   rcases List.mem_cons.1 hm1 with rfl | hm1
   ·omega
   ·have := h1 m hm1; omega
  ·have e : wQ n false (x :: r) = x :: wQ n false r := by
    have : x.ino ≠ n.ino := by omega
    simp [wQ, hx, this]
   rw [e]
   refine Srt.cons.2 ⟨fun m hm => ?_, zem h2⟩
   rcases za4.1 hm with ⟨_, rfl⟩ | ⟨hm1, _⟩
   ·omega
   ·exact h1 m hm1
theorem Srt.with {t : List Node} {n : Node} (h : Srt t) : Srt (qY t n) := zem h
theorem zeg {n : Node} {x : Int} : ∀ {l : List Node}, cnt (wQ n false l) x = cp n.names x + cnt (l.filter (fun m => m.ino ≠ n.ino)) x
 | [] => by simp [wQ, z0q, zhr]
 | y :: r => by
  by_cases hy : n.ino ≤ y.ino
  ·have e : wQ n false (y :: r) = n :: (y :: r).filter (fun m => m.ino ≠ n.ino) := by
    rw [← z2l]
    simp [wQ, hy]
   rw [e, z0q]
  ·have e : wQ n false (y :: r) = y :: wQ n false r := by
    have : y.ino ≠ n.ino := by omega
    simp [wQ, hy, this]
   have hne : y.ino ≠ n.ino := by omega
   rw [e, z0q, zeg, List.filter_cons_of_pos (by simpa using hne), z0q]
   omega
theorem zll (n : Node) (r : List Node) (i : Int) : getN (n :: r) i = if n.ino = i then n else getN r i := by
 unfold getN
 by_cases h : n.ino = i
 ·rw [if_pos h, List.find?_cons_of_pos (by simpa using h)]; rfl
 ·rw [if_neg h, List.find?_cons_of_neg (by simpa using h)]
theorem z7c {i x : Int} : ∀ {t : List Node}, Srt t → cnt (t.filter (fun m => m.ino ≠ i)) x + cp (getN t i).names x = cnt t x
 | [], _ => rfl
 | n :: r, h => by
  obtain ⟨h1, h2⟩ := Srt.cons.1 h
  have ih := z7c (i := i) (x := x) h2
  rw [zll]
  by_cases hn : n.ino = i
  ·rw [if_pos hn, List.filter_cons_of_neg (by simpa using hn), z0q]
   have : r.filter (fun m => m.ino ≠ i) = r := List.filter_eq_self.2 fun m hm => by have := h1 m hm; simp; omega
   rw [this]; omega
  ·rw [if_neg hn, List.filter_cons_of_pos (by simpa using hn), z0q, z0q]
   omega
theorem zij {t : List Node} {n : Node} {x : Int} (h : Srt t) : cnt (qY t n) x + cp (getN t n.ino).names x = cnt t x + cp n.names x := by
 have := z7c (i := n.ino) (x := x) h
 unfold qY
 rw [zeg]
 omega
theorem znn {s : List UInt8} {i x : Int} : ∀ {l : List Ent} {b : Bool}, cp (putA s i b l) x = cp l x + if b = false ∧ i = x then 1 else 0
 | [], b => by cases b <;> simp [putA, z76, znh]
 | e :: r, b => by
  have ih := znn (s := s) (i := i) (x := x) (l := r) (b := b || wD s e.name)
  cases b <;> cases hl : wD s e.name <;> simp only [hl, Bool.or_true, Bool.or_false, Bool.true_or, Bool.false_or] at ih <;> simp [putA, z76, hl, ih] <;> split <;> omega
theorem zgt {s : List UInt8} {i x : Int} : ∀ {l : List Ent}, (l.map (·.name)).Nodup → (∃ e ∈ l, e.name = s ∧ e.ino = i) → cp (l.filter (fun e => decide (e.name ≠ s))) x + (if i = x then 1 else 0) = cp l x
 | [], _, h => by obtain ⟨e, he, _⟩ := h; cases he
 | e :: r, hn, h => by
  rw [List.map_cons, List.nodup_cons] at hn
  obtain ⟨h1, h2⟩ := hn
  by_cases hs : e.name = s
  ·have hi : e.ino = i := by
    obtain ⟨e', he', hs', hi'⟩ := h
    rcases List.mem_cons.1 he' with rfl | he'
    ·exact hi'
    ·exact absurd (List.mem_map.2 ⟨e', he', hs'.trans hs.symm⟩) h1
   rw [List.filter_cons_of_neg (by simpa using hs), z76, hi]
   have : r.filter (fun e => decide (e.name ≠ s)) = r := List.filter_eq_self.2 fun m hm => by
    simp only [decide_eq_true_eq]
    exact fun hh => h1 (List.mem_map.2 ⟨m, hm, hh.trans hs.symm⟩)
   rw [this]
  ·have ih := zgt (x := x) h2 (by
    obtain ⟨e', he', hs', hi'⟩ := h
    rcases List.mem_cons.1 he' with rfl | he'
    ·exact absurd hs' hs
    ·exact ⟨e', he', hs', hi'⟩)
   rw [List.filter_cons_of_pos (by simpa using hs), z76, z76]
   omega
structure LJ (t : List Node) (d : Int → Int) : Prop where
 srt : Srt t
 knd : ∀ n ∈ t, n.kind ≠ 0
 lnk : ∀ x, (getN t x).kind ≠ 0 → x ≠ 1 → (getN t x).links = cnt t x + d x
 has : ∀ x, cnt t x ≠ 0 → (getN t x).kind ≠ 0
 fil : ∀ x, (getN t x).kind ≠ 2 → (getN t x).names = []
 nod : ∀ x, Ord (getN t x).names
theorem z0e {t : List Node} {x : Int} (h : (getN t x).kind ≠ 0) : (getN t x).ino = x := by
 rcases jH t x with ⟨h1, _⟩ | ⟨_, h2⟩
 ·rw [h1] at h; exact absurd rfl h
 ·exact h2
theorem zoy {t : List Node} {x : Int} (h : (getN t x).kind ≠ 0) : hasN t x = true := by
 unfold hasN
 cases hf : t.find? (fun n => decide (n.ino = x)) with
 | none => unfold getN at h; rw [hf] at h; exact absurd rfl h
 | some n => rfl
theorem LJ.hasK {t : List Node} {d : Int → Int} (h : LJ t d) {x : Int} (hx : hasN t x = true) : (getN t x).kind ≠ 0 := by
 unfold hasN at hx
 unfold getN
 cases hf : t.find? (fun n => decide (n.ino = x)) with
 | none => rw [hf] at hx; cases hx
 | some n => exact h.knd n (List.mem_of_find?_eq_some hf)
theorem LJ.congr {t : List Node} {d d' : Int → Int} (h : LJ t d) (e : ∀ x, d x = d' x) : LJ t d' := (funext e : d = d') ▸ h
theorem LJ.told {t : List Node} {d : Int → Int} (h : LJ t d) {x : Int} {e : Ent} (he : e ∈ (getN t x).names) : (getN t e.ino).kind ≠ 0 := by
 refine h.has _ ?_
 rcases jH t x with ⟨h1, _⟩ | ⟨h1, _⟩
 ·rw [h1] at he; cases he
 ·have := zo1 h1 e.ino
  have := zrp he
  omega
theorem LJ.toTold {t : List Node} {d : Int → Int} (h : LJ t d) (hT : TInv t 1) : Told t :=
 ⟨zgp hT.inv.root, fun x e he => zoy (h.told he), hT.inv.ge2⟩
theorem LJ.with {t : List Node} {d d' : Int → Int} {m : Node} (h : LJ t d) (hk : m.kind ≠ 0) (hn : m.names = (getN t m.ino).names) (hf : m.kind ≠ 2 → m.names = []) (hd : ∀ x, x ≠ m.ino → d' x = d x) (hl : m.ino ≠ 1 → m.links = cnt t m.ino + d' m.ino) : LJ (qY t m) d' := by
 have hc : ∀ x, cnt (qY t m) x = cnt t x := fun x => by have := zij (n := m) (x := x) h.srt; rw [hn] at this; omega
 have hg := qX (m := m) h.srt.uniq
 refine ⟨h.srt.with, ?_, ?_, ?_, ?_, ?_⟩
 ·intro n hn'
  rcases wI.1 hn' with rfl | ⟨h1, _⟩
  ·exact hk
  ·exact h.knd n h1
 ·intro x hx n1
  rw [hg] at hx ⊢
  rw [hc]
  unfold upd at hx ⊢
  split
  ·rename_i e; subst e; exact hl n1
  ·rename_i e
   rw [if_neg e] at hx
   rw [hd x e]; exact h.lnk x hx n1
 ·intro x hx
  rw [hc] at hx
  rw [hg]
  unfold upd
  split
  ·exact hk
  ·exact h.has x hx
 ·intro x
  rw [hg]
  unfold upd
  split
  ·exact hf
  ·exact h.fil x
 ·intro x
  rw [hg]
  unfold upd
  split
  ·rw [hn]; exact h.nod _
  ·exact h.nod x
theorem LJ.names {t : List Node} {d d' : Int → Int} {d0 : Int} {l : List Ent} (h : LJ t d) (hd : (getN t d0).kind = 2) (hl : Ord l) (hc : ∀ x, (cp l x : Int) + d' x = cp (getN t d0).names x + d x) (hh : ∀ x, cp (getN t d0).names x < cp l x → (getN t x).kind ≠ 0) : LJ (qY t { getN t d0 with names := l }) d' := by
 have hi : (getN t d0).ino = d0 := jD hd
 have hct : ∀ x, cnt (qY t { getN t d0 with names := l }) x + cp (getN t d0).names x = cnt t x + cp l x := fun x => by
  have := zij (n := { getN t d0 with names := l }) (x := x) h.srt
  rw [show ({ getN t d0 with names := l } : Node).ino = d0 from hi] at this
  exact this
 have hg : ∀ x, getN (qY t { getN t d0 with names := l }) x = if x = d0 then { getN t d0 with names := l } else getN t x := fun x => by
  rw [qX h.srt.uniq]
  unfold upd
  simp only [hi]
 have hkd : ∀ x, (getN (qY t { getN t d0 with names := l }) x).kind = (getN t x).kind ∧ (getN (qY t { getN t d0 with names := l }) x).links = (getN t x).links := fun x => by
  rw [hg]
  split
  ·rename_i e; subst e; exact ⟨rfl, rfl⟩
  ·exact ⟨rfl, rfl⟩
 refine ⟨h.srt.with, ?_, ?_, ?_, ?_, ?_⟩
 ·intro n hn'
  rcases wI.1 hn' with rfl | ⟨h1, _⟩
  ·show (getN t d0).kind ≠ 0
   rw [hd]; decide
  ·exact h.knd n h1
 ·intro x hx n1
  rw [(hkd x).1] at hx
  rw [(hkd x).2, h.lnk x hx n1]
  have := hct x
  have := hc x
  omega
 ·intro x hx
  rw [(hkd x).1]
  by_cases hlt : cp (getN t d0).names x < cp l x
  ·exact hh x hlt
  ·refine h.has x ?_
   have := hct x
   have : cp (getN t d0).names x ≤ cnt t x := by
    rcases jH t d0 with ⟨h1, _⟩ | ⟨h1, _⟩
    ·rw [h1]; exact Nat.zero_le _
    ·exact zo1 h1 x
   omega
 ·intro x hx
  rw [(hkd x).1] at hx
  rw [hg]
  split
  ·rename_i e; subst e; exact absurd hd hx
  ·exact h.fil x hx
 ·intro x
  rw [hg]
  split
  ·exact hl
  ·exact h.nod x
theorem LJ.drop {t : List Node} {d : Int → Int} {d0 i : Int} {s : List UInt8} (h : LJ t d) (hd : (getN t d0).kind = 2) (he : ∃ e ∈ (getN t d0).names, e.name = s ∧ e.ino = i) : LJ (zU t d0 s) (fun x => d x + if i = x then 1 else 0) := by
 unfold zU
 refine h.names hd ?_ ?_ ?_
 ·exact (h.nod d0).filter
 ·intro x
  have := zgt (x := x) (h.nod d0).nodup he
  split <;> rename_i e <;> simp only [e, if_true, if_false] at this <;> omega
 ·intro x hx
  have := zgt (x := x) (h.nod d0).nodup he
  omega
theorem LJ.put {t : List Node} {d : Int → Int} {d0 i : Int} {s : List UInt8} (h : LJ t d) (hd : (getN t d0).kind = 2) (hs : ∀ e ∈ (getN t d0).names, e.name ≠ s) (hi : (getN t i).kind ≠ 0) : LJ (putN t d0 s i) (fun x => d x - if i = x then 1 else 0) := by
 unfold putN
 refine h.names hd ((h.nod d0).put hs) ?_ ?_
 ·intro x
  rw [znn]
  by_cases e : i = x <;> simp [e]
  omega
 ·intro x hx
  rw [znn] at hx
  by_cases e : i = x
  ·rw [← e]; exact hi
  ·simp [e] at hx
theorem LJ.loses {t : List Node} {d : Int → Int} {i : Int} (h : LJ t d) (hk : (getN t i).kind ≠ 0) (hn : (getN t i).names = []) (h1 : i ≠ 1) (hd : d i = 1) : LJ (kO t i) (fun x => if x = i then 0 else d x) := by
 have hi := z0e hk
 have hl := h.lnk i hk h1
 unfold kO
 split
 ·rename_i hlt
  have hc : ∀ x, cnt (t.filter (fun n => n.ino ≠ i)) x = cnt t x := fun x => by have := z7c (i := i) (x := x) h.srt; rw [hn, znh] at this; exact this
  have hg := z1m (i := i) h.srt.uniq
  refine ⟨h.srt.filter, fun n hn => h.knd n (List.mem_filter.1 hn).1, ?_, ?_, ?_, ?_⟩
  ·intro x hx n1
   rw [hg] at hx ⊢
   unfold del at hx ⊢
   split
   ·rename_i e; rw [if_pos e] at hx; exact absurd rfl hx
   ·rename_i e
    rw [if_neg e] at hx
    rw [hc]
    exact h.lnk x hx n1
  ·intro x hx
   rw [hc] at hx
   rw [hg]
   unfold del
   split
   ·rename_i e; subst e; omega
   ·exact h.has x hx
  ·intro x
   rw [hg]
   unfold del
   split
   ·exact fun _ => rfl
   ·exact h.fil x
  ·intro x
   rw [hg]
   unfold del
   split
   ·simp [zM, Ord]
   ·exact h.nod x
 ·refine h.with hk ?_ (fun _ => hn) ?_ ?_
  ·show (getN t i).names = (getN t (getN t i).ino).names
   rw [hi]
  ·intro x hx
   have hx : x ≠ (getN t i).ino := hx
   rw [hi] at hx
   exact if_neg hx
  ·intro _
   show (getN t i).links - 1 = _
   have e : (({ getN t i with links := (getN t i).links - 1 } : Node).ino) = i := hi
   rw [e, if_pos rfl]
   omega
theorem LJ.new : LJ newN (fun _ => 0) := by
 have hc : ∀ x, cnt newN x = 0 := fun x => rfl
 refine ⟨by simp [Srt, newN], ?_, ?_, ?_, ?_, ?_⟩
 ·intro n hn
  simp only [newN, List.mem_singleton] at hn
  subst hn
  decide
 ·intro x hx n1
  rw [z6a, if_neg n1] at hx
  exact absurd rfl hx
 ·intro x hx; exact absurd (hc x) hx
 ·intro x _; rw [z6a]; split <;> rfl
 ·intro x; rw [z6a]; split <;> simp [zM, Ord]
theorem LJ.make {t : List Node} {o : Opn} (h : LJ t (fun _ => 0)) (hT : TInv t 1) : LJ (z3j t o).1 (fun _ => 0) := by
 unfold z3j
 split
 ·exact h
 ·rename_i h1
  split
  ·exact h
  ·rename_i h2
   have hd := jM (t := t) (s := o.a) (by simpa using h1)
   obtain ⟨hn1, hn2, _⟩ := z0g t
   have hz : getN t (jE t) = zM := z1s hn1
   have hnd : (zQ t o.a).1 ≠ jE t := fun hh => by rw [hh, hz] at hd; simp [zM] at hd
   have hfresh := z0h (hT.inv.ge2 (zQ t o.a).1) (Int.not_le.1 h2)
   have hi : (qM t o).ino = jE t := by unfold qM; split <;> rfl
   have hns : (qM t o).names = [] := by unfold qM; split <;> rfl
   have hlk : (qM t o).links = 1 := by unfold qM; split <;> rfl
   have hkd : (qM t o).kind ≠ 0 := by unfold qM; split <;> simp
   have hc : cnt t (jE t) = 0 := Classical.byContradiction fun hh => h.has _ hh (by rw [hz]; rfl)
   have hgd : getN (qY t (qM t o)) (zQ t o.a).1 = getN t (zQ t o.a).1 := by
    rw [qX h.srt.uniq]
    unfold upd
    rw [hi, if_neg hnd]
   have h3 : LJ (qY t (qM t o)) (fun x => if jE t = x then 1 else 0) := h.with hkd (by rw [hns, hi, hz]; rfl) (fun _ => hns)
    (fun x hx => by rw [hi] at hx; exact if_neg fun hh => hx hh.symm) (fun _ => by rw [hlk, hi, hc, if_pos rfl]; rfl)
   have h4 := h3.put (d0 := (zQ t o.a).1) (s := (zQ t o.a).2.1) (i := jE t) (by rw [hgd]; exact hd) (by rw [hgd]; exact hfresh) (by
    rw [qX h.srt.uniq]
    unfold upd
    rw [hi, if_pos rfl]
    exact hkd)
   exact h4.congr fun x => by simp
theorem vJ {t : List Node} (hT : Told t) {s : List UInt8} (h : (zN t s).2 = 0) : hasN t (zN t s).1 = true := by
 unfold zN at h ⊢
 split at h
 ·rename_i h1; exact absurd h h1
 ·rename_i h1
  rw [if_neg h1]
  exact zsr hT _ _ hT.root h
theorem LJ.link {t : List Node} {o : Opn} (h : LJ t (fun _ => 0)) (hT : TInv t 1) : LJ (z3v t o).1 (fun _ => 0) := by
 unfold z3v
 split
 ·exact h
 ·rename_i h1
  split
  ·exact h
  ·rename_i h2
   split
   ·exact h
   ·rename_i h3
    split
    ·exact h
    ·rename_i h4
     have hd := jM (t := t) (s := o.b) (by simpa using h3)
     have hfresh := z0h (hT.inv.ge2 (zQ t o.b).1) (Int.not_le.1 h4)
     have hk := h.hasK (vJ (h.toTold hT) (s := o.a) (by simpa using h1))
     generalize (zN t o.a).1 = r at *
     have hr := z0e hk
     have hne : (zQ t o.b).1 ≠ r := fun hh => by rw [hh] at hd; exact h2 hd
     have hmi : (more (getN t r)).ino = r := hr
     have hgd : getN (qY t (more (getN t r))) (zQ t o.b).1 = getN t (zQ t o.b).1 := by
      rw [qX h.srt.uniq]
      unfold upd
      rw [hmi, if_neg hne]
     have h5 : LJ (qY t (more (getN t r))) (fun x => if r = x then 1 else 0) := h.with hk (by rw [hmi]; rfl) (fun _ => h.fil r h2)
      (fun x hx => by rw [hmi] at hx; exact if_neg fun hh => hx hh.symm) (fun n1 => by
       rw [hmi] at n1 ⊢
       rw [if_pos rfl]
       show (getN t r).links + 1 = _
       rw [h.lnk r hk n1]; omega)
     have h6 := h5.put (d0 := (zQ t o.b).1) (s := (zQ t o.b).2.1) (i := r) (by rw [hgd]; exact hd) (by rw [hgd]; exact hfresh) (by
      rw [qX h.srt.uniq]
      unfold upd
      rw [hmi, if_pos rfl]
      exact hk)
     exact h6.congr fun x => by simp
theorem LJ.bytes {t : List Node} {o : Opn} (h : LJ t (fun _ => 0)) (hT : TInv t 1) : LJ (vG t o).1 (fun _ => 0) := by
 unfold vG
 split
 ·exact h
 ·rename_i h1
  have hk := h.hasK (vJ (h.toTold hT) (s := o.a) (by simpa using h1))
  generalize (zN t o.a).1 = r at *
  have hr := z0e hk
  have go : ∀ m : Node, m.ino = (getN t r).ino → m.kind = (getN t r).kind → m.links = (getN t r).links → m.names = (getN t r).names → LJ (qY t m) (fun _ => 0) := fun m e1 e2 e3 e4 =>
   h.with (by rw [e2]; exact hk) (by rw [e4, e1, hr]) (fun h2 => by rw [e4]; exact h.fil r (by rw [← e2]; exact h2)) (fun _ _ => rfl) (fun n1 => by
    rw [e1, hr] at n1 ⊢
    rw [e3]; exact h.lnk r hk n1)
  unfold z4v
  repeat' split
  all_goals first | exact h | exact go _ rfl rfl rfl rfl
theorem LJ.remove {t : List Node} {o : Opn} (h : LJ t (fun _ => 0)) (hT : TInv t 1) (hdo : o.does = 4 ∨ o.does = 5) : LJ (vF t o).1 (fun _ => 0) := by
 unfold vF
 split
 ·exact h
 ·rename_i h1
  split
  ·exact h
  ·rename_i h2
   have hd := jM (t := t) (s := o.a) (by simpa using h1)
   generalize zQ t o.a = w at *
   obtain ⟨e0, he0, hs0, hi0⟩ := wW (l := (getN t w.1).names) (s := w.2.1) (by omega)
   have hge : 2 ≤ qV (getN t w.1).names w.2.1 := by rw [← hi0]; exact hT.inv.ge2 _ e0 he0
   have hk0 : (getN t (qV (getN t w.1).names w.2.1)).kind ≠ 0 := by rw [← hi0]; exact h.told he0
   generalize qV (getN t w.1).names w.2.1 = ino at *
   split
   ·exact h
   ·rename_i h3
    split
    ·exact h
    ·rename_i h4
     split
     ·exact h
     ·rename_i h5
      have hn : (getN t ino).names = [] := by
       rcases hdo with d4 | d5
       ·exact h.fil _ fun hh => h3 ⟨d4, hh⟩
       ·have : ¬ 0 < (getN t ino).names.length := fun hh => h5 ⟨d5, hh⟩
        exact List.length_eq_zero_iff.1 (by omega)
      have hne : ino ≠ w.1 := fun hh => by rw [← hh, hn] at he0; cases he0
      have hgi : getN (zU t w.1 w.2.1) ino = getN t ino := by rw [vU h.srt.uniq hd, if_neg hne]
      have hD := h.drop (i := ino) (s := w.2.1) hd ⟨e0, he0, hs0, hi0⟩
      have hL := hD.loses (i := ino) (by rw [hgi]; exact hk0) (by rw [hgi]; exact hn) (by omega) (by simp)
      exact hL.congr fun x => by
       by_cases e : x = ino
       ·simp [e]
       ·have : ¬ ino = x := fun hh => e hh.symm
        simp [e, this]
theorem LJ.rename {t : List Node} {o : Opn} (h : LJ t (fun _ => 0)) (hT : TInv t 1) : LJ (wY t o).1 (fun _ => 0) := by
 unfold wY
 split
 ·exact h
 ·rename_i h1
  split
  ·exact h
  ·rename_i h2
   split
   ·exact h
   ·rename_i h3
    have hf := jM (t := t) (s := o.a) (by simpa using h1)
    have hd := jM (t := t) (s := o.b) (by simpa using h3)
    generalize zQ t o.a = w at *
    generalize zQ t o.b = v at *
    obtain ⟨f, old, _⟩ := w
    obtain ⟨d, s, _⟩ := v
    simp only at *
    obtain ⟨e0, he0, hs0, hi0⟩ := wW (l := (getN t f).names) (s := old) (by omega)
    have hk0 : (getN t (qV (getN t f).names old)).kind ≠ 0 := by rw [← hi0]; exact h.told he0
    have hwas : ∀ e ∈ (getN t f).names, e.name = old → e.ino = qV (getN t f).names old := fun e he hs => by
     rw [← hi0]; exact hT.inv.un _ e he e0 he0 (hs.trans hs0.symm)
    generalize qV (getN t f).names old = ino at *
    unfold z3e
    split
    ·exact h
    ·rename_i h4
     split
     ·exact h
     ·split
      ·exact h
      ·rename_i h6
       split
       ·exact h
       ·rename_i h7
        unfold renamed
        have main : ∀ u : List Node, LJ u (fun _ => 0) → (getN u f).kind = 2 → (getN u d).kind = 2 → (∃ e ∈ (getN u f).names, e.name = old ∧ e.ino = ino) → (∀ e ∈ (getN u d).names, e.name ≠ s) → (getN u ino).kind ≠ 0 → (getN u ino).kind = (getN t ino).kind → LJ (if (getN t ino).kind = 2 then qY (putN (zU u f old) d s ino) (moved (getN (putN (zU u f old) d s ino) ino) d) else putN (zU u f old) d s ino) (fun _ => 0) := fun u hu kf kd nf nd ki kt => by
         have hD := hu.drop (i := ino) (s := old) kf nf
         have hP := (hD.put (d0 := d) (s := s) (i := ino) (by rw [(qR hu.srt.uniq kf).1]; exact kd) (fun e he => nd e ((z1f hu.srt.uniq kf) e he).1) (by rw [(qR hu.srt.uniq kf).1]; exact ki)).congr (d' := fun _ => 0) (fun x => by omega)
         split
         ·rename_i hk
          have hki : (getN (putN (zU u f old) d s ino) ino).kind = 2 := by
           rw [(z8p hD.srt.uniq (by rw [(qR hu.srt.uniq kf).1]; exact kd)).1, (qR hu.srt.uniq kf).1, kt]; exact hk
          generalize putN (zU u f old) d s ino = p at *
          have hin : (moved (getN p ino) d).ino = ino := jD hki
          refine hP.with (by show (getN p ino).kind ≠ 0; rw [hki]; decide) (by rw [hin]; rfl) (fun hh => absurd hki hh) (fun _ _ => rfl) (fun n1 => ?_)
          rw [hin] at n1 ⊢
          exact hP.lnk ino (by rw [hki]; decide) n1
         ·exact hP
        by_cases hw : 0 ≤ qV (getN t d).names s
        ·simp only [if_pos hw]
         have hkw : (getN t (qV (getN t d).names s)).kind ≠ 2 := fun hh => h7 ⟨hw, hh⟩
         obtain ⟨e1, he1, hs1, hi1⟩ := wW hw
         have hk1 : (getN t (qV (getN t d).names s)).kind ≠ 0 := by rw [← hi1]; exact h.told he1
         have hg1 : 2 ≤ qV (getN t d).names s := by rw [← hi1]; exact hT.inv.ge2 _ e1 he1
         generalize qV (getN t d).names s = was at *
         have hnf : f ≠ was := fun hh => by rw [hh] at hf; exact hkw hf
         have hnd : d ≠ was := fun hh => by rw [hh] at hd; exact hkw hd
         have hni : ino ≠ was := fun hh => h4 hh.symm
         have hgw : getN (zU t d s) was = getN t was := by rw [vU h.srt.uniq hd, if_neg (fun hh => hnd hh.symm)]
         have hD := h.drop (i := was) (s := s) hd ⟨e1, he1, hs1, hi1⟩
         have hL := (hD.loses (i := was) (by rw [hgw]; exact hk1) (by rw [hgw]; exact h.fil _ hkw) (by omega) (by simp)).congr (d' := fun _ => 0) (fun x => by
          by_cases e : x = was
          ·simp [e]
          ·have : ¬ was = x := fun hh => e hh.symm
           simp [e, this])
         have hgl : ∀ y, y ≠ was → getN (kO (zU t d s) was) y = getN (zU t d s) y := fun y hy => z04 hD.srt.uniq hy
         refine main _ hL ?_ ?_ ?_ ?_ ?_ ?_
         ·rw [hgl f hnf, (qR h.srt.uniq hd).1]; exact hf
         ·rw [hgl d hnd, (qR h.srt.uniq hd).1]; exact hd
         ·rw [hgl f hnf, vU h.srt.uniq hd]
          split
          ·rename_i hfd
           subst hfd
           refine ⟨e0, List.mem_filter.2 ⟨he0, ?_⟩, hs0, hi0⟩
           rw [decide_eq_true_eq]
           intro hh
           have := hT.inv.un _ e0 he0 e1 he1 (hh.trans hs1.symm)
           exact hni (hi0.symm.trans (this.trans hi1))
          ·exact ⟨e0, he0, hs0, hi0⟩
         ·rw [hgl d hnd]; exact fun e he => ((z1f h.srt.uniq hd) e he).2 rfl
         ·rw [hgl ino hni, (qR h.srt.uniq hd).1]; exact hk0
         ·rw [hgl ino hni, (qR h.srt.uniq hd).1]
        ·simp only [if_neg hw]
         exact main t h hf hd ⟨e0, he0, hs0, hi0⟩ (z0h (hT.inv.ge2 d) (Int.not_le.1 hw)) hk0 rfl
theorem LJ.step {t : List Node} {o : Opn} (h : LJ t (fun _ => 0)) (hT : TInv t 1) : LJ (jL t o).1 (fun _ => 0) := by
 unfold jL
 split
 ·exact h
 ·rename_i hm
  have := of_decide_eq_true ((Bool.not_eq_false _).mp hm)
  repeat' split
  ·exact h.make hT
  ·exact h.link hT
  ·exact h.remove hT (by omega)
  ·exact h.rename hT
  ·exact h.bytes hT
  ·exact h
  ·exact h
end Go.Proofs.Ytghllhghboaagaa
end
section
namespace Go.Vm
open Go.ChangeShapes Go.RowKit
inductive Ty where
 | bool
 | int (k : IntKind)
 | str
 | sl (e : Ty)
 | agg (fs : List Ty)
 deriving Inhabited
def Ty.isAgg : Ty → Bool | .agg _ => true | _ => false
def Ty.cells : Ty → List Ty | .agg fs => fs | .bool => [.bool] | .int k => [.int k] | .str => [.str] | .sl e => [.sl e]
def z1t (P : Program) (g : TypeId → Option Ty) : List Field → Nat → Option (List Ty)
 | [], _ => some []
 | f :: r, off => match g f.type with
  | some x => if f.offset = off ∧ P.cellsOf f.type = x.cells.length then match z1t P g r (off + x.cells.length) with
   | some l => some (x.cells ++ l)
   | none => none
   else none
  | none => none
def ofType (P : Program) : Nat → TypeId → Option Ty
 | 0, _ => none
 | n + 1, t => match P.underlying t with
  | some .bool => some .bool
  | some (.int k) => some (.int k)
  | some .string => some .str
  | some (.slice e) => match ofType P n e with
   | some x => if P.cellsOf e = x.cells.length ∧ x.cells.length ≠ 0 then some (.sl x) else none
   | none => none
  | some (.struct fs) => match z1t P (ofType P n) fs.toList 0 with
   | some l => if P.cellsOf t = l.length then some (.agg l) else none
   | none => none
  | some (.array m e) => match ofType P n e with
   | some x => if P.cellsOf e = x.cells.length ∧ P.cellsOf t = m * x.cells.length then some (.agg (List.replicate m x.cells).flatten) else none
   | none => none
  | _ => none
mutual
def HasTy : Ty → D → Prop
 | .bool, x => ∃ b, x = .bool b
 | .int k, x => ∃ n, x = .int k n ∧ k.min ≤ n ∧ n ≤ k.max
 | .str, x => ∃ s, x = .str s ∧ s.length ≤ maxLen
 | .sl e, x => ∃ xs, x = .sl xs ∧ xs.length ≤ maxLen ∧ ∀ y ∈ xs, HasTy e y
 | .agg fs, x => ∃ xs, x = .agg xs ∧ HasL fs xs
def HasL : List Ty → List D → Prop
 | [], xs => xs = []
 | t :: ts, xs => ∃ y r, xs = y :: r ∧ HasTy t y ∧ HasL ts r
end
theorem zfk {t : Ty} {x : D} (h : HasTy t x) : x.isAgg = t.isAgg := by
 cases t <;> simp only [HasTy] at h <;> obtain ⟨_, rfl, _⟩ := h <;> rfl
theorem z5b : ∀ {ts us : List Ty} {xs ys : List D}, HasL ts xs → HasL us ys → HasL (ts ++ us) (xs ++ ys)
 | [], us, xs, ys, h, h' => by simp only [HasL] at h; subst h; exact h'
 | t :: ts, us, xs, ys, h, h' => by
  simp only [HasL] at h
  obtain ⟨y, r, rfl, h1, h2⟩ := h
  simp only [List.cons_append, HasL]
  exact ⟨y, r ++ ys, rfl, h1, z5b h2 h'⟩
theorem z9j {t : Ty} {x : D} (h : HasTy t x) : HasL t.cells x.cells := by
 cases t with
 | agg fs => simp only [HasTy] at h; obtain ⟨xs, rfl, h⟩ := h; exact h
 | _ =>
  have h' := h
  simp only [HasTy] at h
  obtain ⟨_, rfl, _⟩ := h
  simp only [Ty.cells, D.cells, HasL]
  exact ⟨_, [], rfl, h', rfl⟩
section
variable {P : Program} {H : Type} {enc : TypeId × Value → H} {w : World}
theorem zb2 {α β : Type} {f : α → Option β} {x : α} {r : List α} {ys : List β} (h : (x :: r).mapM f = some ys) : ∃ y zs, f x = some y ∧ r.mapM f = some zs ∧ ys = y :: zs := by
 rw [List.mapM_cons] at h
 cases h1 : f x with
 | none => simp [h1] at h
 | some y =>
  cases h2 : r.mapM f with
  | none => simp [h1, h2] at h
  | some zs => simp [h1, h2] at h; exact ⟨y, zs, rfl, rfl, h.symm⟩
theorem zd9 {α β : Type} {f : α → Option β} {ys : List β} (h : ([] : List α).mapM f = some ys) : ys = [] := by simpa using h.symm
theorem cells?_spec {base : Nat} {a : Addr} {n : Nat} {us : List Value} (h : w.cells? base a n = some us) : us.length = n ∧ ∀ j v, us[j]? = some v → w.cell? (a.add j) = some v := by
 unfold World.cells? at h
 split at h
 ·have key : ∀ (m s : Nat) (us : List Value), (List.range' s m).mapM (fun i => w.cell? (a.add i)) = some us → us.length = m ∧ ∀ j v, us[j]? = some v → w.cell? (a.add (s + j)) = some v := by
   intro m
   induction m with
   | zero => intro s us h; have := zd9 h; subst this; exact ⟨rfl, fun j v h => by simp at h⟩
   | succ m ih =>
    intro s us h
    rw [List.range'_succ] at h
    obtain ⟨y, zs, h1, h2, rfl⟩ := zb2 h
    obtain ⟨g1, g2⟩ := ih (s + 1) zs h2
    refine ⟨by simp [g1], fun j v hj => ?_⟩
    cases j with
    | zero => simp at hj; subst hj; exact h1
    | succ j => simp at hj; have := g2 j v hj; rw [show s + (j + 1) = s + 1 + j by omega]; exact this
  rw [List.range_eq_range'] at h
  obtain ⟨g1, g2⟩ := key n 0 us h
  exact ⟨g1, fun j v hj => by simpa using g2 j v hj⟩
 ·cases h
theorem zjh {a : Addr} {us : List Value} (hne : us ≠ []) (h : ∀ j v, us[j]? = some v → w.cell? (a.add j) = some v) : a.spot = none ∧ a.block < w.heap.size ∧ CellsAt w a.block a.off us := by
 have h0 : ∃ v, us[0]? = some v := by cases us with | nil => exact absurd rfl hne | cons x r => exact ⟨x, rfl⟩
 obtain ⟨v, hv⟩ := h0
 have := h 0 v hv
 rw [Addr.add_zero'] at this
 unfold World.cell? at this
 cases hb : w.heap[a.block]? with
 | none => simp [hb] at this
 | some o =>
  cases o with
  | cells c e f =>
   simp only [hb] at this
   split at this
   ·cases this
   ·rename_i hs
    refine ⟨by simpa using hs, wB hb, c, e, f, hb, fun j v hj => ?_⟩
    have := h j v hj
    unfold World.cell? at this
    have hbl : (a.add j).block = a.block := by unfold Addr.add; split <;> rfl
    have hoff : (a.add j).off = a.off + j := by unfold Addr.add; split <;> simp_all
    simp only [hbl, hb] at this
    split at this
    ·cases this
    ·rw [hoff] at this; exact this
  | _ => simp [hb] at this
theorem zdu (a : Addr) (m n : Nat) : (a.add m).add n = a.add (m + n) := by
 unfold Addr.add
 by_cases h : m = 0 <;> by_cases h' : n = 0 <;> simp [h, h', Nat.add_assoc]
abbrev Old (w : World) (b : Nat) : Prop := b < w.heap.size
theorem z3m {A : Nat → Prop} : ∀ {xs ys : List D} {us vs : List Value}, RepL A w xs us → RepL A w ys vs → RepL A w (xs ++ ys) (us ++ vs)
 | [], ys, us, vs, h, h' => by simp only [RepL] at h; subst h; exact h'
 | x :: r, ys, us, vs, h, h' => by
  simp only [RepL] at h
  obtain ⟨v, us', rfl, h1, h2, h3⟩ := h
  simp only [List.cons_append, RepL]
  exact ⟨v, us' ++ vs, rfl, h1, h2, z3m h3 h'⟩
theorem zbn {base : Nat} {spare : Nat → Bool} {held : Bool} {g : TypeId → Option Ty} {cs : List Value} {fu : Nat} (ih : ∀ {t : TypeId} {cs : List Value} {z : DataW H × List MemPlace} {T : Ty}, DataW.trod enc P w base spare held fu t cs = some z → g t = some T → ∃ x, HasTy T x ∧ RepC (Old w) w x cs) :
  ∀ {l : List Field} {off : Nat} {ts : List Ty}, z1t P g l off = some ts → (∀ f ∈ l, ∃ z, DataW.trod enc P w base spare held fu f.type ((cs.drop f.offset).take (P.cellsOf f.type)) = some z) → ∃ xs, HasL ts xs ∧ RepL (Old w) w xs ((cs.drop off).take ts.length)
 | [], off, ts, h, _ => by
  simp only [z1t, Option.some.injEq] at h; subst h
  exact ⟨[], rfl, by simp [RepL]⟩
 | f :: r, off, ts, h, hz => by
  simp only [z1t] at h
  cases hg : g f.type with
  | none => simp [hg] at h
  | some T =>
   simp only [hg] at h
   split at h
   ·rename_i hc
    obtain ⟨rfl, hc2⟩ := hc
    cases hr : z1t P g r (f.offset + T.cells.length) with
    | none => simp [hr] at h
    | some l =>
     simp only [hr, Option.some.injEq] at h; subst h
     obtain ⟨z, hz1⟩ := hz f (by simp)
     obtain ⟨x, hx, hrx⟩ := ih hz1 hg
     obtain ⟨xs, h1, h2⟩ := zbn ih hr (fun f' hf' => hz f' (by simp [hf']))
     refine ⟨x.cells ++ xs, z5b (z9j hx) h1, ?_⟩
     have e : (cs.drop f.offset).take (T.cells ++ l).length = (cs.drop f.offset).take (P.cellsOf f.type) ++ (cs.drop (f.offset + T.cells.length)).take l.length := by
      rw [List.length_append, List.take_add, hc2, List.drop_drop]
     rw [e]
     exact z3m (vK hrx) h2
   ·cases h
theorem zor {base : Nat} {spare : Nat → Bool} {held : Bool} : ∀ (n : Nat) (fuel : Nat) {t : TypeId} {cs : List Value} {z : DataW H × List MemPlace} {T : Ty}, DataW.trod enc P w base spare held fuel t cs = some z → ofType P n t = some T → ∃ x, HasTy T x ∧ RepC (Old w) w x cs := by
 intro n
 induction n with
 | zero => intro fuel t cs z T h hT; simp [ofType] at hT
 | succ n ih =>
  intro fuel t cs z T h hT
  simp only [ofType] at hT
  cases hu : P.underlying t with
  | none => simp [hu] at hT
  | some td =>
   simp only [hu] at hT
   cases td with
   | bool =>
    simp only [Option.some.injEq] at hT; subst hT
    obtain ⟨b, rfl, _⟩ := DataW.trod_bool hu h
    exact ⟨.bool b, ⟨b, rfl⟩, by simp [RepC]⟩
   | int k =>
    simp only [Option.some.injEq] at hT; subst hT
    obtain ⟨m, rfl, _, hwf⟩ := DataW.trod_int hu h
    exact ⟨.int k m, ⟨m, rfl, by simpa [Lit.wf] using hwf⟩, by simp [RepC]⟩
   | string =>
    simp only [Option.some.injEq] at hT; subst hT
    obtain ⟨s, rfl, _, hl⟩ := DataW.trod_string hu h
    exact ⟨.str s.data.toList, ⟨_, rfl, hl⟩, by simp [RepC]⟩
   | slice e =>
    simp only at hT
    cases he : ofType P n e with
    | none => simp [he] at hT
    | some E =>
     simp only [he] at hT
     split at hT
     ·rename_i hc
      obtain ⟨hc, hne⟩ := hc
      simp only [Option.some.injEq] at hT; subst hT
      rcases Go.Deep.open_slice hu h with ⟨rfl, _⟩ | ⟨a, len, cap, m, fu, D0, Pl, rfl, _, hle, hcap, hm, _, hel⟩
      ·refine ⟨.sl [], ⟨[], rfl, by simp, by simp⟩, ?_⟩
       simp only [RepC]
       exact ⟨none, 0, rfl, Nat.le_refl _, .inl trivial⟩
      ·have hlm : len ≤ m := by rw [hm]; split <;> omega
       rw [hc] at hel
       have key : ∀ (l s : Nat), s + l ≤ m → ∃ xs us, xs.length = l ∧ us.length = l * E.cells.length ∧ (∀ y ∈ xs, HasTy E y) ∧ RepE (Old w) w E.cells.length xs us ∧ ∀ j v, us[j]? = some v → w.cell? (a.add (s * E.cells.length + j)) = some v := by
        intro l
        induction l with
        | zero => intro s _; exact ⟨[], [], rfl, by simp, by simp, by simp [RepE], fun j v h => by simp at h⟩
        | succ l ihl =>
         intro s hs
         obtain ⟨cs', g1, g2⟩ := hel s (by omega)
         obtain ⟨x, hx, hr⟩ := ih fu g2 he
         obtain ⟨k1, k2⟩ := cells?_spec g1
         obtain ⟨xs, us, f1, f2, f3, f4, f5⟩ := ihl (s + 1) (by omega)
         refine ⟨x :: xs, cs' ++ us, by simp [f1], by simp [k1, f2, Nat.succ_mul]; omega, fun y hy => ?_, ?_, fun j v hj => ?_⟩
         ·rcases List.mem_cons.1 hy with rfl | hy
          ·exact hx
          ·exact f3 y hy
         ·simp only [RepE]
          exact ⟨cs', us, rfl, k1, hr, f4⟩
         ·rw [List.getElem?_append] at hj
          split at hj
          ·have := k2 j v hj
           rwa [zdu] at this
          ·rename_i hlt
           have := f5 _ v hj
           rw [show s * E.cells.length + j = (s + 1) * E.cells.length + (j - cs'.length) by rw [Nat.succ_mul]; omega]
           exact this
       obtain ⟨xs, us, f1, f2, f3, f4, f5⟩ := key len 0 (by omega)
       refine ⟨.sl xs, ⟨xs, rfl, by omega, f3⟩, ?_⟩
       simp only [RepC]
       refine ⟨some a, cap, by rw [f1], by omega, ?_⟩
       by_cases h0 : xs = []
       ·exact .inl h0
       ·right
        have hne' : us ≠ [] := by
         intro hn
         rw [hn] at f2
         simp only [List.length_nil] at f2
         have : len ≠ 0 := by
          intro h00; rw [h00] at f1; exact h0 (List.length_eq_zero_iff.1 f1)
         have := Nat.mul_ne_zero this hne
         omega
        obtain ⟨c1, c2, c3⟩ := zjh hne' (fun j v hj => by simpa using f5 j v hj)
        exact ⟨a, _, us, rfl, c1, c2, c3, f4⟩
     ·cases hT
   | struct fs =>
    simp only at hT
    cases hf : z1t P (ofType P n) fs.toList 0 with
    | none => simp [hf] at hT
    | some l =>
     simp only [hf] at hT
     split at hT
     ·rename_i hc
      simp only [Option.some.injEq] at hT; subst hT
      obtain ⟨xs, fu, _, _, hl, hxl, hel⟩ := DataW.trod_struct hu h
      obtain ⟨ys, h1, h2⟩ := zbn (fun a b => ih fu a b) hf (fun f hf' => by
       obtain ⟨i, hi⟩ := List.getElem?_of_mem hf'
       have hi' : fs[i]? = some f := by simpa using hi
       have := hel i f hi'
       have hlt : i < xs.length := by
        rw [hxl]
        rcases Nat.lt_or_ge i fs.size with h' | h'
        ·exact h'
        ·simp [h'] at hi'
       exact ⟨xs[i], by rw [this]; simp [hlt]⟩)
      refine ⟨.agg ys, ⟨ys, rfl, h1⟩, ?_⟩
      simp only [RepC]
      rw [List.drop_zero, List.take_of_length_le (by omega)] at h2
      exact h2
     ·cases hT
   | array m e =>
    simp only at hT
    cases he : ofType P n e with
    | none => simp [he] at hT
    | some E =>
     simp only [he] at hT
     split at hT
     ·rename_i hc
      obtain ⟨hc, hc2⟩ := hc
      simp only [Option.some.injEq] at hT; subst hT
      obtain ⟨xs, fu, _, _, hl, hxl, hel⟩ := DataW.trod_array hu h
      rw [hc] at hel
      have key : ∀ (l s : Nat), s + l ≤ m → ∃ ys, HasL (List.replicate l E.cells).flatten ys ∧ RepL (Old w) w ys ((cs.drop (s * E.cells.length)).take (l * E.cells.length)) := by
       intro l
       induction l with
       | zero => intro s _; exact ⟨[], by simp [HasL], by simp [RepL]⟩
       | succ l ihl =>
        intro s hs
        have hlt : s < xs.length := by omega
        have h0 := hel s (by omega)
        rw [List.getElem?_eq_getElem hlt] at h0
        obtain ⟨x, hx, hr⟩ := ih fu h0 he
        obtain ⟨ys, f1, f2⟩ := ihl (s + 1) (by omega)
        refine ⟨x.cells ++ ys, by rw [List.replicate_succ, List.flatten_cons]; exact z5b (z9j hx) f1, ?_⟩
        have e : (cs.drop (s * E.cells.length)).take ((l + 1) * E.cells.length) = (cs.drop (s * E.cells.length)).take E.cells.length ++ (cs.drop ((s + 1) * E.cells.length)).take (l * E.cells.length) := by
         rw [Nat.succ_mul, Nat.add_comm (l * _), List.take_add, List.drop_drop, Nat.succ_mul]
        rw [e]
        exact z3m (vK hr) f2
      obtain ⟨ys, f1, f2⟩ := key m 0 (by omega)
      refine ⟨.agg ys, ⟨ys, rfl, f1⟩, ?_⟩
      simp only [RepC]
      rw [Nat.zero_mul, List.drop_zero, List.take_of_length_le (by omega)] at f2
      exact f2
     ·cases hT
   | _ => simp at hT
def zlw (P : Program) (n : Nat) : List TypeId → Option (List Ty) := allO (ofType P n)
theorem zkk {r : Reach} {base : Nat} {t : TypeId} {v : Value} {n : Nat} {T : Ty} (hT : ofType P n t = some T) (hok : Value.okWide P w r base t v) : (T.isAgg = true ∧ ∃ us, v = .agg us) ∨ (T.isAgg = false ∧ v.cells = #[v]) := by
 cases n with
 | zero => simp [ofType] at hT
 | succ n =>
  simp only [ofType] at hT
  unfold Value.okWide at hok
  cases hu : P.underlying t with
  | none => simp [hu] at hT
  | some td =>
   simp only [hu] at hT hok
   cases td with
   | bool =>
    simp only [Option.some.injEq] at hT; subst hT
    refine .inr ⟨rfl, ?_⟩
    simp only [Cell.okWide, hu] at hok
    cases v <;> simp_all [Cell.ok, Value.cells]
   | int k =>
    simp only [Option.some.injEq] at hT; subst hT
    refine .inr ⟨rfl, ?_⟩
    simp only [Cell.okWide, hu] at hok
    cases v <;> simp_all [Cell.ok, Value.cells]
   | string =>
    simp only [Option.some.injEq] at hT; subst hT
    refine .inr ⟨rfl, ?_⟩
    simp only [Cell.okWide, hu] at hok
    cases v <;> simp_all [Cell.ok, Value.cells]
   | slice e =>
    simp only at hT
    cases he : ofType P n e with
    | none => simp [he] at hT
    | some E =>
     simp only [he] at hT
     split at hT
     ·simp only [Option.some.injEq] at hT; subst hT
      refine .inr ⟨rfl, ?_⟩
      simp only [Cell.okWide, hu] at hok
      cases v <;> simp_all [Cell.ok, Value.cells]
     ·cases hT
   | struct fs =>
    simp only at hT
    cases hf : z1t P (ofType P n) fs.toList 0 with
    | none => simp [hf] at hT
    | some l =>
     simp only [hf] at hT
     split at hT
     ·simp only [Option.some.injEq] at hT; subst hT
      obtain ⟨cs, h, _⟩ := hok
      exact .inl ⟨rfl, cs, h⟩
     ·cases hT
   | array m e =>
    simp only at hT
    cases he : ofType P n e with
    | none => simp [he] at hT
    | some E =>
     simp only [he] at hT
     split at hT
     ·simp only [Option.some.injEq] at hT; subst hT
      obtain ⟨cs, h, _⟩ := hok
      exact .inl ⟨rfl, cs, h⟩
     ·cases hT
   | _ => simp at hT
theorem open_all {base : Nat} {spare : Nat → Bool} {held : Bool} {r : Reach} {b0 : Nat} {n : Nat} : ∀ {ts : List TypeId} {vs : List Value} {ds : List (DataW H)} {ps : List MemPlace} {Ts : List Ty}, DataW.TrodAll enc P w base spare held ts vs ds ps → zlw P n ts = some Ts →
  (∀ (j : Nat) t v, ts[j]? = some t → vs[j]? = some v → Value.okWide P w r b0 t v) → ∃ xs, HasL Ts xs ∧ RepS (Old w) w xs vs
 | [], vs, ds, ps, Ts, h, hT, _ => by
  simp only [zlw, allO, Option.some.injEq] at hT; subst hT
  cases vs with
  | nil => exact ⟨[], rfl, by simp [RepS]⟩
  | cons v vs => cases ds <;> simp [DataW.TrodAll] at h
 | t :: ts, vs, ds, ps, Ts, h, hT, hok => by
  obtain ⟨T, Ts', h1, h2, rfl⟩ := vW hT
  cases vs with
  | nil => simp [DataW.TrodAll] at h
  | cons v vs =>
   cases ds with
   | nil => simp [DataW.TrodAll] at h
   | cons d ds =>
    obtain ⟨p, q, ⟨fu, hd⟩, hr, rfl⟩ := h
    obtain ⟨x, hx, hrx⟩ := zor n fu hd h1
    obtain ⟨xs, g1, g2⟩ := open_all hr h2 (fun j t v hj hv => hok (j + 1) t v (by simpa using hj) (by simpa using hv))
    refine ⟨x :: xs, by simp only [HasL]; exact ⟨x, xs, rfl, hx, g1⟩, ?_⟩
    simp only [RepS]
    refine ⟨v, vs, rfl, ?_, g2⟩
    rcases zkk h1 (hok 0 t v (by simp) (by simp)) with ⟨e1, us, rfl⟩ | ⟨e1, e2⟩
    ·exact .inl ⟨by rw [zfk hx, e1], us, rfl, by simpa [Value.cells] using hrx⟩
    ·exact .inr ⟨by rw [zfk hx, e1], by rw [e2] at hrx; simpa using hrx⟩
theorem trodAll_len {base : Nat} {spare : Nat → Bool} {held : Bool} : ∀ {ts : List TypeId} {vs : List Value} {ds : List (DataW H)} {ps : List MemPlace}, DataW.TrodAll enc P w base spare held ts vs ds ps → ds.length = ts.length
 | [], vs, ds, ps, h => by
  cases vs <;> cases ds <;> simp_all [DataW.TrodAll]
 | t :: ts, vs, ds, ps, h => by
  cases vs with
  | nil => simp [DataW.TrodAll] at h
  | cons v vs =>
   cases ds with
   | nil => simp [DataW.TrodAll] at h
   | cons d ds =>
    obtain ⟨p, q, _, hr, rfl⟩ := h
    simp [trodAll_len hr]
theorem trodVars_nil {T : List String} {gs : List (DataW H)} {q : List MemPlace} {own : Nat → Bool} (hT : T = []) (h : DataW.TrodVars enc P w own T gs q) : gs = [] := by
 subst hT
 cases gs with
 | nil => rfl
 | cons g gs => simp [DataW.TrodVars] at h
theorem zex {W W' : World} (hl : laidOutB P = true) (hb : Below W.heap.size W W') : ∀ {ts : List TypeId} {vs : List Value} {ds : List (DataW H)} {ps : List MemPlace}, (ts.all fun t => P.readableRec t && decide (t < P.types.size)) = true → DataW.TrodAll enc P W 0 (fun _ => true) true ts vs ds ps → (∀ x ∈ ps, x.block < W.heap.size) → DataW.TrodAll enc P W' 0 (fun b => decide (b < W.heap.size)) true ts vs ds ps
 | [], vs, ds, ps, _, h, _ => by
  cases vs <;> cases ds <;> simp_all [DataW.TrodAll]
 | t :: ts, vs, ds, ps, hr, h, hlt => by
  simp only [List.all_cons, Bool.and_eq_true, decide_eq_true_eq] at hr
  cases vs with
  | nil => simp [DataW.TrodAll] at h
  | cons v vs =>
   cases ds with
   | nil => simp [DataW.TrodAll] at h
   | cons d ds =>
    obtain ⟨p, q, hd, hrest, rfl⟩ := h
    exact ⟨p, q, Below.trod hl hr.1.1 hr.1.2 hd hb (fun x hx => hlt x (by simp [hx])), zex hl hb (by simpa using hr.2) hrest (fun x hx => hlt x (by simp [hx])), rfl⟩
theorem law_post {f : Func} {s : ChangeSpec} {apart : Bool} {W W' : World} {args : Array Value} {ds gs : List (DataW H)} {before : List MemPlace} {t : TypeId} (hl : laidOutB P = true) (hread : (f.params.toList.all fun t => P.readableRec t && decide (t < P.types.size)) = true)
  (hW : DataW.Whole enc P f.params.toList s.vars apart W args.toList ds gs before) (hv : s.vars = []) (hres : f.resultTypes = #[t]) (hu : P.underlying t = some .bool)
  (hfn : s.fn H (ds ++ gs) = { results := [.lit (.bool true)], args := ds }) (hb : Below W.heap.size W W') : s.post enc P f apart true false false W args (.bool true) W' := by
 have hlt : ∀ x ∈ before, x.block < W.heap.size := fun x hx => by simpa using hW.lt x hx
 have hW0 := hW
 obtain ⟨p, q, hA, hV, rfl, hz, hn⟩ := hW
 refine ⟨ds, gs, p ++ q, [], p, q, hW0, ?_, ?_, ?_, hb.frame _, fun h => by cases h⟩
 ·rw [hfn, hres]
  exact trodAll_mk1 (shut_bool hu true)
 ·rw [hfn]
  exact zex hl hb hread hA (fun x hx => hlt x (by simp [hx]))
 ·rw [hfn]
  rw [hv] at hV ⊢
  cases gs with
  | nil => exact hV
  | cons g gs => simp [DataW.TrodVars] at hV
theorem law_calls {C : Cfg} (hext : z1d C) (hcatch : vY C) {n : Nat} {f : FuncId} {xs : List D} {args : Array Value} {W : World} (hrun : runD C n f xs = some (.ret (.d (.bool true)))) (hr : RepS (Old W) W xs args.toList) :
  Calls C.P f args W fun e W' => e = .returned (.bool true) ∧ Below W.heap.size W W' := by
 obtain ⟨o', ho, hcalls⟩ := z2t hext hcatch n f xs _ hrun
 have ho' : o' = .ret (.bool true) := by
  cases o' with
  | ret x => simp only [OutD.out, Out.ret.injEq, V.d.injEq] at ho; rw [ho]
  | tup xs => simp [OutD.out] at ho
  | pan x => simp [OutD.out] at ho
 subst ho'
 refine (hcalls (Old W) W args (fun b hb => hb) hr).mono fun e W' he => ?_
 cases e with
 | returned v =>
  obtain ⟨A', h1, h2⟩ := he
  have h2 := (zH rfl).1 h2
  simp only [RepC, List.cons.injEq, and_true] at h2
  exact ⟨by rw [h2], h1.os, h1.tape, h1.output, h1.size, h1.old⟩
 | panicked c => obtain ⟨x, v, h, _⟩ := he; cases h
 | outgrown => exact he.elim
end
end Go.Vm
end
section
namespace Go.Proofs.Ytghllhghboaagaa
open Go.RowKit Go.Vm
theorem zdw (p : Addr) (w : World) :
  CallsD Try.prog 75 #[.pointer (some p)] .returning w fun e u' w' => e = .returned (.tuple #[]) ∧ u' = .returning ∧ w' = w := by
 have hb0 : ∀ w : World, (binOp BinOp.neq 20 .nilIface .nilIface).run Try.prog w = .ok (.bool false) w := fun _ => by kernel_rfl
 refine callsD_of_wpS Try.func75 rfl fun c₀ cs hu => ?_
 apply wpS_seq
 apply wpS_region
 simp [wpOpsS, go_sem, recoverD, hu, Try.ntmps75, Exit.thenS]
 apply wpS_seq
 apply wpS_region
 simp [wpOpsS, go_sem, Exit.thenS, hb0]
 refine wpS_cond (t := false) (by simp [Act.eval, Array.replicate]) ?_
 simp only [Bool.false_eq_true, if_false]
 refine wpS_of_wp (wp_skip ?_)
 cases c₀
 simp_all [bodyPostS, results, Try.results75]
theorem zgf (p : Addr) (n : Int) (u0 : Value) (older : List PanicEntry) (w : World) (hc : w.cell? p = some u0) (hz : w.frozen? p = false) :
  CallsD Try.prog 75 #[.pointer (some p)] (.panicking ({ v := .iface 41 (.int .i64 n), recovered := false } :: older)) w fun e u' w' =>
   e = .returned (.tuple #[]) ∧ u' = .panicking ({ v := .iface 41 (.int .i64 n), recovered := true } :: older) ∧ w' = (w.setCell p (.int .i64 1)).setCell p (.int .i64 n) := by
 have hb1 : ∀ (w : World) (v : Value), (binOp BinOp.neq 20 (.iface 41 v) .nilIface).run Try.prog w = .ok (.bool true) w := fun _ _ => by kernel_rfl
 have hta : ∀ (w : World) (v : Value), (Instr.typeAssert (.iface 41 v) 20 41 true).run Try.prog w = .ok (.tuple #[v, .bool true]) w := fun _ _ => by kernel_rfl
 refine callsD_of_wpS Try.func75 rfl fun c₀ cs hu => ?_
 apply wpS_seq
 apply wpS_region
 simp [wpOpsS, go_sem, recoverD, hu, Try.ntmps75, Exit.thenS]
 apply wpS_seq
 apply wpS_region
 simp [wpOpsS, go_sem, Exit.thenS, hb1]
 refine wpS_cond (t := true) (by simp [Act.eval, Array.replicate]) ?_
 simp only [if_true]
 apply wpS_seq
 apply wpS_region
 simp [wpOpsS, go_sem, hc, hz, Exit.thenS]
 apply wpS_seq
 apply wpS_region
 simp [wpOpsS, go_sem, Exit.thenS, hta]
 apply wpS_seq
 apply wpS_region
 simp [wpOpsS, go_sem, Exit.thenS]
 refine wpS_cond (t := true) (by simp [Act.eval, Array.replicate]) ?_
 simp only [if_true]
 have hc2 : (w.setCell p (.int .i64 1)).cell? p = some (.int .i64 1) := World.cell?_setCell_same _ _ _ hc
 have hz2 : (w.setCell p (.int .i64 1)).frozen? p = false := by simp [go_sem, hz]
 apply wpS_region
 simp [wpOpsS, go_sem, hc2, hz2, bodyPostS, results, Try.results75]
theorem zjw (g : FuncId) (hb : (zF Try.prog g).isSome = true) (fa ca : Array Value) (w : World) (R : Ending → World → Prop)
  (hg : Calls Try.prog g (fa ++ ca) (w.alloc (.cells #[.int .i64 0] 41)) fun e w' => match e with
   | .returned _ => ∃ u0, w'.cell? ⟨w.heap.size, 0, Option.none⟩ = some u0 ∧ w'.frozen? ⟨w.heap.size, 0, Option.none⟩ = false ∧ R (.returned (.int .i64 0)) (w'.setCell ⟨w.heap.size, 0, Option.none⟩ (.int .i64 0))
   | .panicked c => ∃ n u0, c = [{ v := .iface 41 (.int .i64 n), recovered := false }] ∧ w'.cell? ⟨w.heap.size, 0, Option.none⟩ = some u0 ∧ w'.frozen? ⟨w.heap.size, 0, Option.none⟩ = false ∧ R (.returned (.int .i64 n)) ((w'.setCell ⟨w.heap.size, 0, Option.none⟩ (.int .i64 1)).setCell ⟨w.heap.size, 0, Option.none⟩ (.int .i64 n))
   | .outgrown => False) :
  Calls Try.prog 42 #[.func (.func g) fa ca] w R := by
 have hmf : ∀ (fn : Fn) (first cap : Array Value) (w : World), (Instr.makeFunc fn first cap).run Try.prog w = .ok (.func fn first cap) w := fun _ _ _ _ => rfl
 have hcf : ∀ (us : Array Value) (w : World), (callFunc g us).run Try.prog w = .ok (.enter g us) w := fun us w => z1x hb us w
 go_enter_defers Try.func42, Try.ntmps42
 set_option maxRecDepth 20000 in go_wp2
 refine hg.mono ?_
 rintro e w' he
 cases e with
 | returned v =>
  obtain ⟨u0, hc, hz, hR⟩ := he
  have hc2 : (w'.setCell ⟨w.heap.size, 0, Option.none⟩ (.int .i64 0)).cell? ⟨w.heap.size, 0, Option.none⟩ = some (.int .i64 0) := World.cell?_setCell_same _ _ _ hc
  go_wp2
  refine leaves_cons (f := 75) (args := #[.pointer (some ⟨w.heap.size, 0, Option.none⟩)]) (by simp) (by simp [go_sem]) ?_
  refine (zdw ⟨w.heap.size, 0, Option.none⟩ _).mono ?_
  rintro e u' w'' ⟨rfl, rfl, rfl⟩
  simp [Leaves, settle, results, Try.results42, go_sem, hc2]
  exact hR
 | panicked c =>
  obtain ⟨n, u0, rfl, hc, hz, hR⟩ := he
  have hc1 : (w'.setCell ⟨w.heap.size, 0, Option.none⟩ (.int .i64 1)).cell? ⟨w.heap.size, 0, Option.none⟩ = some (.int .i64 1) := World.cell?_setCell_same _ _ _ hc
  have hc2 : ((w'.setCell ⟨w.heap.size, 0, Option.none⟩ (.int .i64 1)).setCell ⟨w.heap.size, 0, Option.none⟩ (.int .i64 n)).cell? ⟨w.heap.size, 0, Option.none⟩ = some (.int .i64 n) := World.cell?_setCell_same _ _ _ hc1
  refine leaves_cons (f := 75) (args := #[.pointer (some ⟨w.heap.size, 0, Option.none⟩)]) (by simp) (by simp [go_sem]) ?_
  refine (zgf ⟨w.heap.size, 0, Option.none⟩ n u0 [] _ hc hz).mono ?_
  rintro e u' w'' ⟨rfl, rfl, rfl⟩
  simp [Leaves, settle, results, Try.results42, go_sem, hc2]
  exact hR
 | outgrown => exact he.elim
end Go.Proofs.Ytghllhghboaagaa
namespace Go.Vm
section
variable {P : Program} {S S' : zA} {ρ ρ' : Nat → Nat} {A A' : Nat → Prop} {w w' w3 : World}
theorem aside {b0 : Nat} (h : Inv P S' ρ' A' w') (hs : Step S ρ A w S' ρ' A' w') (hb0 : w.heap.size ≤ b0) (ho : ¬ zhd S' ρ' b0) (ha : ¬ A' b0) (hsz : w3.heap.size = w'.heap.size) (hold : ∀ b, b ≠ b0 → w3.heap[b]? = w'.heap[b]?) (h1 : w3.os = w'.os) (h2 : w3.tape = w'.tape) (h3 : w3.output = w'.output) :
  Inv P S' ρ' A' w3 ∧ Step S ρ A w S' ρ' A' w3 := by
 have hA : ∀ b, A' b → w3.heap[b]? = w'.heap[b]? := fun b hb => hold b (fun hh => ha (hh ▸ hb))
 have hlive : ∀ id o, S'[id]? = some o → o.live = true → ρ' id ≠ b0 := fun id o hi hl hh => ho ⟨id, o, hi, hl, hh⟩
 have hle : SLe S' ρ' w' S' ρ' w3 := by
  intro id o hi hne
  refine ⟨o, hi, o.le_refl, ?_⟩
  have hok := h.ok id o hi
  have fin : ρ' id ≠ b0 → o = .dead ∨ (ρ' id = ρ' id ∧ ∀ c e f, w'.heap[ρ' id]? = some (.cells c e f) → ∃ c' e' f', w3.heap[ρ' id]? = some (.cells c' e' f') ∧ c'.size = c.size) := fun hne => .inr ⟨rfl, fun c e f hc => ⟨c, e, f, (hold _ hne).trans hc, rfl⟩⟩
  cases o with
  | dead => exact .inl rfl
  | hole => exact absurd rfl hne
  | row xs e => exact fin (hlive id _ hi rfl)
  | mp es c => exact fin (hlive id _ hi rfl)
  | iter s p => exact fin (hlive id _ hi rfl)
  | mit a b c d => exact fin (hlive id _ hi rfl)
  | fz xs e => simp only [ObOk] at hok; obtain ⟨_, _, _, _, _, _, hh, _⟩ := hok; exact fin (fun hx => ha (hx ▸ hh))
  | fm es => simp only [ObOk] at hok; obtain ⟨_, _, hh, _⟩ := hok; exact fin (fun hx => ha (hx ▸ hh))
 refine ⟨⟨fun id o hi => (h.ok id o hi).mono (fun _ h => h) hA hle (fun hl => hold _ (hlive id o hi hl)), h.inj, h.own, fun b hb => by rw [hsz]; exact h.lt b hb⟩,
  ⟨h1.trans hs.os, h2.trans hs.tape, h3.trans hs.output, by rw [hsz]; exact hs.size, fun b hb hn => (hold b (by omega)).trans (hs.keep b hb hn), fun b hb => (hA b (hs.amono b hb)).trans (hs.keepA b hb), hs.amono, hs.anew, hs.onew, hs.sle.trans hle⟩⟩
end
end Go.Vm
namespace Go.Proofs.Ytghllhghboaagaa
open Go.RowKit Go.Vm
theorem zco {C : Cfg} (hP : C.P = Try.prog) (hc : ∀ f, C.catch_ f = if f = 42 then some z25 else Option.none) : vY C := by
 intro f post hf S S' g o v hv ρ A w fa ca hI hb hcalls
 rw [hc] at hf
 split at hf
 ·rename_i hf42
  subst hf42
  simp only [Option.some.injEq] at hf
  subst hf
  have hb : (zF Try.prog g).isSome = true := by
   rcases hb with hb | hb
   ·rw [hP] at hb; exact hb
   ·rw [hc] at hb
    split at hb
    ·rename_i h; rw [h]; kernel_rfl
    ·cases hb
  obtain ⟨hI1, hs1⟩ := hI.world (w' := w.alloc (.cells #[.int .i64 0] 41)) (by simp) (fun b hb => wE _ hb) rfl rfl rfl
  have hg := hcalls ρ A _ hI1 hs1
  rw [hP] at hg hI hI1 ⊢
  have hno : ¬ zhd S ρ w.heap.size := by
   rintro ⟨id, o', h1, h2, h3⟩
   have := (hI.ok id o' h1).lt (by rintro rfl; cases h2) (by rintro rfl; cases h2)
   omega
  have hnA : ¬ A w.heap.size := fun hh => by have := hI.lt _ hh; omega
  refine zjw g hb fa ca w _ (hg.mono fun e w' he => ?_)
  have key : ∀ {ρ' : Nat → Nat} {A' : Nat → Prop}, Go.Vm.Inv Try.prog S' ρ' A' w' → Step S ρ A (w.alloc (.cells #[.int .i64 0] 41)) S' ρ' A' w' →
    w'.heap[w.heap.size]? = some (.cells #[.int .i64 0] 41 (0, 0)) ∧ (∀ w3 : World, w3.heap.size = w'.heap.size → (∀ b, b ≠ w.heap.size → w3.heap[b]? = w'.heap[b]?) → w3.os = w'.os → w3.tape = w'.tape → w3.output = w'.output → Go.Vm.Inv Try.prog S' ρ' A' w3 ∧ Step S ρ A w S' ρ' A' w3) := fun {ρ' A'} hI2 hs2 => by
   have hlt : w.heap.size < (w.alloc (.cells #[.int .i64 0] 41)).heap.size := by simp
   refine ⟨(hs2.keep _ hlt hno).trans (kA _), fun w3 a b c d e => aside hI2 (hs1.trans hs2) (Nat.le_refl _) (fun hh => ?_) (fun hh => ?_) a b c d e⟩
   ·rcases hs2.onew _ hh with hh | hh
    ·exact hno hh
    ·omega
   ·rcases hs2.anew _ hh with hh | hh | hh
    ·exact hnA hh
    ·exact hno hh
    ·omega
  cases e with
  | returned x =>
   obtain ⟨y, rfl, ρ', A', hI2, hs2, hr⟩ := he
   obtain ⟨hcell, hset⟩ := key hI2 hs2
   have hv : v = .d (.int .i64 0) := by simpa [z25] using hv.symm
   subst hv
   refine ⟨_, cell_of_one hcell, free_of_one hcell, _, rfl, ρ', A', ?_⟩
   obtain ⟨k1, k2⟩ := hset (w'.setCell ⟨w.heap.size, 0, Option.none⟩ (.int .i64 0)) (by simp [World.setCell]) (fun b hb => Below.heap_setCell _ _ _ _ hb) rfl rfl rfl
   exact ⟨k1, k2, zX (jU.2 ((zH rfl).2 (by simp [RepC])))⟩
  | panicked c =>
   obtain ⟨y, u, rfl, rfl, ρ', A', hI2, hs2, hr⟩ := he
   obtain ⟨hcell, hset⟩ := key hI2 hs2
   have hn : ∃ n, v = .d (.int .i64 n) ∧ u = .iface 41 (.int .i64 n) := by
    unfold z25 at hv
    split at hv
    ·rename_i heq; cases heq
    ·rename_i n heq
     cases heq
     simp only [Option.some.injEq] at hv
     have hq := (zO rfl).1 hr
     simp only [zT, List.cons.injEq, and_true] at hq
     obtain ⟨v', h0, hq⟩ := hq
     rcases hq with ⟨h1, _⟩ | ⟨_, hq⟩
     ·cases h1
     ·simp only [RepC, List.cons.injEq, and_true] at hq
      exact ⟨n, hv.symm, by rw [h0, hq]⟩
    ·rename_i n heq
     cases heq
     simp only [Option.some.injEq] at hv
     have hq := (zH rfl).1 (jU.1 hr)
     simp only [RepC, List.cons.injEq, and_true] at hq
     obtain ⟨v', h0, hq⟩ := hq
     rcases hq with ⟨h1, _⟩ | ⟨_, hq⟩
     ·cases h1
     ·exact ⟨n, hv.symm, by rw [h0, hq]⟩
    ·cases hv
   obtain ⟨n, rfl, rfl⟩ := hn
   refine ⟨n, _, rfl, cell_of_one hcell, free_of_one hcell, _, rfl, ρ', A', ?_⟩
   obtain ⟨k1, k2⟩ := hset ((w'.setCell ⟨w.heap.size, 0, Option.none⟩ (.int .i64 1)).setCell ⟨w.heap.size, 0, Option.none⟩ (.int .i64 n)) (by simp [World.setCell]) (fun b hb => (Below.heap_setCell _ _ _ _ hb).trans (Below.heap_setCell _ _ _ _ hb)) rfl rfl rfl
   exact ⟨k1, k2, zX (jU.2 ((zH rfl).2 (by simp [RepC])))⟩
  | outgrown => exact he.elim
 ·cases hf
end Go.Proofs.Ytghllhghboaagaa
end
section
namespace Go.Proofs.Ytghllhghboaagaa
open Go.Vm
def zz5 : Nat := 2556217590065053753436426387587072
noncomputable def cfgE (e : FuncId → Option (List D → Option Out)) : Cfg := { P := Try.prog, mixed := by kernel_rfl, shared := fun f => Nat.testBit zz5 f, ext := e, catch_ := fun f => match Nat.beq f 42 with | true => some z25 | false => Option.none }
noncomputable def zhi : Cfg := cfgE fun _ => Option.none
def ex1 : Opn := ⟨2, [47, 97], [], 0, 0, []⟩
def ex2 : Opn := ⟨1, [47, 97, 47, 98], [], 0, 0, []⟩
def ex3 : Opn := ⟨6, [47, 97], [47, 97, 47, 98, 47, 99], 0, 0, []⟩
def ex4 : Opn := ⟨6, [47, 97], [47, 97, 47, 99], 0, 0, []⟩
def tr1 : List Node := [⟨1, 2, 1, 1, 0, [], [⟨[97], 2⟩]⟩, ⟨2, 2, 1, 1, 0, [], []⟩]
def tr2 : List Node := [⟨1, 2, 1, 1, 0, [], [⟨[97], 2⟩]⟩, ⟨2, 2, 1, 1, 0, [], [⟨[98], 3⟩]⟩, ⟨3, 1, 1, 0, 0, [], []⟩]
def stO (t : List Node) (a : Ans) : Out := .ret (.tup [.d (.sl (t.map zB)), .d (z7u a)])
def zm6 : List (List D × Out) := [([.sl (newN.map zB), encOpn ex1], stO tr1 ⟨0, 2, 0, 0, 0, [], []⟩), ([.sl (tr1.map zB), encOpn ex2], stO tr2 ⟨0, 3, 0, 0, 0, [], []⟩), ([.sl (tr2.map zB), encOpn ex3], stO tr2 ⟨6, 0, 0, 0, 0, [], []⟩), ([.sl (tr2.map zB), encOpn ex4], stO tr2 ⟨9, 0, 0, 0, 0, [], []⟩)]
theorem st1 : runD zhi 400 19 [.sl (newN.map zB), encOpn ex1] = some (stO tr1 ⟨0, 2, 0, 0, 0, [], []⟩) := by kernel_rfl
theorem st2 : runD zhi 400 19 [.sl (tr1.map zB), encOpn ex2] = some (stO tr2 ⟨0, 3, 0, 0, 0, [], []⟩) := by kernel_rfl
theorem st3 : runD zhi 400 19 [.sl (tr2.map zB), encOpn ex3] = some (stO tr2 ⟨6, 0, 0, 0, 0, [], []⟩) := by kernel_rfl
theorem st4 : runD zhi 400 19 [.sl (tr2.map zB), encOpn ex4] = some (stO tr2 ⟨9, 0, 0, 0, 0, [], []⟩) := by kernel_rfl
theorem rt2 : runD zhi 400 26 [.sl (tr2.map zB)] = some (.ret (.d (.bool true))) := by kernel_rfl
def tabl (l : List (List D × Out)) (ds : List D) : Option Out := match l with
  | [] => Option.none
  | (k, o) :: r => if all2 (z3d 9) ds k = true then some o else tabl r ds
theorem zh3 {ds : List D} {o : Out} : ∀ {l : List (List D × Out)}, tabl l ds = some o → (ds, o) ∈ l
  | [], h => by cases h
  | (k, o') :: r, h => by
    unfold tabl at h
    split at h
    · rename_i hk
      cases h
      rw [zh1 (fun _ _ h => zi3 h) hk]
      exact List.mem_cons_self
    · exact List.mem_cons_of_mem _ (zh3 h)
def zpo (f : FuncId) : Option (List D → Option Out) := match Nat.beq f 19 with
 | true => some (tabl zm6)
 | false => match Nat.beq f 26 with
  | true => some (tabl [([.sl (tr2.map zB)], .ret (.d (.bool true)))])
  | false => Option.none
theorem zul : runD (cfgE zpo) 400 16 [] = some (.ret (.d (.bool true))) := by kernel_rfl
theorem c42 (f : FuncId) : (match Nat.beq f 42 with | true => some z25 | false => Option.none) = if f = 42 then some z25 else Option.none := by
 by_cases h : f = 42
 ·subst h; rfl
 ·rw [if_neg h]
  have : Nat.beq f 42 = false := Bool.eq_false_iff.2 fun hh => h (Nat.eq_of_beq_eq_true hh)
  rw [this]
theorem ext0 : z1d zhi := fun f g h => by cases h
theorem zhu {e : FuncId → Option (List D → Option Out)} : vY (cfgE e) := zco rfl c42
theorem wG : vY cfg := zco rfl c42
theorem extE : z1d (cfgE zpo) := by
 intro f g h
 have h : zpo f = some g := h
 unfold zpo at h
 split at h
 ·rename_i hf
  have hf := Nat.eq_of_beq_eq_true hf
  subst hf
  cases h
  intro ds o ho
  have hm := zh3 ho
  simp only [zm6, List.mem_cons, List.not_mem_nil, or_false, Prod.mk.injEq] at hm
  have : runD zhi 400 19 ds = some o := by
   rcases hm with ⟨rfl, rfl⟩ | ⟨rfl, rfl⟩ | ⟨rfl, rfl⟩ | ⟨rfl, rfl⟩
   ·exact st1
   ·exact st2
   ·exact st3
   ·exact st4
  exact z2t ext0 zhu 400 19 ds _ this
 ·split at h
  ·rename_i hf
   have hf := Nat.eq_of_beq_eq_true hf
   subst hf
   cases h
   intro ds o ho
   have hm := zh3 ho
   simp only [List.mem_cons, List.not_mem_nil, or_false, Prod.mk.injEq] at hm
   obtain ⟨rfl, rfl⟩ := hm
   exact z2t ext0 zhu 400 26 _ _ rt2
  ·cases h
theorem extC : z1d cfg := by
 intro f g h
 have hf : f = 16 ∧ g = zdh := by
  have h : (match Nat.beq f 16 with | true => some zdh | false => Option.none) = some g := h
  by_cases e : f = 16
  ·subst e
   exact ⟨rfl, by simpa using h.symm⟩
  ·have : Nat.beq f 16 = false := Bool.eq_false_iff.2 fun hh => e (Nat.eq_of_beq_eq_true hh)
   rw [this] at h; cases h
 obtain ⟨rfl, rfl⟩ := hf
 intro ds o ho
 cases ds with
 | nil =>
  have ho : o = .ret (.d (.bool true)) := by simpa [zdh] using ho.symm
  subst ho
  exact z2t extE zhu 400 16 [] _ zul
 | cons x r => simp [zdh] at ho
end Go.Proofs.Ytghllhghboaagaa
end
section
namespace Go.Proofs.Ytghllhghboaagaa
open Go.Vm
open Classical in
noncomputable def evx (C : Cfg) (f : FuncId) (ds : List D) : Option Out := if h : ∃ o, Ev C f ds o then some h.choose else Option.none
theorem zxb {C : Cfg} {f : FuncId} {ds : List D} {o o' : Out} (h : Ev C f ds o) (h' : Ev C f ds o') : o = o' := by
 obtain ⟨n, hn⟩ := h
 obtain ⟨m, hm⟩ := h'
 have a := zob (Nat.le_max_left n m) hn
 have b := zob (Nat.le_max_right n m) hm
 rw [a] at b
 exact Option.some.inj b
theorem zdv {C : Cfg} {f : FuncId} {ds : List D} {o : Out} (h : Ev C f ds o) : evx C f ds = some o := by
 have hx : ∃ o, Ev C f ds o := ⟨o, h⟩
 unfold evx
 rw [dif_pos hx]
 exact congrArg some (zxb hx.choose_spec h)
theorem ze1 {C : Cfg} {f : FuncId} {ds : List D} {o : Out} (h : evx C f ds = some o) : Ev C f ds o := by
 unfold evx at h
 split at h
 ·rename_i hx
  cases h
  exact hx.choose_spec
 ·cases h
def q19 : Nat := 2515652770819961680892785565106176
def zpr : Nat := 48725319946272567620579285270528
noncomputable def cfgS : Cfg := { P := Try.prog, mixed := by kernel_rfl, shared := fun f => Nat.testBit q19 f, ext := fun f => match Nat.testBit zpr f with | true => some (evx cfg f) | false => Option.none, catch_ := fun f => match Nat.beq f 42 with | true => some z25 | false => Option.none }
theorem hPS : cfgS.P = Try.prog := rfl
theorem lift {f : FuncId} {ds : List D} {o : Out} (hm : Nat.testBit zpr f = true) (h : Ev cfg f ds o) : Ev cfgS f ds o := by
 refine ⟨0, ?_⟩
 have hx : cfgS.ext f = some (evx cfg f) := by
  show (match Nat.testBit zpr f with | true => some (evx cfg f) | false => Option.none) = _
  rw [hm]
 unfold runD answer
 simp only [hx]
 exact zdv h
theorem extS : z1d cfgS := by
 intro f g h
 have h : (match Nat.testBit zpr f with | true => some (evx cfg f) | false => Option.none) = some g := h
 split at h
 ·cases h
  intro ds o ho
  obtain ⟨n, hn⟩ := ze1 ho
  exact z2t extC wG n f ds o hn
 ·cases h
theorem zyi : vY cfgS := zco rfl c42
theorem zxy : zF Try.prog 19 = some ⟨Try.f19.body.getD .skip, 38, #[.tmp 4, .cell 5 44]⟩ := by
 unfold zF
 rw [Try.func19]
 rfl
theorem bo19 : (zF Try.prog 19).isSome = true := by kernel_rfl
theorem zyo : zF Try.prog 39 = some ⟨Try.f39.body.getD .skip, 17, #[.tmp 2]⟩ := by
 unfold zF
 rw [Try.func39]
 rfl
theorem bo39 : (zF Try.prog 39).isSome = true := by kernel_rfl
theorem zza : zF Try.prog 41 = some ⟨Try.f41.body.getD .skip, 26, #[.tmp 2]⟩ := by
 unfold zF
 rw [Try.func41]
 rfl
theorem zwz : zF Try.prog 43 = some ⟨Try.f43.body.getD .skip, 9, #[]⟩ := by
 unfold zF
 rw [Try.func43]
 rfl
theorem q0d : zF Try.prog 44 = some ⟨Try.f44.body.getD .skip, 48, #[.tmp 4]⟩ := by
 unfold zF
 rw [Try.func44]
 rfl
theorem zxw : zF Try.prog 76 = some ⟨Try.f76.body.getD .skip, 55, #[]⟩ := by
 unfold zF
 rw [Try.func76]
 rfl
theorem zvr : zF Try.prog 77 = some ⟨Try.f77.body.getD .skip, 48, #[]⟩ := by
 unfold zF
 rw [Try.func77]
 rfl
theorem zyp : zF Try.prog 78 = some ⟨Try.f78.body.getD .skip, 59, #[]⟩ := by
 unfold zF
 rw [Try.func78]
 rfl
theorem zwj : zF Try.prog 79 = some ⟨Try.f79.body.getD .skip, 130, #[]⟩ := by
 unfold zF
 rw [Try.func79]
 rfl
theorem zxt : zF Try.prog 80 = some ⟨Try.f80.body.getD .skip, 54, #[]⟩ := by
 unfold zF
 rw [Try.func80]
 rfl
theorem zy7 : zF Try.prog 81 = some ⟨Try.f81.body.getD .skip, 46, #[]⟩ := by
 unfold zF
 rw [Try.func81]
 rfl
theorem zw6 : zF Try.prog 82 = some ⟨Try.f82.body.getD .skip, 29, #[]⟩ := by
 unfold zF
 rw [Try.func82]
 rfl
theorem q0m : zF Try.prog 83 = some ⟨Try.f83.body.getD .skip, 36, #[]⟩ := by
 unfold zF
 rw [Try.func83]
 rfl
theorem zxa : zF Try.prog 84 = some ⟨Try.f84.body.getD .skip, 31, #[]⟩ := by
 unfold zF
 rw [Try.func84]
 rfl
theorem zy3 : zF Try.prog 85 = some ⟨Try.f85.body.getD .skip, 10, #[]⟩ := by
 unfold zF
 rw [Try.func85]
 rfl
theorem zxi : zF Try.prog 86 = some ⟨Try.f86.body.getD .skip, 4, #[]⟩ := by
 unfold zF
 rw [Try.func86]
 rfl
theorem zsz : zF Try.prog 106 = some ⟨Try.f106.body.getD .skip, 55, #[]⟩ := by
 unfold zF
 rw [Try.func106]
 rfl
theorem zv5 : zF Try.prog 107 = some ⟨Try.f107.body.getD .skip, 14, #[.cell 4 32]⟩ := by
 unfold zF
 rw [Try.func107]
 rfl
theorem zsd : zF Try.prog 108 = some ⟨Try.f108.body.getD .skip, 73, #[]⟩ := by
 unfold zF
 rw [Try.func108]
 rfl
theorem zv6 : zF Try.prog 109 = some ⟨Try.f109.body.getD .skip, 27, #[.tmp 6]⟩ := by
 unfold zF
 rw [Try.func109]
 rfl
theorem zte : zF Try.prog 110 = some ⟨Try.f110.body.getD .skip, 23, #[.cell 4 32]⟩ := by
 unfold zF
 rw [Try.func110]
 rfl
abbrev encU (b : UInt8) : D := .int .u8 b.toNat
def SlE {α : Type} (enc : α → D) (S : zA) (v : V) (e : TypeId) (xs : List α) : Prop := (v = .ts [] ∧ xs = []) ∨ ∃ id ys, v = .rs id 0 xs.length ∧ S[id]? = some (.row ((xs ++ ys).map fun a => .d (enc a)) e)
def Keep (S S' : zA) : Prop := ∀ (j : Nat) (o : Ob), S[j]? = some o → S'[j]? = some o
theorem Keep.refl {S : zA} : Keep S S := fun _ _ h => h
theorem Keep.trans {S S' S'' : zA} (h : Keep S S') (h' : Keep S' S'') : Keep S S'' := fun j o hj => h' j o (h j o hj)
theorem Keep.app {S l : zA} : Keep S (S ++ l) := fun j o hj => by rw [List.getElem?_append_left (zZ hj)]; exact hj
theorem Keep.len {S S' : zA} (h : Keep S S') : S.length ≤ S'.length := by
 cases hl : S.length with
 | zero => omega
 | succ n =>
  obtain ⟨o, ho⟩ : ∃ o, S[n]? = some o := ⟨S[n], List.getElem?_eq_getElem (by omega)⟩
  have := zZ (h n o ho)
  omega
theorem Keep.set {S S' : zA} {i : Nat} {o : Ob} (h : Keep S S') (hi : S.length ≤ i) : Keep S (S'.set i o) := fun j q hj => by
 have := zZ hj
 rw [List.getElem?_set_ne (by omega)]
 exact h j q hj
section
variable {α : Type} {enc : α → D} {S S' : zA} {v : V} {e : TypeId} {xs : List α}
theorem SlE.of (h : OwnS S v e (xs.map fun a => .d (enc a))) : SlE enc S v e xs := by
 rcases h with ⟨h1, h2⟩ | ⟨id, h1, h2⟩
 ·exact .inl ⟨h1, by simpa using h2⟩
 ·exact .inr ⟨id, [], by simpa using h1, by simpa using h2⟩
theorem SlE.keep (h : SlE enc S v e xs) (hk : Keep S S') : SlE enc S' v e xs := by
 rcases h with h | ⟨id, ys, h1, h2⟩
 ·exact .inl h
 ·exact .inr ⟨id, ys, h1, hk _ _ h2⟩
theorem zow {n : Nat} (l : List α) : allO (frz S (n + 1)) (l.map fun a => .d (enc a)) = some (l.map enc) := by
 have := ziw (S := S) (n := n) (l.map enc)
 rw [List.map_map] at this
 exact this
theorem SlE.frz (h : SlE enc S v e xs) {n : Nat} : Go.Vm.frz S (n + 2) v = some (.sl (xs.map enc)) := by
 rcases h with ⟨rfl, rfl⟩ | ⟨id, ys, rfl, h1⟩
 ·rfl
 ·show (match S[id]? with
   | some (.row zs e) => if 0 + xs.length ≤ zs.length && (allO (Go.Vm.frz S (n + 1)) zs).isSome then (allO (Go.Vm.frz S (n + 1)) ((zs.drop 0).take xs.length)).map D.sl else none
   | some (.fz zs e) => if 0 + xs.length ≤ zs.length then some (D.sl ((zs.drop 0).take xs.length)) else none
   | _ => none) = _
  have h2 : (((xs ++ ys).map fun a => V.d (enc a)).drop 0).take xs.length = xs.map fun a => V.d (enc a) := by
   rw [List.drop_zero, ← List.map_take, List.take_append_of_le_length (Nat.le_refl _), List.take_length]
  simp only [h1, h2, zow, Option.isSome_some, Bool.and_true, Option.map_some]
  rw [if_pos (by simp)]
theorem SlE.len {t e' : TypeId} (hu : Try.prog.underlying t = some (.slice e')) (h : SlE enc S v e xs) : zY Try.prog S .len [t] [v] = some (.val (.d (.int .i64 xs.length)) S 0) := by
 rcases h with ⟨rfl, rfl⟩ | ⟨id, ys, rfl, h1⟩
 ·exact zng hu
 ·exact zr0 hu
theorem SlE.ix {t : TypeId} {i : Nat} (hu : Try.prog.underlying t = some (.slice e)) (hz : (sz Try.prog e).isSome = true) (h : SlE enc S v e xs) (hi : i < xs.length) :
  ∃ id, qJ Try.prog S t v (.d (.int .i64 i)) = some (.ref id i 0) ∧ rowE S id i = some (.d (enc xs[i])) ∧ id < S.length := by
 rcases h with ⟨rfl, rfl⟩ | ⟨id, ys, rfl, h1⟩
 ·exact absurd hi (by simp)
 ·refine ⟨id, ?_, ?_, zZ h1⟩
  ·have h0 : (0 : Int) ≤ i := by omega
   have h2 : (i : Int) < xs.length := by omega
   have h3 : rowT S id e = true := by simp only [rowT, h1, beq_self_eq_true]
   simp only [qJ, intOf?, hu, h0, h2, h3, hz, and_self, if_true, Int.toNat_natCast, Nat.zero_add]
  ·have h2 : ((xs ++ ys).map fun a => V.d (enc a))[i]? = some (.d (enc xs[i])) := by
    rw [List.getElem?_map, List.getElem?_append_left hi, List.getElem?_eq_getElem hi]; rfl
   simp only [rowE, h1, h2]
def idOf : V → Option Nat | .rs i _ _ => some i | _ => Option.none
theorem SlE.lt (h : SlE enc S v e xs) {i : Nat} (hi : idOf v = some i) : i < S.length := by
 rcases h with ⟨rfl, _⟩ | ⟨id, ys, rfl, h1⟩
 ·cases hi
 ·cases hi; exact zZ h1
theorem SlE.frame (h : SlE enc S v e xs) {k : Nat} (hk : idOf v ≠ some k) (hf : ∀ (j : Nat) (ys : List V) (u : TypeId), j ≠ k → S[j]? = some (.row ys u) → S'[j]? = some (.row ys u)) : SlE enc S' v e xs := by
 rcases h with h | ⟨id, ys, rfl, h1⟩
 ·exact .inl h
 ·exact .inr ⟨id, ys, rfl, hf _ _ _ (fun hh => hk (by rw [hh]; rfl)) h1⟩
end
end Go.Proofs.Ytghllhghboaagaa
end
section
namespace Go.Proofs.Ytghllhghboaagaa
open Go.Vm
theorem z0p {t : List Node} {x : Int} : hasN t x = true ↔ ∃ n ∈ t, n.ino = x := by
 unfold hasN
 rw [List.find?_isSome]
 simp
theorem z6n {t : List Node} {n : Node} {x : Int} : hasN (qY t n) x = true ↔ x = n.ino ∨ hasN t x = true := by
 rw [z0p, z0p]
 constructor
 ·rintro ⟨m, hm, rfl⟩
  rcases wI.1 hm with rfl | ⟨h1, _⟩
  ·exact .inl rfl
  ·exact .inr ⟨m, h1, rfl⟩
 ·rintro (rfl | ⟨m, hm, rfl⟩)
  ·exact ⟨n, wI.2 (.inl rfl), rfl⟩
  ·by_cases h : m.ino = n.ino
   ·exact ⟨n, wI.2 (.inl rfl), h.symm⟩
   ·exact ⟨m, wI.2 (.inr ⟨hm, h⟩), rfl⟩
theorem zcp {t : List Node} {i x : Int} : hasN (t.filter (fun n => n.ino ≠ i)) x = true ↔ x ≠ i ∧ hasN t x = true := by
 rw [z0p, z0p]
 constructor
 ·rintro ⟨m, hm, rfl⟩
  obtain ⟨h1, h2⟩ := List.mem_filter.1 hm
  exact ⟨by simpa using h2, m, h1, rfl⟩
 ·rintro ⟨h, m, hm, rfl⟩
  exact ⟨m, List.mem_filter.2 ⟨hm, by simpa using h⟩, rfl⟩
theorem zta {t : List Node} {x : Int} (h : hasN t x = false) : getN t x = zM :=
 z1s fun n hn he => by rw [z0p.2 ⟨n, hn, he⟩] at h; cases h
theorem zgb {i : Int} : ∀ {t : List Node}, Srt t → (t.filter (fun n => n.ino ≠ i)).length + (if hasN t i = true then 1 else 0) = t.length
 | [], _ => rfl
 | n :: r, h => by
  obtain ⟨h1, h2⟩ := Srt.cons.1 h
  have ih := zgb (i := i) h2
  by_cases hn : n.ino = i
  ·have e1 : r.filter (fun m => m.ino ≠ i) = r := List.filter_eq_self.2 fun m hm => by have := h1 m hm; simp; omega
   have e2 : hasN (n :: r) i = true := z0p.2 ⟨n, by simp, hn⟩
   rw [List.filter_cons_of_neg (by simpa using hn), e1, if_pos e2, List.length_cons]
  ·have e2 : hasN (n :: r) i = hasN r i := by
    unfold hasN
    rw [List.find?_cons_of_neg (by simpa using hn)]
   rw [List.filter_cons_of_pos (by simpa using hn), e2, List.length_cons, List.length_cons]
   omega
theorem zqf {t : List Node} {n : Node} (h : Srt t) : (qY t n).length + (if hasN t n.ino = true then 1 else 0) = t.length + 1 := by
 have go : ∀ l : List Node, (wQ n false l).length = (l.filter (fun m => m.ino ≠ n.ino)).length + 1 := fun l => by
  induction l with
  | nil => rfl
  | cons y r ih =>
   by_cases hy : n.ino ≤ y.ino
   ·have e : wQ n false (y :: r) = n :: (y :: r).filter (fun m => m.ino ≠ n.ino) := by
     rw [← z2l]
     simp [wQ, hy]
    rw [e, List.length_cons]
   ·have e : wQ n false (y :: r) = y :: wQ n false r := by
     have : y.ino ≠ n.ino := by omega
     simp [wQ, hy, this]
    have hne : y.ino ≠ n.ino := by omega
    rw [e, List.length_cons, ih, List.filter_cons_of_pos (by simpa using hne), List.length_cons]
 have := zgb (i := n.ino) h
 unfold qY
 rw [go]
 omega
abbrev Ents := List (Int × V × Nat)
def mkE (e : Int × V × Nat) : D × V × Nat := (.int .i64 e.1, e.2)
theorem ziu {x : Int} : ∀ {L : Ents} {i : Nat}, (findD Try.prog 3 (.d (.int .i64 x)) (L.map mkE) i = some Option.none ∧ ∀ e ∈ L, e.1 ≠ x) ∨ ∃ j e, findD Try.prog 3 (.d (.int .i64 x)) (L.map mkE) i = some (some (i + j, e.2)) ∧ L[j]? = some e ∧ e.1 = x
 | [], i => .inl ⟨rfl, fun e he => by cases he⟩
 | e :: r, i => by
  by_cases h : e.1 = x
  ·refine .inr ⟨0, e, ?_, rfl, h⟩
   simp only [List.map_cons, mkE, findD, eqI, h, beq_self_eq_true, Nat.add_zero]
  ·have h1 : (x == e.1) = false := by rw [beq_eq_false_iff_ne]; exact fun hh => h hh.symm
   rcases ziu (x := x) (L := r) (i := i + 1) with ⟨h2, h3⟩ | ⟨j, q, h2, h3, h4⟩
   ·refine .inl ⟨?_, ?_⟩
    ·simp only [List.map_cons, mkE, findD, eqI, h1]
     exact h2
    ·intro q hq
     rcases List.mem_cons.1 hq with rfl | hq
     ·exact h
     ·exact h3 q hq
   ·refine .inr ⟨j + 1, q, ?_, h3, h4⟩
    simp only [List.map_cons, mkE, findD, eqI, h1]
    rw [show i + (j + 1) = i + 1 + j by omega]
    exact h2
theorem zhp {x : Int} : ∀ {L : Ents} {i : Nat}, findD Try.prog 3 (.d (.int .i64 x)) ((L.map mkE).map fun e => (e.1, e.2.1)) i = (findD Try.prog 3 (.d (.int .i64 x)) (L.map mkE) i).map fun q => q.map fun p => (p.1, p.2.1)
 | [], i => rfl
 | e :: r, i => by
  have ih := zhp (x := x) (L := r) (i := i + 1)
  by_cases h : e.1 = x
  ·simp only [List.map_cons, mkE, findD, eqI, h, beq_self_eq_true, Option.map_some]
  ·have h1 : (x == e.1) = false := by rw [beq_eq_false_iff_ne]; exact fun hh => h hh.symm
   simp only [List.map_cons, mkE, findD, eqI, h1]
   exact ih
structure St (g : Int → Prop) (S : zA) (m : Nat) (A B : Int → V) (t : List Node) : Prop where
 mp : ∃ (L : Ents) (c : Nat), S[m]? = some (.mp (L.map mkE) c) ∧ L.length = t.length ∧ (L.map (·.1)).Nodup ∧ (∀ e ∈ L, hasN t e.1 = true ∧ e.2.1 = zD (getN t e.1) (A e.1) (B e.1)) ∧ (∀ x, hasN t x = true → ∃ e ∈ L, e.1 = x)
 da : ∀ x, g x → SlE encU S (A x) 5 (getN t x).data
 na : ∀ x, g x → SlE zJ S (B x) 88 (getN t x).names
 z : ∀ x, hasN t x = false → A x = .ts [] ∧ B x = .ts []
 sa : ∀ x y i, g x → g y → x ≠ y → idOf (A x) = some i → idOf (A y) ≠ some i
 sb : ∀ x y i, g x → g y → x ≠ y → idOf (B x) = some i → idOf (B y) ≠ some i
section
variable {g : Int → Prop} {S S' : zA} {m : Nat} {A B : Int → V} {t : List Node}
theorem St.keep (h : St g S m A B t) (hk : Keep S S') : St g S' m A B t := by
 obtain ⟨L, c, h1, h2⟩ := h.mp
 exact ⟨⟨L, c, hk _ _ h1, h2⟩, fun x hx => (h.da x hx).keep hk, fun x hx => (h.na x hx).keep hk, h.z, h.sa, h.sb⟩
theorem zko : zD zM (.ts []) (.ts []) = .agg [.d (.int .i64 0), .d (.int .i64 0), .d (.int .i64 0), .d (.int .i64 0), .d (.int .i64 0), .ts [], .ts []] := rfl
theorem St.look (h : St g S m A B t) (x : Int) : jR Try.prog S 125 (.mr m) (.d (.int .i64 x)) true = some (.tup [zD (getN t x) (A x) (B x), .d (.bool (hasN t x))]) ∧ jR Try.prog S 125 (.mr m) (.d (.int .i64 x)) false = some (zD (getN t x) (A x) (B x)) := by
 obtain ⟨L, c, h1, _, _, h4, h5⟩ := h.mp
 have he : jZ S (.mr m) = some ((L.map mkE).map fun e => (e.1, e.2.1)) := by simp only [jZ, h1]
 rcases ziu (x := x) (L := L) (i := 0) with ⟨h2, h3⟩ | ⟨j, e, h2, h3, rfl⟩
 ·have hn : hasN t x = false := by
   cases hh : hasN t x with
   | false => rfl
   | true => obtain ⟨e, he, hx⟩ := h5 x hh; exact absurd hx (h3 e he)
  obtain ⟨z1, z2⟩ := h.z x hn
  rw [zta hn, z1, z2, zko, hn]
  constructor <;> simp only [jR, Try.underlying125, keyI, if_true, he, z32, zhp, h2, Option.map_some, Option.map_none, Bool.false_eq_true, if_false]
 ·obtain ⟨q1, q2⟩ := h4 e (List.mem_of_getElem? h3)
  rw [q1, ← q2]
  constructor <;> simp only [jR, Try.underlying125, keyI, if_true, he, z32, zhp, h2, Option.map_some, Bool.false_eq_true, if_false]
theorem zih {L : Ents} (hn : (L.map (·.1)).Nodup) {a b : Int × V × Nat} (ha : a ∈ L) (hb : b ∈ L) (he : a.1 = b.1) : a = b := by
 induction L with
 | nil => cases ha
 | cons x r ih =>
  rw [List.map_cons, List.nodup_cons] at hn
  rcases List.mem_cons.1 ha with e | ha <;> rcases List.mem_cons.1 hb with e' | hb
  ·rw [e, e']
  ·exact absurd (List.mem_map.2 ⟨b, hb, by rw [← he, e]⟩) hn.1
  ·exact absurd (List.mem_map.2 ⟨a, ha, by rw [he, e']⟩) hn.1
  ·exact ih hn.2 ha hb
theorem St.upd {x : Int} {n : Node} {a b : V} (hs : Srt t) (h : St (fun y => g y ∧ y ≠ x) S m A B t) (hx : n.ino = x) (ha : SlE encU S a 5 n.data) (hb : SlE zJ S b 88 n.names)
  (sa : ∀ y i, g y → y ≠ x → idOf a = some i → idOf (A y) ≠ some i) (sb : ∀ y i, g y → y ≠ x → idOf b = some i → idOf (B y) ≠ some i) :
  ∃ o, qS Try.prog S 125 (.mr m) (.d (.int .i64 x)) (zD n a b) = some (S.set m o) ∧ St g (S.set m o) m (fun y => if y = x then a else A y) (fun y => if y = x then b else B y) (qY t n) := by
 obtain ⟨L, c, h1, h2, h3, h4, h5⟩ := h.mp
 have hg : ∀ y, getN (qY t n) y = if y = x then n else getN t y := fun y => by rw [qX hs.uniq]; unfold Proofs.Ytghllhghboaagaa.upd; rw [hx]
 have ho : V.one (zD n a b) = true := rfl
 have hd : asD (.d (.int .i64 x)) = some (.int .i64 x) := rfl
 have row : ∀ (o : Ob) (j : Nat) (ys : List V) (u : TypeId), j ≠ m → S[j]? = some (.row ys u) → (S.set m o)[j]? = some (.row ys u) := fun o j ys u hj hr => by rw [List.getElem?_set_ne (Ne.symm hj)]; exact hr
 have sl : ∀ {α : Type} {enc : α → D} {v : V} {e : TypeId} {xs : List α} (o : Ob), SlE enc S v e xs → SlE enc (S.set m o) v e xs := fun {α enc v e xs} o hv => hv.frame (k := m) (by
  intro hh
  rcases hv with ⟨rfl, _⟩ | ⟨id, ys, rfl, q⟩
  ·cases hh
  ·cases hh; rw [h1] at q; cases q) (fun j ys u => row o j ys u)
 have fin : ∀ (L' : Ents) (c' : Nat), L'.length = (qY t n).length → (L'.map (·.1)).Nodup → (∀ e ∈ L', (e.1 = x ∧ e.2.1 = zD n a b) ∨ (e.1 ≠ x ∧ e ∈ L)) → (∀ y, y = x ∨ hasN t y = true → ∃ e ∈ L', e.1 = y) → St g (S.set m (.mp (L'.map mkE) c')) m (fun y => if y = x then a else A y) (fun y => if y = x then b else B y) (qY t n) := by
  intro L' c' k1 k2 k3 k4
  refine ⟨⟨L', c', ?_, k1, k2, ?_, ?_⟩, ?_, ?_, ?_, ?_, ?_⟩
  ·rw [List.getElem?_set_self (zZ h1)]
  ·intro e he
   rcases k3 e he with ⟨e1, e2⟩ | ⟨e1, e2⟩
   ·refine ⟨z6n.2 (.inl (e1.trans hx.symm)), ?_⟩
    rw [e2, hg, if_pos e1, if_pos e1, if_pos e1]
   ·refine ⟨z6n.2 (.inr (h4 e e2).1), ?_⟩
    rw [(h4 e e2).2, hg, if_neg e1, if_neg e1, if_neg e1]
  ·intro y hy
   rcases z6n.1 hy with e | e
   ·exact k4 y (.inl (e.trans hx))
   ·exact k4 y (.inr e)
  ·intro y hy
   rw [hg]
   by_cases e : y = x
   ·simp only [e, if_true]; exact sl _ ha
   ·simp only [e, if_false]; exact sl _ (h.da y ⟨hy, e⟩)
  ·intro y hy
   rw [hg]
   by_cases e : y = x
   ·simp only [e, if_true]; exact sl _ hb
   ·simp only [e, if_false]; exact sl _ (h.na y ⟨hy, e⟩)
  ·intro y hy
   have hn : ¬ (y = n.ino ∨ hasN t y = true) := fun hh => by rw [z6n.2 hh] at hy; cases hy
   have e : y ≠ x := fun hh => hn (.inl (hh.trans hx.symm))
   simp only [e, if_false]
   exact h.z y (Bool.eq_false_iff.2 fun hh => hn (.inr hh))
  ·intro y w i hy hw hne hi
   by_cases e : y = x <;> by_cases e' : w = x
   ·exact absurd (e.trans e'.symm) hne
   ·simp only [e, e', if_true, if_false] at hi ⊢; exact sa w i hw e' hi
   ·simp only [e, e', if_true, if_false] at hi ⊢; exact fun hh => sa y i hy e hh hi
   ·simp only [e, e', if_false] at hi ⊢; exact h.sa y w i ⟨hy, e⟩ ⟨hw, e'⟩ hne hi
  ·intro y w i hy hw hne hi
   by_cases e : y = x <;> by_cases e' : w = x
   ·exact absurd (e.trans e'.symm) hne
   ·simp only [e, e', if_true, if_false] at hi ⊢; exact sb w i hw e' hi
   ·simp only [e, e', if_true, if_false] at hi ⊢; exact fun hh => sb y i hy e hh hi
   ·simp only [e, e', if_false] at hi ⊢; exact h.sb y w i ⟨hy, e⟩ ⟨hw, e'⟩ hne hi
 have hl := zqf (n := n) hs
 rw [hx] at hl
 rcases ziu (x := x) (L := L) (i := 0) with ⟨h6, h7⟩ | ⟨j, e, h6, h7, h8⟩
 ·have hn : ¬ hasN t x = true := fun hh => by obtain ⟨e, he, hx⟩ := h5 x hh; exact absurd hx (h7 e he)
  rw [if_neg hn] at hl
  refine ⟨.mp ((L ++ [(x, zD n a b, c)]).map mkE) (c + 1), ?_, fin _ _ ?_ ?_ ?_ ?_⟩
  ·simp only [qS, Try.underlying125, keyI, ho, Bool.and_self, if_true, hd, h1, h6, List.map_append, List.map_cons, List.map_nil, mkE]
  ·simp only [List.length_append, List.length_cons, List.length_nil]; omega
  ·rw [List.map_append, List.nodup_append]
   refine ⟨h3, by simp, ?_⟩
   intro p hp q hq
   simp only [List.map_cons, List.map_nil, List.mem_singleton] at hq
   obtain ⟨e, he, rfl⟩ := List.mem_map.1 hp
   rw [hq]; exact h7 e he
  ·intro e he
   rcases List.mem_append.1 he with he | he
   ·exact .inr ⟨h7 e he, he⟩
   ·rw [List.mem_singleton.1 he]; exact .inl ⟨rfl, rfl⟩
  ·rintro y (rfl | hy)
   ·exact ⟨_, List.mem_append.2 (.inr (List.mem_singleton.2 rfl)), rfl⟩
   ·obtain ⟨e, he, he2⟩ := h5 y hy
    exact ⟨e, List.mem_append.2 (.inl he), he2⟩
 ·have hmem := List.mem_of_getElem? h7
  have hn : hasN t x = true := by rw [← h8]; exact (h4 e hmem).1
  have hj := (List.getElem?_eq_some_iff.1 h7)
  obtain ⟨hj1, hj2⟩ := hj
  rw [if_pos hn] at hl
  have hset : (L.map mkE)[j]? = some (mkE e) := by rw [List.getElem?_map, h7]; rfl
  have hsm : z8g (mkE e).1 (.int .i64 x) = true := by
   show z8g (.int .i64 e.1) (.int .i64 x) = true
   rw [h8]; simp [z8g, jY]
  have hkeys : (L.set j (x, zD n a b, e.2.2)).map (·.1) = L.map (·.1) := by
   refine List.ext_getElem? fun k => ?_
   by_cases hk : j = k
   ·subst hk
    rw [List.getElem?_map, List.getElem?_set_self hj1, List.getElem?_map, h7]
    exact congrArg some h8.symm
   ·rw [List.getElem?_map, List.getElem?_set_ne hk, List.getElem?_map]
  have hnd : ((L.set j (x, zD n a b, e.2.2)).map (·.1)).Nodup := by rw [hkeys]; exact h3
  have hmine : (x, zD n a b, e.2.2) ∈ L.set j (x, zD n a b, e.2.2) := List.mem_of_getElem? (i := j) (List.getElem?_set_self hj1)
  refine ⟨.mp ((L.set j (x, zD n a b, e.2.2)).map mkE) c, ?_, fin _ _ ?_ hnd ?_ ?_⟩
  ·simp only [qS, Try.underlying125, keyI, ho, Bool.and_self, if_true, hd, h1, h6, Nat.zero_add, hset, hsm, List.map_set]
   rfl
  ·rw [List.length_set]; omega
  ·intro q hq
   by_cases hqx : q.1 = x
   ·have := zih hnd hq hmine hqx
    rw [this]; exact .inl ⟨rfl, rfl⟩
   ·rcases List.mem_or_eq_of_mem_set hq with h9 | h9
    ·exact .inr ⟨hqx, h9⟩
    ·rw [h9] at hqx; exact absurd rfl hqx
  ·rintro y hy
   by_cases hyx : y = x
   ·exact ⟨_, hmine, hyx.symm⟩
   ·rcases hy with hy | hy
    ·exact absurd hy hyx
    ·obtain ⟨q, hq, hq2⟩ := h5 y hy
     obtain ⟨k, hk⟩ := List.getElem?_of_mem hq
     have hkj : k ≠ j := fun hh => by rw [hh, h7] at hk; cases hk; exact hyx (hq2.symm.trans h8)
     exact ⟨q, List.mem_of_getElem? (i := k) (by rw [List.getElem?_set_ne (Ne.symm hkj)]; exact hk), hq2⟩
theorem St.del {x : Int} (hs : Srt t) (h : St g S m A B t) : ∃ o, z27 Try.prog S 125 (.mr m) (.d (.int .i64 x)) = some (S.set m o) ∧ St g (S.set m o) m (fun y => if y = x then .ts [] else A y) (fun y => if y = x then .ts [] else B y) (t.filter (fun n => n.ino ≠ x)) := by
 obtain ⟨L, c, h1, h2, h3, h4, h5⟩ := h.mp
 have hg : ∀ y, getN (t.filter (fun n => n.ino ≠ x)) y = if y = x then zM else getN t y := fun y => by rw [z1m hs.uniq]; rfl
 have row : ∀ (o : Ob) (j : Nat) (ys : List V) (u : TypeId), j ≠ m → S[j]? = some (.row ys u) → (S.set m o)[j]? = some (.row ys u) := fun o j ys u hj hr => by rw [List.getElem?_set_ne (Ne.symm hj)]; exact hr
 have sl : ∀ {α : Type} {enc : α → D} {v : V} {e : TypeId} {xs : List α} (o : Ob), SlE enc S v e xs → SlE enc (S.set m o) v e xs := fun {α enc v e xs} o hv => hv.frame (k := m) (by
  intro hh
  rcases hv with ⟨rfl, _⟩ | ⟨id, ys, rfl, q⟩
  ·cases hh
  ·cases hh; rw [h1] at q; cases q) (fun j ys u => row o j ys u)
 have hl := zgb (i := x) hs
 have fin : ∀ (L' : Ents) (c' : Nat), L'.length = (t.filter (fun n => n.ino ≠ x)).length → (L'.map (·.1)).Nodup → (∀ e ∈ L', e.1 ≠ x ∧ e ∈ L) → (∀ y, y ≠ x → hasN t y = true → ∃ e ∈ L', e.1 = y) → St g (S.set m (.mp (L'.map mkE) c')) m (fun y => if y = x then .ts [] else A y) (fun y => if y = x then .ts [] else B y) (t.filter (fun n => n.ino ≠ x)) := by
  intro L' c' k1 k2 k3 k4
  refine ⟨⟨L', c', ?_, k1, k2, ?_, ?_⟩, ?_, ?_, ?_, ?_, ?_⟩
  ·rw [List.getElem?_set_self (zZ h1)]
  ·intro e he
   obtain ⟨e1, e2⟩ := k3 e he
   refine ⟨zcp.2 ⟨e1, (h4 e e2).1⟩, ?_⟩
   rw [(h4 e e2).2, hg, if_neg e1, if_neg e1, if_neg e1]
  ·intro y hy
   obtain ⟨e1, e2⟩ := zcp.1 hy
   exact k4 y e1 e2
  ·intro y hy
   rw [hg]
   by_cases e : y = x
   ·simp only [e, if_true]; exact .inl ⟨rfl, rfl⟩
   ·simp only [e, if_false]; exact sl _ (h.da y hy)
  ·intro y hy
   rw [hg]
   by_cases e : y = x
   ·simp only [e, if_true]; exact .inl ⟨rfl, rfl⟩
   ·simp only [e, if_false]; exact sl _ (h.na y hy)
  ·intro y hy
   by_cases e : y = x
   ·rw [if_pos e, if_pos e]; exact ⟨rfl, rfl⟩
   ·simp only [e, if_false]
    exact h.z y (Bool.eq_false_iff.2 fun hh => by rw [zcp.2 ⟨e, hh⟩] at hy; cases hy)
  ·intro y w i hy hw hne hi
   by_cases e : y = x
   ·simp only [e, if_true] at hi; cases hi
   ·by_cases e' : w = x
    ·simp only [e', if_true]; exact fun hh => by cases hh
    ·simp only [e, e', if_false] at hi ⊢; exact h.sa y w i hy hw hne hi
  ·intro y w i hy hw hne hi
   by_cases e : y = x
   ·simp only [e, if_true] at hi; cases hi
   ·by_cases e' : w = x
    ·simp only [e', if_true]; exact fun hh => by cases hh
    ·simp only [e, e', if_false] at hi ⊢; exact h.sb y w i hy hw hne hi
 rcases ziu (x := x) (L := L) (i := 0) with ⟨h6, h7⟩ | ⟨j, e, h6, h7, h8⟩
 ·have hn : ¬ hasN t x = true := fun hh => by obtain ⟨e, he, hx⟩ := h5 x hh; exact absurd hx (h7 e he)
  rw [if_neg hn] at hl
  refine ⟨.mp (L.map mkE) c, ?_, fin L c (by omega) h3 (fun e he => ⟨h7 e he, he⟩) (fun y _ hy => h5 y hy)⟩
  simp only [z27, Try.underlying125, keyI, if_true, h1, h6]
 ·have hmem := List.mem_of_getElem? h7
  have hn : hasN t x = true := by rw [← h8]; exact (h4 e hmem).1
  obtain ⟨hj1, hj2⟩ := List.getElem?_eq_some_iff.1 h7
  rw [if_pos hn] at hl
  have hsub : (L.eraseIdx j).Sublist L := List.eraseIdx_sublist ..
  have hsplit : L = L.take j ++ e :: L.drop (j + 1) := by
   rw [← hj2, ← List.drop_eq_getElem_cons hj1, List.take_append_drop]
  refine ⟨.mp ((L.eraseIdx j).map mkE) c, ?_, fin _ _ ?_ ((hsub.map _).nodup h3) ?_ ?_⟩
  ·have hmap : (L.map mkE).eraseIdx j = (L.eraseIdx j).map mkE := by simp only [List.eraseIdx_eq_take_drop_succ, List.map_append, List.map_take, List.map_drop]
   simp only [z27, Try.underlying125, keyI, if_true, h1, h6, Nat.zero_add, hmap]
  ·rw [List.length_eraseIdx, if_pos hj1]; omega
  ·intro q hq
   have hq1 := hsub.mem hq
   refine ⟨fun hqx => ?_, hq1⟩
   have hqe := zih h3 hq1 hmem (hqx.trans h8.symm)
   rw [hqe, List.eraseIdx_eq_take_drop_succ] at hq
   rw [hsplit, List.map_append, List.map_cons, List.nodup_append] at h3
   obtain ⟨k1, k2, k3⟩ := h3
   rw [List.nodup_cons] at k2
   rcases List.mem_append.1 hq with hq | hq
   ·exact k3 _ (List.mem_map.2 ⟨e, hq, rfl⟩) _ (by simp) rfl
   ·exact k2.1 (List.mem_map.2 ⟨e, hq, rfl⟩)
  ·intro y hyx hy
   obtain ⟨q, hq, hq2⟩ := h5 y hy
   refine ⟨q, ?_, hq2⟩
   rw [List.eraseIdx_eq_take_drop_succ]
   rw [hsplit] at hq
   rcases List.mem_append.1 hq with hq | hq
   ·exact List.mem_append.2 (.inl hq)
   ·rcases List.mem_cons.1 hq with rfl | hq
    ·exact absurd (hq2.symm.trans h8) hyx
    ·exact List.mem_append.2 (.inr hq)
theorem St.frame {x : Int} {k : Nat} (h : St g S m A B t) (hx : g x) (hk : idOf (A x) = some k ∨ idOf (B x) = some k) (hf : ∀ (j : Nat) (o : Ob), j ≠ k → S[j]? = some o → S'[j]? = some o) : St (fun y => g y ∧ y ≠ x) S' m A B t := by
 have hrow : (∃ ys, S[k]? = some (.row ys 5) ∧ idOf (A x) = some k) ∨ (∃ ys, S[k]? = some (.row ys 88) ∧ idOf (B x) = some k) := by
  rcases hk with hk | hk
  ·rcases h.da x hx with ⟨h1, _⟩ | ⟨id, ys, h1, h2⟩
   ·rw [h1] at hk; cases hk
   ·rw [h1] at hk; cases hk; exact .inl ⟨_, h2, by rw [h1]; rfl⟩
  ·rcases h.na x hx with ⟨h1, _⟩ | ⟨id, ys, h1, h2⟩
   ·rw [h1] at hk; cases hk
   ·rw [h1] at hk; cases hk; exact .inr ⟨_, h2, by rw [h1]; rfl⟩
 obtain ⟨L, c, h1, h2⟩ := h.mp
 have hm : m ≠ k := by
  rintro rfl
  rcases hrow with ⟨ys, q, _⟩ | ⟨ys, q, _⟩ <;> (rw [h1] at q; cases q)
 refine ⟨⟨L, c, hf _ _ hm h1, h2⟩, ?_, ?_, h.z, fun y w i hy hw => h.sa y w i hy.1 hw.1, fun y w i hy hw => h.sb y w i hy.1 hw.1⟩
 ·rintro y ⟨hy, hne⟩
  refine (h.da y hy).frame (k := k) ?_ (fun j ys u hj hr => hf j _ hj hr)
  rcases hrow with ⟨ys, q, hi⟩ | ⟨ys, q, hi⟩
  ·exact h.sa x y k hx hy (Ne.symm hne) hi
  ·intro hh
   rcases h.da y hy with ⟨e1, _⟩ | ⟨id, zs, e1, e2⟩
   ·rw [e1] at hh; cases hh
   ·rw [e1] at hh; cases hh; rw [q] at e2; cases e2
 ·rintro y ⟨hy, hne⟩
  refine (h.na y hy).frame (k := k) ?_ (fun j ys u hj hr => hf j _ hj hr)
  rcases hrow with ⟨ys, q, hi⟩ | ⟨ys, q, hi⟩
  ·intro hh
   rcases h.na y hy with ⟨e1, _⟩ | ⟨id, zs, e1, e2⟩
   ·rw [e1] at hh; cases hh
   ·rw [e1] at hh; cases hh; rw [q] at e2; cases e2
  ·exact h.sb x y k hx hy (Ne.symm hne) hi
theorem St.less {g' : Int → Prop} (h : St g S m A B t) (hg : ∀ x, g' x → g x) : St g' S m A B t :=
 ⟨h.mp, fun x hx => h.da x (hg x hx), fun x hx => h.na x (hg x hx), h.z, fun x y i hx hy => h.sa x y i (hg x hx) (hg y hy), fun x y i hx hy => h.sb x y i (hg x hx) (hg y hy)⟩
theorem St.nodeF (h : St g S m A B t) {x : Int} (hx : g x) {n : Nat} : frz S (n + 3) (zD (getN t x) (A x) (B x)) = some (zB (getN t x)) := by
 have e1 : frz S (n + 2) (A x) = some (encB (getN t x).data) := (h.da x hx).frz
 have e2 : frz S (n + 2) (B x) = some (.sl ((getN t x).names.map zJ)) := (h.na x hx).frz
 generalize getN t x = y at *
 show (match allO (frz S (n + 2)) [.d (.int .i64 y.ino), .d (.int .i64 y.kind), .d (.int .i64 y.links), .d (.int .i64 y.parent), .d (.int .i64 y.size), A x, B x] with | some ds => if ds.any D.isAgg then none else some (D.agg ds) | none => none) = _
 have h2 : ∀ x : D, frz S (n + 2) (.d x) = some x := fun _ => rfl
 simp only [allO, e1, e2, h2]
 rfl
end
end Go.Proofs.Ytghllhghboaagaa
end
