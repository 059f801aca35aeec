/- Trees that are right, as functions from numbers to nodes: what the steps keep. Plain. -/
import Derived.ProofKit
import Derived.Deep.Slices
import Derived.OpenShut
import Derived.WalkKit
import Derived.Defers
import Derived.Recover
import Derived.Laws.Pointers
import Derived.OneCell
import Derived.Test.YtghllhghboaagaaP10
/-! Trees that are right, as functions from numbers to nodes: what the steps keep. Plain. -/
section
set_option linter.unusedVariables false
set_option linter.unusedSimpArgs false
namespace Go.Proofs.Ytghllhghboaagaa
open Go.Vm
def upd (g : Int → Node) (m : Node) : Int → Node := fun x => if x = m.ino then m else g x
def del (g : Int → Node) (i : Int) : Int → Node := fun x => if x = i then zeroNode else g x
/-- The parents lead to the root, and not by way of i. -/
inductive Up (g : Int → Node) (i : Int) : Int → Prop
  | root : i ≠ 1 → Up g i 1
  | step {x : Int} : x ≠ i → (g x).kind = 2 → x ≠ 1 → Up g i (g x).parent → Up g i x
theorem Up.mono {g g' : Int → Node} {i x : Int} (h : ∀ x, (g x).kind = 2 → x ≠ i → (g' x).kind = 2 ∧ (g' x).parent = (g x).parent) (hx : Up g i x) : Up g' i x := by
  induction hx with
  | root h1 => exact .root h1
  | step h1 h2 h3 _ ih => exact .step h1 (h _ h2 h1).1 h3 (by rw [(h _ h2 h1).2]; exact ih)
/-- A tree that is right, but that directory i may not be told. -/
structure Inv (g : Int → Node) (i : Int) : Prop where
  root : (g 1).kind = 2
  ge2 : ∀ x, ∀ e ∈ (g x).names, 2 ≤ e.ino
  un : ∀ x, ∀ e ∈ (g x).names, ∀ e' ∈ (g x).names, e.name = e'.name → e.ino = e'.ino
  ln : ∀ x, (g x).kind = 2 → (g x).links = 1
  told : ∀ x, (g x).kind = 2 → x ≠ 1 → x ≠ i → (g (g x).parent).kind = 2 ∧ ∃ e ∈ (g (g x).parent).names, e.ino = x
  way : ∀ x, (g x).kind = 2 → Up g 0 x
  pos : ∀ x, (g x).kind = 2 → 1 ≤ x
theorem Inv.any {g : Int → Node} {i : Int} (h : Inv g 1) : Inv g i :=
  ⟨h.root, h.ge2, h.un, h.ln, fun x h1 h2 _ => h.told x h1 h2 h2, h.way, h.pos⟩
theorem Inv.file {g : Int → Node} {i : Int} {m : Node} (h : Inv g i) (hm : m.kind ≠ 2) (hg : (g m.ino).kind ≠ 2) (h2 : ∀ e ∈ m.names, 2 ≤ e.ino) (hu : ∀ e ∈ m.names, ∀ e' ∈ m.names, e.name = e'.name → e.ino = e'.ino) : Inv (upd g m) i := by
  have hk : ∀ x, (upd g m x).kind = 2 → x ≠ m.ino ∧ (g x).kind = 2 := fun x hx => by unfold upd at hx; grind
  have he : ∀ x, x ≠ m.ino → upd g m x = g x := fun x hx => by simp [upd, hx]
  have hs : upd g m m.ino = m := by simp [upd]
  refine ⟨?_, ?_, ?_, ?_, ?_, ?_, ?_⟩
  · rw [he]; exact h.root
    intro h1; rw [← h1] at hg; exact hg h.root
  · intro x e hx
    by_cases hxm : x = m.ino
    · rw [hxm, hs] at hx; exact h2 e hx
    · rw [he x hxm] at hx; exact h.ge2 x e hx
  · intro x
    by_cases hxm : x = m.ino
    · rw [hxm, hs]; exact hu
    · rw [he x hxm]; exact h.un x
  · intro x hx
    obtain ⟨h1, h3⟩ := hk x hx
    rw [he x h1]; exact h.ln x h3
  · intro x hx n1 ni
    obtain ⟨h1, h3⟩ := hk x hx
    rw [he x h1]
    obtain ⟨h4, h5⟩ := h.told x h3 n1 ni
    have h6 : (g x).parent ≠ m.ino := fun hh => by rw [hh] at h4; exact hg h4
    rw [he _ h6]; exact ⟨h4, h5⟩
  · intro x hx
    obtain ⟨h1, h3⟩ := hk x hx
    refine (h.way x h3).mono fun y hy _ => ?_
    have : y ≠ m.ino := fun hh => by rw [hh] at hy; exact hg hy
    rw [he y this]; exact ⟨hy, rfl⟩
  · intro x hx
    exact h.pos x (hk x hx).2
theorem Inv.delFile {g : Int → Node} {i j : Int} (h : Inv g i) (hg : (g j).kind ≠ 2) : Inv (del g j) i := by
  have he : ∀ x, x ≠ j → del g j x = g x := fun x hx => by simp [del, hx]
  have hs : del g j j = zeroNode := by simp [del]
  have hk : ∀ x, (del g j x).kind = 2 → x ≠ j ∧ (g x).kind = 2 := fun x hx => by
    by_cases hxj : x = j
    · rw [hxj, hs] at hx; exact absurd hx (by simp [zeroNode])
    · rw [he x hxj] at hx; exact ⟨hxj, hx⟩
  refine ⟨?_, ?_, ?_, ?_, ?_, ?_, ?_⟩
  · rw [he]; exact h.root
    intro h1; rw [← h1] at hg; exact hg h.root
  · intro x e hx
    by_cases hxm : x = j
    · rw [hxm, hs] at hx; simp [zeroNode] at hx
    · rw [he x hxm] at hx; exact h.ge2 x e hx
  · intro x
    by_cases hxm : x = j
    · rw [hxm, hs]; simp [zeroNode]
    · rw [he x hxm]; exact h.un x
  · intro x hx
    obtain ⟨h1, h3⟩ := hk x hx
    rw [he x h1]; exact h.ln x h3
  · intro x hx n1 ni
    obtain ⟨h1, h3⟩ := hk x hx
    rw [he x h1]
    obtain ⟨h4, h5⟩ := h.told x h3 n1 ni
    have h6 : (g x).parent ≠ j := fun hh => by rw [hh] at h4; exact hg h4
    rw [he _ h6]; exact ⟨h4, h5⟩
  · intro x hx
    obtain ⟨h1, h3⟩ := hk x hx
    refine (h.way x h3).mono fun y hy _ => ?_
    have : y ≠ j := fun hh => by rw [hh] at hy; exact hg hy
    rw [he y this]; exact ⟨hy, rfl⟩
  · intro x hx
    exact h.pos x (hk x hx).2
/-- An empty directory goes. -/
theorem Inv.delDir {g : Int → Node} {j : Int} (h : Inv g j) (hj : j ≠ 1) (hn : (g j).names = []) : Inv (del g j) 1 := by
  have he : ∀ x, x ≠ j → del g j x = g x := fun x hx => by simp [del, hx]
  have hs : del g j j = zeroNode := by simp [del]
  have hk : ∀ x, (del g j x).kind = 2 → x ≠ j ∧ (g x).kind = 2 := fun x hx => by
    by_cases hxj : x = j
    · rw [hxj, hs] at hx; exact absurd hx (by simp [zeroNode])
    · rw [he x hxj] at hx; exact ⟨hxj, hx⟩
  have hp : ∀ x, (g x).kind = 2 → x ≠ 1 → x ≠ j → (g x).parent ≠ j := fun x h1 h2 h3 hh => by
    obtain ⟨_, e, h5, _⟩ := h.told x h1 h2 h3
    rw [hh, hn] at h5
    simp at h5
  refine ⟨?_, ?_, ?_, ?_, ?_, ?_, ?_⟩
  · rw [he _ (fun h1 => hj h1.symm)]; exact h.root
  · intro x e hx
    by_cases hxm : x = j
    · rw [hxm, hs] at hx; simp [zeroNode] at hx
    · rw [he x hxm] at hx; exact h.ge2 x e hx
  · intro x
    by_cases hxm : x = j
    · rw [hxm, hs]; simp [zeroNode]
    · rw [he x hxm]; exact h.un x
  · intro x hx
    obtain ⟨h1, h3⟩ := hk x hx
    rw [he x h1]; exact h.ln x h3
  · intro x hx n1 ni
    obtain ⟨h1, h3⟩ := hk x hx
    rw [he x h1, he _ (hp x h3 n1 h1)]
    exact h.told x h3 n1 h1
  · intro x hx
    obtain ⟨h1, h3⟩ := hk x hx
    have hw := h.way x h3
    clear hx h3
    induction hw with
    | root h0 => exact .root h0
    | step h4 h5 h6 _ ih => exact .step h4 (by rw [he _ h1]; exact h5) h6 (by rw [he _ h1]; exact ih (hp _ h5 h6 h1))
  · intro x hx
    exact h.pos x (hk x hx).2
/-- The names of a directory change. -/
theorem Inv.names {g : Int → Node} {i j d : Int} {m : Node} (h : Inv g i) (hd : (g d).kind = 2) (hi : m.ino = d) (hk : m.kind = 2) (hl : m.links = (g d).links) (hp : m.parent = (g d).parent)
    (h2 : ∀ e ∈ m.names, 2 ≤ e.ino) (hu : ∀ e ∈ m.names, ∀ e' ∈ m.names, e.name = e'.name → e.ino = e'.ino)
    (ht : ∀ x, (g x).kind = 2 → x ≠ 1 → x ≠ j → (g (g x).parent).kind = 2 ∧ ∃ e ∈ (if (g x).parent = d then m.names else (g (g x).parent).names), e.ino = x) : Inv (upd g m) j := by
  have he : ∀ x, x ≠ d → upd g m x = g x := fun x hx => by simp [upd, hi, hx]
  have hs : upd g m d = m := by simp [upd, hi]
  have hkk : ∀ x, (upd g m x).kind = (g x).kind := fun x => by
    by_cases hx : x = d
    · rw [hx, hs, hk, hd]
    · rw [he x hx]
  have hpp : ∀ x, (upd g m x).parent = (g x).parent := fun x => by
    by_cases hx : x = d
    · rw [hx, hs, hp]
    · rw [he x hx]
  have hnn : ∀ x, (upd g m x).names = if x = d then m.names else (g x).names := fun x => by
    by_cases hx : x = d
    · rw [if_pos hx, hx, hs]
    · rw [if_neg hx, he x hx]
  refine ⟨?_, ?_, ?_, ?_, ?_, ?_, ?_⟩
  · rw [hkk]; exact h.root
  · intro x e hx
    rw [hnn] at hx
    split at hx
    · exact h2 e hx
    · exact h.ge2 x e hx
  · intro x
    rw [hnn]
    split
    · exact hu
    · exact h.un x
  · intro x hx
    rw [hkk] at hx
    by_cases hxd : x = d
    · rw [hxd, hs, hl]; exact h.ln d hd
    · rw [he x hxd]; exact h.ln x hx
  · intro x hx n1 nj
    rw [hkk] at hx
    rw [hpp, hkk, hnn]
    exact ht x hx n1 nj
  · intro x hx
    rw [hkk] at hx
    exact (h.way x hx).mono fun y hy _ => ⟨by rw [hkk]; exact hy, hpp y⟩
  · intro x hx
    rw [hkk] at hx
    exact h.pos x hx
/-- A directory is new: it is not told yet. -/
theorem Inv.newDir {g : Int → Node} {m : Node} (h : Inv g 1) (hg : (g m.ino).kind ≠ 2) (hm : m.kind = 2) (hl : m.links = 1) (hn : m.names = []) (hp : (g m.parent).kind = 2) (h2 : 2 ≤ m.ino) : Inv (upd g m) m.ino := by
  have he : ∀ x, x ≠ m.ino → upd g m x = g x := fun x hx => by simp [upd, hx]
  have hs : upd g m m.ino = m := by simp [upd]
  have hmono : ∀ x, Up g 0 x → Up (upd g m) 0 x := fun x hx => hx.mono fun y hy _ => by
    have : y ≠ m.ino := fun hh => by rw [hh] at hy; exact hg hy
    rw [he y this]; exact ⟨hy, rfl⟩
  refine ⟨?_, ?_, ?_, ?_, ?_, ?_, ?_⟩
  · rw [he _ (by omega)]; exact h.root
  · intro x e hx
    by_cases hxm : x = m.ino
    · rw [hxm, hs, hn] at hx; simp at hx
    · rw [he x hxm] at hx; exact h.ge2 x e hx
  · intro x
    by_cases hxm : x = m.ino
    · rw [hxm, hs, hn]; simp
    · rw [he x hxm]; exact h.un x
  · intro x hx
    by_cases hxm : x = m.ino
    · rw [hxm, hs, hl]
    · rw [he x hxm] at hx ⊢; exact h.ln x hx
  · intro x hx n1 ni
    rw [he x ni] at hx ⊢
    obtain ⟨h4, h5⟩ := h.told x hx n1 n1
    have h6 : (g x).parent ≠ m.ino := fun hh => by rw [hh] at h4; exact hg h4
    rw [he _ h6]; exact ⟨h4, h5⟩
  · intro x hx
    by_cases hxm : x = m.ino
    · rw [hxm]
      refine .step (by omega) (by rw [hs]; exact hm) (by omega) ?_
      rw [hs]
      exact hmono _ (h.way _ hp)
    · rw [he x hxm] at hx; exact hmono _ (h.way x hx)
  · intro x hx
    by_cases hxm : x = m.ino
    · omega
    · rw [he x hxm] at hx; exact h.pos x hx
/-- A directory has another parent, that tells it. -/
theorem Inv.move {g : Int → Node} {i d : Int} {m : Node} (h : Inv g i) (hi : m.ino = i) (hk : m.kind = 2) (hki : (g i).kind = 2) (h1 : i ≠ 1) (hl : m.links = (g i).links) (hp : m.parent = d) (hn : m.names = (g i).names)
    (hd : (g d).kind = 2) (hid : d ≠ i) (ht : ∃ e ∈ (g d).names, e.ino = i) (hu : Up g i d) : Inv (upd g m) 1 := by
  have he : ∀ x, x ≠ i → upd g m x = g x := fun x hx => by simp [upd, hi, hx]
  have hs : upd g m i = m := by simp [upd, hi]
  have hkk : ∀ x, (upd g m x).kind = (g x).kind := fun x => by
    by_cases hx : x = i
    · rw [hx, hs, hk, hki]
    · rw [he x hx]
  have hnn : ∀ x, (upd g m x).names = (g x).names := fun x => by
    by_cases hx : x = i
    · rw [hx, hs, hn]
    · rw [he x hx]
  have hpi := h.pos i hki
  have hup : ∀ x, Up g i x → Up (upd g m) 0 x := fun x hx => by
    induction hx with
    | root _ => exact .root (by omega)
    | step a b c _ ih =>
      have := h.pos _ b
      exact .step (by omega) (by rw [hkk]; exact b) c (by rw [he _ a]; exact ih)
  refine ⟨?_, ?_, ?_, ?_, ?_, ?_, ?_⟩
  · rw [hkk]; exact h.root
  · intro x e hx
    rw [hnn] at hx; exact h.ge2 x e hx
  · intro x
    rw [hnn]; exact h.un x
  · intro x hx
    rw [hkk] at hx
    by_cases hxi : x = i
    · rw [hxi, hs, hl]; exact h.ln i hki
    · rw [he x hxi]; exact h.ln x hx
  · intro x hx n1 _
    rw [hkk] at hx
    by_cases hxi : x = i
    · rw [hxi, hs, hp, hkk, hnn]; exact ⟨hd, ht⟩
    · rw [he x hxi, hkk, hnn]; exact h.told x hx n1 hxi
  · intro x hx
    rw [hkk] at hx
    have hw := h.way x hx
    clear hx
    induction hw with
    | root h0 => exact .root h0
    | @step x a b c _ ih =>
      by_cases hxi : x = i
      · refine .step a (by rw [hkk]; exact b) c ?_
        rw [hxi, hs, hp]
        exact hup _ hu
      · exact .step a (by rw [hkk]; exact b) c (by rw [he _ hxi]; exact ih)
  · intro x hx
    rw [hkk] at hx; exact h.pos x hx
end Go.Proofs.Ytghllhghboaagaa
end
/-! Each step of the document's model keeps a tree right. Plain. -/
section
set_option linter.unusedVariables false
set_option linter.unusedSimpArgs false
namespace Go.Proofs.Ytghllhghboaagaa
open Go.Vm
/-- One node has a number. -/
def Uniq (t : List Node) : Prop := ∀ n ∈ t, ∀ m ∈ t, n.ino = m.ino → n = m
theorem getN_mem {t : List Node} (hu : Uniq t) {n : Node} (hn : n ∈ t) : getN t n.ino = n := by
  rcases getN_cases t n.ino with ⟨_, h⟩ | ⟨h1, h2⟩
  · exact absurd rfl (h n hn)
  · exact hu _ h1 _ hn h2
theorem getN_none {t : List Node} {x : Int} (h : ∀ n ∈ t, n.ino ≠ x) : getN t x = zeroNode := by
  rcases getN_cases t x with ⟨h1, _⟩ | ⟨h1, h2⟩
  · exact h1
  · exact absurd h2 (h _ h1)
theorem uniq_with {t : List Node} {m : Node} (hu : Uniq t) : Uniq (withN t m) := by
  intro n hn n' hn' he
  rw [mem_withN] at hn hn'
  rcases hn with rfl | ⟨h1, h2⟩ <;> rcases hn' with rfl | ⟨h3, h4⟩
  · rfl
  · exact absurd he.symm h4
  · exact absurd he h2
  · exact hu _ h1 _ h3 he
theorem getN_with {t : List Node} {m : Node} (hu : Uniq t) : getN (withN t m) = upd (getN t) m := by
  funext x
  unfold upd
  split
  · rename_i hx
    rw [hx]
    exact getN_mem (uniq_with hu) (mem_withN.2 (.inl rfl))
  · rename_i hx
    rcases getN_cases t x with ⟨h1, h2⟩ | ⟨h1, h2⟩
    · rw [h1]
      refine getN_none fun n hn => ?_
      rcases mem_withN.1 hn with rfl | ⟨h3, _⟩
      · exact fun h => hx h.symm
      · exact h2 n h3
    · have h3 : getN t x ∈ withN t m := mem_withN.2 (.inr ⟨h1, by rw [h2]; exact hx⟩)
      have := getN_mem (uniq_with hu) h3
      rw [h2] at this
      exact this
theorem uniq_filter {t : List Node} {p : Node → Bool} (hu : Uniq t) : Uniq (t.filter p) :=
  fun n hn m hm => hu n (List.mem_filter.1 hn).1 m (List.mem_filter.1 hm).1
theorem getN_filter {t : List Node} {i : Int} (hu : Uniq t) : getN (t.filter (fun n => n.ino ≠ i)) = del (getN t) i := by
  funext x
  unfold del
  split
  · rename_i hx
    refine getN_none fun n hn => ?_
    have := (List.mem_filter.1 hn).2
    rw [hx]
    simpa using this
  · rename_i hx
    rcases getN_cases t x with ⟨h1, h2⟩ | ⟨h1, h2⟩
    · rw [h1]
      exact getN_none fun n hn => h2 n (List.mem_filter.1 hn).1
    · have h3 : getN t x ∈ t.filter (fun n => n.ino ≠ i) := List.mem_filter.2 ⟨h1, by rw [h2]; simpa using hx⟩
      have := getN_mem (uniq_filter hu) h3
      rw [h2] at this
      exact this
theorem dir_ino {t : List Node} {d : Int} (h : (getN t d).kind = 2) : (getN t d).ino = d := by
  rcases getN_cases t d with ⟨h1, _⟩ | ⟨_, h2⟩
  · rw [h1] at h; simp [zeroNode] at h
  · exact h2
theorem file_ino {t : List Node} {i x : Int} (h : Inv (getN t) i) (hx : (getN t x).kind ≠ 2) : (getN t (getN t x).ino).kind ≠ 2 := by
  rcases getN_cases t x with ⟨h1, _⟩ | ⟨_, h2⟩
  · rw [h1]
    intro hh
    have := h.pos _ hh
    simp [zeroNode] at this
  · rw [h2]; exact hx
/-- A tree that is right. -/
structure TInv (t : List Node) (i : Int) : Prop where
  uniq : Uniq t
  inv : Inv (getN t) i
theorem nameN_some {l : List Ent} {s : List UInt8} (h : 0 ≤ nameN l s) : ∃ e ∈ l, e.name = s ∧ e.ino = nameN l s := by
  unfold nameN at h ⊢
  cases hf : l.find? (fun e => decide (e.name = s)) with
  | none => rw [hf] at h; simp at h
  | some e =>
    refine ⟨e, List.mem_of_find?_eq_some hf, ?_, rfl⟩
    have := List.find?_some hf
    simpa using this
theorem nameN_none {l : List Ent} {s : List UInt8} (h2 : ∀ e ∈ l, 2 ≤ e.ino) (h : nameN l s < 0) : ∀ e ∈ l, e.name ≠ s := by
  unfold nameN at h
  cases hf : l.find? (fun e => decide (e.name = s)) with
  | none =>
    intro e he hs
    have := List.find?_eq_none.1 hf e he
    simp [hs] at this
  | some e =>
    rw [hf] at h
    have := h2 e (List.mem_of_find?_eq_some hf)
    simp only at h
    omega
/-- A name goes that tells no directory, or the one that is let off. -/
theorem TInv.drop {t : List Node} {i d : Int} {s : List UInt8} (h : TInv t i) (hd : (getN t d).kind = 2) (hs : ∀ e ∈ (getN t d).names, e.name = s → (getN t e.ino).kind ≠ 2 ∨ e.ino = i) : TInv (dropN t d s) i := by
  refine ⟨uniq_with h.uniq, ?_⟩
  unfold dropN
  rw [getN_with h.uniq]
  refine h.inv.names hd (dir_ino hd) hd rfl rfl ?_ ?_ ?_
  · intro e he
    exact h.inv.ge2 d e (List.mem_filter.1 he).1
  · intro e he e' he'
    exact h.inv.un d e (List.mem_filter.1 he).1 e' (List.mem_filter.1 he').1
  · intro x hx n1 ni
    obtain ⟨h1, e, h2, h3⟩ := h.inv.told x hx n1 ni
    refine ⟨h1, e, ?_, h3⟩
    split
    · rename_i hp
      rw [hp] at h2
      refine List.mem_filter.2 ⟨h2, ?_⟩
      rw [decide_eq_true_eq]
      intro hes
      rcases hs e h2 hes with h4 | h4
      · rw [h3] at h4; exact h4 hx
      · rw [h3] at h4; exact ni h4
    · exact h2
/-- A name comes. -/
theorem TInv.put {t : List Node} {i j d x : Int} {s : List UInt8} (h : TInv t i) (hd : (getN t d).kind = 2) (hs : ∀ e ∈ (getN t d).names, e.name ≠ s) (h2 : 2 ≤ x) (hj : i ≠ j → (x = i ∧ (getN t i).parent = d)) : TInv (putN t d s x) j := by
  refine ⟨uniq_with h.uniq, ?_⟩
  unfold putN
  rw [getN_with h.uniq]
  refine h.inv.names hd (dir_ino hd) hd rfl rfl ?_ ?_ ?_
  · intro e he
    rcases mem_putA.1 he with ⟨_, rfl⟩ | he
    · exact h2
    · exact h.inv.ge2 d e he
  · intro e he e' he'
    rcases mem_putA.1 he with ⟨_, rfl⟩ | he <;> rcases mem_putA.1 he' with ⟨_, rfl⟩ | he'
    · exact fun _ => rfl
    · exact fun hh => absurd hh.symm (hs _ he')
    · exact fun hh => absurd hh (hs _ he)
    · exact h.inv.un d e he e' he'
  · intro y hy n1 nj
    by_cases hyi : y = i
    · have hij : i ≠ j := fun hh => nj (hyi.trans hh)
      obtain ⟨hx, hp⟩ := hj hij
      rw [hyi, hp, if_pos rfl]
      exact ⟨hd, ⟨s, x⟩, mem_putA.2 (.inl ⟨rfl, rfl⟩), hx⟩
    · obtain ⟨h1, e, h3, h4⟩ := h.inv.told y hy n1 hyi
      refine ⟨h1, e, ?_, h4⟩
      split
      · rename_i hp
        rw [hp] at h3
        exact mem_putA.2 (.inr h3)
      · exact h3
theorem TInv.loses {t : List Node} {i x : Int} (h : TInv t i) (hx : (getN t x).kind ≠ 2) : TInv (losesN t x) i := by
  unfold losesN
  split
  · refine ⟨uniq_filter h.uniq, ?_⟩
    rw [getN_filter h.uniq]
    exact h.inv.delFile hx
  · refine ⟨uniq_with h.uniq, ?_⟩
    rw [getN_with h.uniq]
    exact h.inv.file hx (file_ino h.inv hx) (h.inv.ge2 x) (h.inv.un x)
theorem TInv.with {t : List Node} {i : Int} {m : Node} (h : TInv t i) (hm : m.kind ≠ 2) (hg : (getN t m.ino).kind ≠ 2) (h2 : ∀ e ∈ m.names, 2 ≤ e.ino) (hu : ∀ e ∈ m.names, ∀ e' ∈ m.names, e.name = e'.name → e.ino = e'.ino) : TInv (withN t m) i := by
  refine ⟨uniq_with h.uniq, ?_⟩
  rw [getN_with h.uniq]
  exact h.inv.file hm hg h2 hu
theorem whereN_dir {t : List Node} {s : List UInt8} (h : (whereN t s).2.2 = 0) : (getN t (whereN t s).1).kind = 2 := by
  unfold whereN at h ⊢
  by_cases h1 : (splitN s).2 ≠ 0
  · rw [if_pos h1] at h; exact absurd h h1
  · rw [if_neg h1] at h ⊢
    by_cases h2 : (splitN s).1.length = 0
    · rw [if_pos h2] at h; simp at h
    · rw [if_neg h2] at h ⊢
      split at h
      · rename_i h3; exact absurd h h3
      · split at h
        · simp at h
        · rename_i h3 h4
          rw [if_neg h3, if_neg h4]
          simpa using h4
theorem goN_ge {t : List Node} (h2 : ∀ x, ∀ e ∈ (getN t x).names, 2 ≤ e.ino) : ∀ {ps : List (List UInt8)} {d : Int}, (goN t ps d).2 = 0 → (goN t ps d).1 = d ∨ 2 ≤ (goN t ps d).1
  | [], d, _ => .inl rfl
  | p :: r, d, h => by
    unfold goN at h ⊢
    split at h
    · simp at h
    · split at h
      · simp at h
      · rename_i h3 h4
        rw [if_neg h3, if_neg h4]
        obtain ⟨e, h5, _, h6⟩ := nameN_some (l := (getN t d).names) (s := p) (by omega)
        have h7 := h2 d e h5
        rcases goN_ge h2 h with h8 | h8
        · right; rw [h8]; omega
        · exact .inr h8
theorem resolveN_ge {t : List Node} {s : List UInt8} (h2 : ∀ x, ∀ e ∈ (getN t x).names, 2 ≤ e.ino) (h : (resolveN t s).2 = 0) : (resolveN t s).1 = 1 ∨ 2 ≤ (resolveN t s).1 := by
  unfold resolveN at h ⊢
  split at h
  · rename_i h1; exact absurd h h1
  · rename_i h1
    rw [if_neg h1]
    exact goN_ge h2 h
theorem TInv.make {t : List Node} {o : Opn} (h : TInv t 1) : TInv (makeN t o).1 1 := by
  unfold makeN
  split
  · exact h
  · rename_i h1
    split
    · exact h
    · rename_i h2
      have hd := whereN_dir (t := t) (s := o.a) (by simpa using h1)
      obtain ⟨hn1, hn2, _⟩ := nextN_spec t
      have hz : getN t (nextN t) = zeroNode := getN_none hn1
      have hnd : (whereN t o.a).1 ≠ nextN t := fun hh => by rw [hh, hz] at hd; simp [zeroNode] at hd
      have hkz : (getN t (nextN t)).kind ≠ 2 := by rw [hz]; simp [zeroNode]
      have hfresh := nameN_none (h.inv.ge2 (whereN t o.a).1) (Int.not_le.1 h2)
      have hi : (makeNode t o).ino = nextN t := by unfold makeNode; split <;> rfl
      have hgd : getN (withN t (makeNode t o)) (whereN t o.a).1 = getN t (whereN t o.a).1 := by
        rw [getN_with h.uniq]
        unfold upd
        rw [hi, if_neg hnd]
      by_cases ho : o.does = 2
      · have hm : makeNode t o = ⟨nextN t, 2, 1, (whereN t o.a).1, 0, [], []⟩ := by unfold makeNode; rw [if_pos ho]
        have h3 : TInv (withN t (makeNode t o)) (nextN t) := by
          refine ⟨uniq_with h.uniq, ?_⟩
          rw [getN_with h.uniq]
          have := h.inv.newDir (m := makeNode t o) (by rw [hi]; exact hkz) (by rw [hm]) (by rw [hm]) (by rw [hm]) (by rw [hm]; exact hd) (by rw [hi]; exact hn2)
          rw [hi] at this
          exact this
        have hgi : getN (withN t (makeNode t o)) (nextN t) = makeNode t o := by
          rw [getN_with h.uniq]
          unfold upd
          rw [hi, if_pos rfl]
        exact h3.put (by rw [hgd]; exact hd) (by rw [hgd]; exact hfresh) hn2 (fun _ => ⟨rfl, by rw [hgi, hm]⟩)
      · have hm : (makeNode t o).kind ≠ 2 := by unfold makeNode; rw [if_neg ho]; simp
        have hn : (makeNode t o).names = [] := by unfold makeNode; rw [if_neg ho]
        have h3 : TInv (withN t (makeNode t o)) 1 := h.with hm (by rw [hi]; exact hkz) (by rw [hn]; simp) (by rw [hn]; simp)
        exact h3.put (by rw [hgd]; exact hd) (by rw [hgd]; exact hfresh) hn2 (fun hh => absurd rfl hh)
theorem TInv.link {t : List Node} {o : Opn} (h : TInv t 1) : TInv (linkN t o).1 1 := by
  unfold linkN
  split
  · exact h
  · rename_i h1
    split
    · exact h
    · rename_i h2
      split
      · exact h
      · rename_i h3
        split
        · exact h
        · rename_i h4
          have hd := whereN_dir (t := t) (s := o.b) (by simpa using h3)
          have hge := resolveN_ge (t := t) (s := o.a) h.inv.ge2 (by simpa using h1)
          have hfresh := nameN_none (h.inv.ge2 (whereN t o.b).1) (Int.not_le.1 h4)
          have hfi := file_ino h.inv h2
          have h5 : TInv (withN t (more (getN t (resolveN t o.a).1))) 1 := h.with h2 hfi (h.inv.ge2 _) (h.inv.un _)
          have hgd : getN (withN t (more (getN t (resolveN t o.a).1))) (whereN t o.b).1 = getN t (whereN t o.b).1 := by
            rw [getN_with h.uniq]
            unfold upd
            rw [if_neg]
            intro hh
            have hh : (whereN t o.b).1 = (getN t (resolveN t o.a).1).ino := hh
            rw [hh] at hd
            exact hfi hd
          refine h5.put (by rw [hgd]; exact hd) (by rw [hgd]; exact hfresh) ?_ (fun hh => absurd rfl hh)
          rcases hge with hg | hg
          · rw [hg] at h2; exact absurd h.inv.root h2
          · exact hg
theorem TInv.bytes {t : List Node} {o : Opn} (h : TInv t 1) : TInv (bytesN t o).1 1 := by
  unfold bytesN
  split
  · exact h
  · unfold bytesA
    split
    · exact h
    · rename_i hk
      have hfi := file_ino h.inv hk
      have hw : ∀ m : Node, m.ino = (getN t (resolveN t o.a).1).ino → m.kind = (getN t (resolveN t o.a).1).kind → m.names = (getN t (resolveN t o.a).1).names → TInv (withN t m) 1 := fun m a b c =>
        h.with (by rw [b]; exact hk) (by rw [a]; exact hfi) (by rw [c]; exact h.inv.ge2 _) (by rw [c]; exact h.inv.un _)
      repeat' split
      all_goals first | exact h | exact hw _ rfl rfl rfl
theorem getN_drop {t : List Node} {d y : Int} {s : List UInt8} (hu : Uniq t) (hd : (getN t d).kind = 2) : getN (dropN t d s) y = if y = d then { getN t d with names := (getN t d).names.filter (fun e => decide (e.name ≠ s)) } else getN t y := by
  unfold dropN
  rw [getN_with hu]
  unfold upd
  have : (getN t d).ino = d := dir_ino hd
  simp only [this]
theorem drop_kind {t : List Node} {d y : Int} {s : List UInt8} (hu : Uniq t) (hd : (getN t d).kind = 2) : (getN (dropN t d s) y).kind = (getN t y).kind ∧ (getN (dropN t d s) y).parent = (getN t y).parent ∧ (getN (dropN t d s) y).links = (getN t y).links := by
  rw [getN_drop hu hd]
  split
  · rename_i h; rw [h]; exact ⟨rfl, rfl, rfl⟩
  · exact ⟨rfl, rfl, rfl⟩
theorem drop_names {t : List Node} {d y : Int} {s : List UInt8} (hu : Uniq t) (hd : (getN t d).kind = 2) : ∀ e ∈ (getN (dropN t d s) y).names, e ∈ (getN t y).names ∧ (y = d → e.name ≠ s) := by
  rw [getN_drop hu hd]
  split
  · rename_i h
    rw [h]
    intro e he
    exact ⟨(List.mem_filter.1 he).1, fun _ => by have := (List.mem_filter.1 he).2; simpa using this⟩
  · rename_i h
    exact fun e he => ⟨he, fun hh => absurd hh h⟩
theorem getN_loses {t : List Node} {x y : Int} (hu : Uniq t) (hy : y ≠ x) : getN (losesN t x) y = getN t y := by
  unfold losesN
  split
  · rw [getN_filter hu]; simp [del, hy]
  · rename_i hl
    rw [getN_with hu]
    unfold upd
    rw [if_neg]
    rcases getN_cases t x with ⟨h1, _⟩ | ⟨_, h2⟩
    · rw [h1] at hl; simp [zeroNode] at hl
    · intro hh
      have hh : y = (getN t x).ino := hh
      exact hy (hh.trans h2)
theorem TInv.remove {t : List Node} {o : Opn} (h : TInv t 1) (hdo : o.does = 4 ∨ o.does = 5) : TInv (removeN t o).1 1 := by
  unfold removeN
  split
  · exact h
  · rename_i h1
    split
    · exact h
    · rename_i h2
      have hd := whereN_dir (t := t) (s := o.a) (by simpa using h1)
      generalize whereN t o.a = w at *
      obtain ⟨e0, he0, hs0, hi0⟩ := nameN_some (l := (getN t w.1).names) (s := w.2.1) (by omega)
      have hge : 2 ≤ nameN (getN t w.1).names w.2.1 := by rw [← hi0]; exact h.inv.ge2 _ e0 he0
      have hall : ∀ e ∈ (getN t w.1).names, e.name = w.2.1 → e.ino = nameN (getN t w.1).names w.2.1 := fun e he hs => by
        rw [← hi0]; exact h.inv.un _ e he e0 he0 (hs.trans hs0.symm)
      generalize nameN (getN t w.1).names w.2.1 = ino at *
      split
      · exact h
      · rename_i h3
        split
        · exact h
        · rename_i h4
          split
          · exact h
          · rename_i h5
            rcases hdo with d4 | d5
            · have hk : (getN t ino).kind ≠ 2 := fun hh => h3 ⟨d4, hh⟩
              have hD := h.drop (d := w.1) (s := w.2.1) hd (fun e he hs => .inl (by rw [hall e he hs]; exact hk))
              exact hD.loses (by rw [(drop_kind h.uniq hd).1]; exact hk)
            · have hk : (getN t ino).kind = 2 := Decidable.byContradiction fun hh => h4 ⟨d5, hh⟩
              have hn : (getN t ino).names = [] := by
                have : ¬ 0 < (getN t ino).names.length := fun hh => h5 ⟨d5, hh⟩
                exact List.length_eq_zero_iff.1 (by omega)
              have hne : ino ≠ w.1 := fun hh => by rw [← hh, hn] at he0; simp at he0
              have hD : TInv (dropN t w.1 w.2.1) ino := TInv.drop ⟨h.uniq, h.inv.any⟩ hd (fun e he hs => .inr (hall e he hs))
              have hg : getN (dropN t w.1 w.2.1) ino = getN t ino := by rw [getN_drop h.uniq hd, if_neg hne]
              unfold losesN
              rw [if_pos (by rw [hg, h.inv.ln ino hk]; omega)]
              refine ⟨uniq_filter hD.uniq, ?_⟩
              rw [getN_filter hD.uniq]
              exact hD.inv.delDir (by omega) (by rw [hg]; exact hn)
end Go.Proofs.Ytghllhghboaagaa
end
/-! The ways up to the root; a renaming keeps a tree right; so does a script. Plain. -/
section
set_option linter.unusedVariables false
set_option linter.unusedSimpArgs false
namespace Go.Proofs.Ytghllhghboaagaa
open Go.Vm
theorem hasN_of {t : List Node} {x : Int} (h : (getN t x).kind = 2) : hasN t x = true := by
  unfold hasN
  cases hf : t.find? (fun n => decide (n.ino = x)) with
  | none => unfold getN at h; rw [hf] at h; simp [zeroNode] at h
  | some n => rfl
theorem hasN_mem {t : List Node} {x : Int} (h : hasN t x = true) : x ∈ t.map (·.ino) := by
  unfold hasN at h
  cases hf : t.find? (fun n => decide (n.ino = x)) with
  | none => rw [hf] at h; cases h
  | some n =>
    have h1 := List.mem_of_find?_eq_some hf
    have h2 := List.find?_some hf
    exact List.mem_map.2 ⟨n, h1, by simpa using h2⟩
theorem up_chain {t : List Node} {x : Int} (hr : (getN t 1).kind = 2) (h : Up (getN t) 0 x) : ∃ c, Chain t (x :: c) ∧ ∀ y ∈ x :: c, (getN t y).kind = 2 := by
  induction h with
  | root _ => exact ⟨[], ⟨hasN_of hr, rfl⟩, fun y hy => by simp at hy; rw [hy]; exact hr⟩
  | @step x a b c _ ih =>
    obtain ⟨l, h1, h2⟩ := ih
    refine ⟨_ :: l, ⟨hasN_of b, c, rfl, h1⟩, fun y hy => ?_⟩
    rcases List.mem_cons.1 hy with rfl | hy
    · exact b
    · exact h2 y hy
theorem chain_uniq {t : List Node} : ∀ {c c' : List Int} {x : Int}, Chain t (x :: c) → Chain t (x :: c') → c = c'
  | [], [], x, _, _ => rfl
  | [], j :: r, x, h, h' => absurd h.2 h'.2.1
  | j :: r, [], x, h, h' => absurd h'.2 h.2.1
  | j :: r, j' :: r', x, h, h' => by
    have e : j = j' := h.2.2.1.symm.trans h'.2.2.1
    subst e
    rw [chain_uniq h.2.2.2 h'.2.2.2]
theorem chain_suffix {t : List Node} : ∀ {c : List Int} {x y : Int}, Chain t (x :: c) → y ∈ c → ∃ c', Chain t (y :: c') ∧ c'.length < c.length
  | [], x, y, _, hy => by simp at hy
  | j :: r, x, y, h, hy => by
    rcases List.mem_cons.1 hy with rfl | hy
    · exact ⟨r, h.2.2.2, by simp⟩
    · obtain ⟨c', h1, h2⟩ := chain_suffix h.2.2.2 hy
      exact ⟨c', h1, by simp; omega⟩
theorem chain_nodup {t : List Node} : ∀ {c : List Int} {x : Int}, Chain t (x :: c) → (x :: c).Nodup
  | [], x, _ => by simp
  | j :: r, x, h => by
    refine List.nodup_cons.2 ⟨fun hx => ?_, chain_nodup h.2.2.2⟩
    obtain ⟨c', h1, h2⟩ := chain_suffix h hx
    rw [chain_uniq h1 h] at h2
    omega
theorem chain_has {t : List Node} : ∀ {c : List Int} {x : Int}, Chain t (x :: c) → ∀ y ∈ x :: c, hasN t y = true
  | [], x, h, y, hy => by simp at hy; rw [hy]; exact h.1
  | j :: r, x, h, y, hy => by
    rcases List.mem_cons.1 hy with rfl | hy
    · exact h.1
    · exact chain_has h.2.2.2 y hy
theorem nodup_len : ∀ {l m : List Int}, l.Nodup → (∀ x ∈ l, x ∈ m) → l.length ≤ m.length
  | [], m, _, _ => Nat.zero_le _
  | x :: r, m, hn, hs => by
    obtain ⟨h1, h2⟩ := List.nodup_cons.1 hn
    have hx := hs x (by simp)
    have := nodup_len (l := r) (m := m.erase x) h2 (fun y hy => (List.mem_erase_of_ne (fun h : y = x => h1 (by rw [← h]; exact hy))).2 (hs y (by simp [hy])))
    rw [List.length_erase_of_mem hx] at this
    have := List.length_pos_of_mem hx
    simp only [List.length_cons]
    omega
theorem chain_len {t : List Node} {c : List Int} {x : Int} (h : Chain t (x :: c)) : (x :: c).length ≤ t.length := by
  have := nodup_len (m := t.map (·.ino)) (chain_nodup h) (fun y hy => hasN_mem (chain_has h y hy))
  rwa [List.length_map] at this
theorem chain_below {t : List Node} {i : Int} : ∀ {c : List Int} {x : Int} {k : Nat}, Chain t (x :: c) → i ∈ x :: c → (x :: c).length ≤ k → belowN t i k x = true
  | _, x, 0, _, _, hk => by simp at hk
  | [], x, k + 1, _, hi, _ => by simp at hi; rw [hi]; simp [belowN]
  | j :: r, x, k + 1, h, hi, hk => by
    unfold belowN
    split
    · rfl
    · rename_i hx
      rw [h.2.2.1]
      refine chain_below h.2.2.2 ?_ (by simpa using hk)
      rcases List.mem_cons.1 hi with rfl | hi
      · exact absurd rfl hx
      · exact hi
theorem chain_up {t : List Node} {i : Int} : ∀ {c : List Int} {x : Int}, Chain t (x :: c) → (∀ y ∈ x :: c, (getN t y).kind = 2) → i ∉ x :: c → Up (getN t) i x
  | [], x, h, _, hi => by
    have hx : x = 1 := h.2
    rw [hx] at hi ⊢
    exact .root (fun hh => hi (by simp [hh]))
  | j :: r, x, h, hk, hi => by
    refine .step (fun hh => hi (by simp [hh])) (hk x (by simp)) h.2.1 ?_
    rw [h.2.2.1]
    exact chain_up h.2.2.2 (fun y hy => hk y (by simp [hy])) (fun hh => hi (by simp [hh]))
theorem not_below {t : List Node} {i d : Int} (h : TInv t 1) (hd : (getN t d).kind = 2) (hb : belowN t i (t.length + 1) d = false) : Up (getN t) i d := by
  obtain ⟨c, h1, h2⟩ := up_chain h.inv.root (h.inv.way d hd)
  refine chain_up h1 h2 fun hi => ?_
  rw [chain_below h1 hi (by have := chain_len h1; omega)] at hb
  cases hb
theorem getN_put {t : List Node} {d y x : Int} {s : List UInt8} (hu : Uniq t) (hd : (getN t d).kind = 2) : (getN (putN t d s x) y).kind = (getN t y).kind ∧ (getN (putN t d s x) y).parent = (getN t y).parent ∧ (y = d → ∀ e, e ∈ (getN (putN t d s x) y).names ↔ (e = ⟨s, x⟩ ∨ e ∈ (getN t d).names)) := by
  unfold putN
  rw [getN_with hu]
  unfold upd
  have hi : (getN t d).ino = d := dir_ino hd
  simp only [hi]
  split
  · rename_i h
    rw [h]
    refine ⟨rfl, rfl, fun _ e => ?_⟩
    exact mem_putA.trans (by simp)
  · rename_i h
    exact ⟨rfl, rfl, fun hh => absurd hh h⟩
theorem TInv.rename {t : List Node} {o : Opn} (h : TInv t 1) : TInv (renameN t o).1 1 := by
  unfold renameN
  split
  · exact h
  · rename_i h1
    split
    · exact h
    · rename_i h2
      split
      · exact h
      · rename_i h3
        have hf := whereN_dir (t := t) (s := o.a) (by simpa using h1)
        have hd := whereN_dir (t := t) (s := o.b) (by simpa using h3)
        generalize whereN t o.a = w at *
        generalize whereN t o.b = v at *
        obtain ⟨f, old, _⟩ := w
        obtain ⟨d, s, _⟩ := v
        simp only at *
        obtain ⟨e0, he0, hs0, hi0⟩ := nameN_some (l := (getN t f).names) (s := old) (by omega)
        have hge : 2 ≤ nameN (getN t f).names old := by rw [← hi0]; exact h.inv.ge2 _ e0 he0
        have hall : ∀ e ∈ (getN t f).names, e.name = old → e.ino = nameN (getN t f).names old := fun e he hs => by
          rw [← hi0]; exact h.inv.un _ e he e0 he0 (hs.trans hs0.symm)
        generalize nameN (getN t f).names old = ino at *
        unfold renameA
        split
        · exact h
        · rename_i h4
          split
          · exact h
          · rename_i h5
            split
            · exact h
            · rename_i h6
              split
              · exact h
              · rename_i h7
                unfold renamed
                by_cases hk : (getN t ino).kind = 2
                · -- a directory
                  have hw : ¬ 0 ≤ nameN (getN t d).names s := fun hh => h6 ⟨hh, hk⟩
                  have hbl : belowN t ino (t.length + 1) d = false := by
                    cases hb : belowN t ino (t.length + 1) d with
                    | false => rfl
                    | true => exact absurd ⟨hk, hb⟩ h5
                  have hid : d ≠ ino := fun hh => by rw [hh] at hbl; simp [belowN] at hbl
                  have hup := not_below h hd hbl
                  have hfresh := nameN_none (h.inv.ge2 d) (Int.not_le.1 hw)
                  simp only [if_neg hw, if_pos hk]
                  have hD : TInv (dropN t f old) ino := TInv.drop ⟨h.uniq, h.inv.any⟩ hf (fun e he hs => .inr (hall e he hs))
                  have hkd : (getN (dropN t f old) d).kind = 2 := by rw [(drop_kind h.uniq hf).1]; exact hd
                  have hP : TInv (putN (dropN t f old) d s ino) ino := hD.put hkd (fun e he => hfresh e ((drop_names h.uniq hf) e he).1) hge (fun hh => absurd rfl hh)
                  have hk2 : ∀ y, (getN (putN (dropN t f old) d s ino) y).kind = (getN t y).kind := fun y => by
                    rw [(getN_put hD.uniq hkd).1, (drop_kind h.uniq hf).1]
                  have hp2 : ∀ y, (getN (putN (dropN t f old) d s ino) y).parent = (getN t y).parent := fun y => by
                    rw [(getN_put hD.uniq hkd).2.1, (drop_kind h.uniq hf).2.1]
                  refine ⟨uniq_with hP.uniq, ?_⟩
                  rw [getN_with hP.uniq]
                  have hki : (getN (putN (dropN t f old) d s ino) ino).kind = 2 := by rw [hk2]; exact hk
                  exact hP.inv.move (i := ino) (d := d) (dir_ino hki) hki hki (by omega) rfl rfl rfl (by rw [hk2]; exact hd) hid
                    ⟨⟨s, ino⟩, ((getN_put hD.uniq hkd).2.2 rfl _).2 (.inl rfl), rfl⟩ (hup.mono fun y hy _ => ⟨by rw [hk2]; exact hy, hp2 y⟩)
                · -- a file
                  simp only [if_neg hk]
                  have main : ∀ u : List Node, TInv u 1 → (getN u f).kind = 2 → (getN u d).kind = 2 → (∀ e ∈ (getN u f).names, e ∈ (getN t f).names) → (∀ e ∈ (getN u d).names, e.name ≠ s) → (getN u ino).kind ≠ 2 → TInv (putN (dropN u f old) d s ino) 1 := fun u hu kf kd nf nd ki => by
                    have hD : TInv (dropN u f old) 1 := hu.drop kf (fun e he hs => .inl (by rw [hall e (nf e he) hs]; exact ki))
                    exact hD.put (by rw [(drop_kind hu.uniq kf).1]; exact kd) (fun e he => nd e ((drop_names hu.uniq kf) e he).1) hge (fun hh => absurd rfl hh)
                  split
                  · rename_i hw
                    have hkw : (getN t (nameN (getN t d).names s)).kind ≠ 2 := fun hh => h7 ⟨hw, hh⟩
                    obtain ⟨e1, he1, hs1, hi1⟩ := nameN_some hw
                    have hall1 : ∀ e ∈ (getN t d).names, e.name = s → e.ino = nameN (getN t d).names s := fun e he hs => by
                      rw [← hi1]; exact h.inv.un _ e he e1 he1 (hs.trans hs1.symm)
                    generalize nameN (getN t d).names s = was at *
                    have hD : TInv (dropN t d s) 1 := h.drop hd (fun e he hs => .inl (by rw [hall1 e he hs]; exact hkw))
                    have hL : TInv (losesN (dropN t d s) was) 1 := hD.loses (by rw [(drop_kind h.uniq hd).1]; exact hkw)
                    have hnf : f ≠ was := fun hh => by rw [hh] at hf; exact hkw hf
                    have hnd : d ≠ was := fun hh => by rw [hh] at hd; exact hkw hd
                    refine main _ hL ?_ ?_ ?_ ?_ ?_
                    · rw [getN_loses hD.uniq hnf, (drop_kind h.uniq hd).1]; exact hf
                    · rw [getN_loses hD.uniq hnd, (drop_kind h.uniq hd).1]; exact hd
                    · rw [getN_loses hD.uniq hnf]; exact fun e he => ((drop_names h.uniq hd) e he).1
                    · rw [getN_loses hD.uniq hnd]; exact fun e he => ((drop_names h.uniq hd) e he).2 rfl
                    · rw [getN_loses hD.uniq (fun hh => h4 hh.symm), (drop_kind h.uniq hd).1]; exact hk
                  · rename_i hw
                    exact main t h hf hd (fun e he => he) (nameN_none (h.inv.ge2 d) (Int.not_le.1 hw)) hk
theorem TInv.step {t : List Node} {o : Opn} (h : TInv t 1) : TInv (stepN t o).1 1 := by
  unfold stepN
  split
  · exact h
  · rename_i hm
    repeat' split
    · exact h.make
    · exact h.link
    · exact h.remove (by omega)
    · exact h.rename
    · exact h.bytes
    · exact h
    · exact h
theorem getN_new (x : Int) : getN newN x = if x = 1 then ⟨1, 2, 1, 1, 0, [], []⟩ else zeroNode := by
  unfold getN newN
  by_cases hx : x = 1
  · subst hx; rfl
  · have : ¬ (1 : Int) = x := fun hh => hx hh.symm
    simp [hx, this]
theorem TInv.new : TInv newN 1 := by
  have hn : ∀ x, (getN newN x).names = [] := fun x => by rw [getN_new]; split <;> rfl
  have hk : ∀ x, (getN newN x).kind = 2 → x = 1 := fun x hx => by
    rw [getN_new] at hx
    split at hx
    · assumption
    · simp [zeroNode] at hx
  refine ⟨fun n hn m hm _ => ?_, ⟨rfl, fun x e he => by rw [hn] at he; simp at he, fun x e he => by rw [hn] at he; simp at he, fun x hx => by rw [hk x hx]; rfl, fun x hx n1 _ => absurd (hk x hx) n1, fun x hx => by rw [hk x hx]; exact .root (by omega), fun x hx => by rw [hk x hx]; omega⟩⟩
  simp only [newN, List.mem_singleton] at hn hm
  rw [hn, hm]
theorem TInv.play (l : List Opn) : TInv (playN l) 1 := by
  have : ∀ (l : List Opn) (t : List Node), TInv t 1 → TInv (l.foldl (fun t o => (stepN t o).1) t) 1 := fun l => by
    induction l with
    | nil => exact fun t h => h
    | cons o r ih => exact fun t h => ih _ h.step
  exact this l newN TInv.new
end Go.Proofs.Ytghllhghboaagaa
end
/-! Plain: how often a number is told; links are counted. -/
section
set_option linter.unusedVariables false
set_option linter.unusedSimpArgs false
namespace Go.Proofs.Ytghllhghboaagaa
/-- How many entries tell x. -/
def cp (l : List Ent) (x : Int) : Nat := l.countP fun e => decide (e.ino = x)
def cnt (t : List Node) (x : Int) : Nat := (t.map fun n => cp n.names x).sum
theorem cnt_nil (x : Int) : cnt [] x = 0 := rfl
theorem cnt_cons (n : Node) (r : List Node) (x : Int) : cnt (n :: r) x = cp n.names x + cnt r x := by simp [cnt]
theorem cnt_app (a b : List Node) (x : Int) : cnt (a ++ b) x = cnt a x + cnt b x := by simp [cnt]
theorem cp_nil (x : Int) : cp [] x = 0 := rfl
theorem cp_cons (e : Ent) (l : List Ent) (x : Int) : cp (e :: l) x = cp l x + if e.ino = x then 1 else 0 := by simp [cp, List.countP_cons]
theorem cp_pos {l : List Ent} {e : Ent} (h : e ∈ l) : cp l e.ino ≠ 0 := by
  have : 0 < cp l e.ino := List.countP_pos_iff.2 ⟨e, h, by simp⟩
  omega
theorem cnt_ge {t : List Node} {n : Node} (h : n ∈ t) (x : Int) : cp n.names x ≤ cnt t x := by
  induction t with
  | nil => cases h
  | cons m r ih =>
    rw [cnt_cons]
    rcases List.mem_cons.1 h with rfl | h
    · omega
    · have := ih h; omega
/-- In the order of their numbers. -/
def Srt (t : List Node) : Prop := (t.map (·.ino)).Pairwise (· < ·)
theorem Srt.cons {n : Node} {r : List Node} : Srt (n :: r) ↔ (∀ m ∈ r, n.ino < m.ino) ∧ Srt r := by
  unfold Srt
  rw [List.map_cons, List.pairwise_cons]
  simp
theorem Srt.nodup {t : List Node} (h : Srt t) : (t.map (·.ino)).Nodup := List.Pairwise.imp (fun h => Int.ne_of_lt h) h
theorem Srt.uniq {t : List Node} (h : Srt t) : Uniq t := by
  induction t with
  | nil => intro n hn; cases hn
  | cons x r ih =>
    obtain ⟨h1, h2⟩ := Srt.cons.1 h
    intro n hn m hm he
    rcases List.mem_cons.1 hn with e | hn <;> rcases List.mem_cons.1 hm with e' | hm
    · rw [e, e']
    · have := h1 m hm; rw [e] at he; omega
    · have := h1 n hn; rw [e'] at he; omega
    · exact ih h2 n hn m hm he
theorem Srt.filter {t : List Node} {p : Node → Bool} (h : Srt t) : Srt (t.filter p) := by
  unfold Srt at *
  exact h.sublist (List.filter_sublist.map _)
theorem withA_true {n : Node} : ∀ {l : List Node}, withA n true l = l.filter (fun m => m.ino ≠ n.ino)
  | [] => rfl
  | x :: r => by
    have ih := withA_true (n := n) (l := r)
    by_cases h : x.ino = n.ino <;> simp [withA, h, ih]
theorem srt_withA {n : Node} : ∀ {l : List Node}, Srt l → Srt (withA n false l)
  | [], _ => by simp [withA, Srt]
  | x :: r, h => by
    obtain ⟨h1, h2⟩ := Srt.cons.1 h
    by_cases hx : n.ino ≤ x.ino
    · have e : withA n false (x :: r) = n :: (x :: r).filter (fun m => m.ino ≠ n.ino) := by
        rw [← withA_true]
        simp [withA, hx]
      rw [e]
      refine Srt.cons.2 ⟨fun m hm => ?_, h.filter⟩
      obtain ⟨hm1, hm2⟩ := List.mem_filter.1 hm
      have hm2 : m.ino ≠ n.ino := by simpa using hm2
      rcases List.mem_cons.1 hm1 with rfl | hm1
      · omega
      · have := h1 m hm1; omega
    · have e : withA n false (x :: r) = x :: withA n false r := by
        have : x.ino ≠ n.ino := by omega
        simp [withA, hx, this]
      rw [e]
      refine Srt.cons.2 ⟨fun m hm => ?_, srt_withA h2⟩
      rcases mem_withA.1 hm with ⟨_, rfl⟩ | ⟨hm1, _⟩
      · omega
      · exact h1 m hm1
theorem Srt.with {t : List Node} {n : Node} (h : Srt t) : Srt (withN t n) := srt_withA h
theorem cnt_withA {n : Node} {x : Int} : ∀ {l : List Node}, cnt (withA n false l) x = cp n.names x + cnt (l.filter (fun m => m.ino ≠ n.ino)) x
  | [] => by simp [withA, cnt_cons, cnt_nil]
  | y :: r => by
    by_cases hy : n.ino ≤ y.ino
    · have e : withA n false (y :: r) = n :: (y :: r).filter (fun m => m.ino ≠ n.ino) := by
        rw [← withA_true]
        simp [withA, hy]
      rw [e, cnt_cons]
    · have e : withA n false (y :: r) = y :: withA n false r := by
        have : y.ino ≠ n.ino := by omega
        simp [withA, hy, this]
      have hne : y.ino ≠ n.ino := by omega
      rw [e, cnt_cons, cnt_withA, List.filter_cons_of_pos (by simpa using hne), cnt_cons]
      omega
theorem getN_cons (n : Node) (r : List Node) (i : Int) : getN (n :: r) i = if n.ino = i then n else getN r i := by
  unfold getN
  by_cases h : n.ino = i
  · rw [if_pos h, List.find?_cons_of_pos (by simpa using h)]; rfl
  · rw [if_neg h, List.find?_cons_of_neg (by simpa using h)]
theorem cnt_filter {i x : Int} : ∀ {t : List Node}, Srt t → cnt (t.filter (fun m => m.ino ≠ i)) x + cp (getN t i).names x = cnt t x
  | [], _ => rfl
  | n :: r, h => by
    obtain ⟨h1, h2⟩ := Srt.cons.1 h
    have ih := cnt_filter (i := i) (x := x) h2
    rw [getN_cons]
    by_cases hn : n.ino = i
    · rw [if_pos hn, List.filter_cons_of_neg (by simpa using hn), cnt_cons]
      have : r.filter (fun m => m.ino ≠ i) = r := List.filter_eq_self.2 fun m hm => by have := h1 m hm; simp; omega
      rw [this]; omega
    · rw [if_neg hn, List.filter_cons_of_pos (by simpa using hn), cnt_cons, cnt_cons]
      omega
theorem cnt_with {t : List Node} {n : Node} {x : Int} (h : Srt t) : cnt (withN t n) x + cp (getN t n.ino).names x = cnt t x + cp n.names x := by
  have := cnt_filter (i := n.ino) (x := x) h
  unfold withN
  rw [cnt_withA]
  omega
theorem cp_put {s : List UInt8} {i x : Int} : ∀ {l : List Ent} {b : Bool}, cp (putA s i b l) x = cp l x + if b = false ∧ i = x then 1 else 0
  | [], b => by cases b <;> simp [putA, cp_cons, cp_nil]
  | e :: r, b => by
    have ih := cp_put (s := s) (i := i) (x := x) (l := r) (b := b || lessS s e.name)
    cases b <;> cases hl : lessS s e.name <;> simp only [hl, Bool.or_true, Bool.or_false, Bool.true_or, Bool.false_or] at ih <;> simp [putA, cp_cons, hl, ih] <;> split <;> omega
theorem cp_drop {s : List UInt8} {i x : Int} : ∀ {l : List Ent}, (l.map (·.name)).Nodup → (∃ e ∈ l, e.name = s ∧ e.ino = i) → cp (l.filter (fun e => decide (e.name ≠ s))) x + (if i = x then 1 else 0) = cp l x
  | [], _, h => by obtain ⟨e, he, _⟩ := h; cases he
  | e :: r, hn, h => by
    rw [List.map_cons, List.nodup_cons] at hn
    obtain ⟨h1, h2⟩ := hn
    by_cases hs : e.name = s
    · have hi : e.ino = i := by
        obtain ⟨e', he', hs', hi'⟩ := h
        rcases List.mem_cons.1 he' with rfl | he'
        · exact hi'
        · exact absurd (List.mem_map.2 ⟨e', he', hs'.trans hs.symm⟩) h1
      rw [List.filter_cons_of_neg (by simpa using hs), cp_cons, hi]
      have : r.filter (fun e => decide (e.name ≠ s)) = r := List.filter_eq_self.2 fun m hm => by
        simp only [decide_eq_true_eq]
        exact fun hh => h1 (List.mem_map.2 ⟨m, hm, hh.trans hs.symm⟩)
      rw [this]
    · have ih := cp_drop (x := x) h2 (by
        obtain ⟨e', he', hs', hi'⟩ := h
        rcases List.mem_cons.1 he' with rfl | he'
        · exact absurd hs' hs
        · exact ⟨e', he', hs', hi'⟩)
      rw [List.filter_cons_of_pos (by simpa using hs), cp_cons, cp_cons]
      omega
theorem nodup_put {s : List UInt8} {i : Int} : ∀ {l : List Ent} {b : Bool}, (l.map (·.name)).Nodup → (∀ e ∈ l, e.name ≠ s) → ((putA s i b l).map (·.name)).Nodup
  | [], b, _, _ => by cases b <;> simp [putA]
  | e :: r, b, hn, hs => by
    rw [List.map_cons, List.nodup_cons] at hn
    obtain ⟨h1, h2⟩ := hn
    have ih := nodup_put (i := i) (b := b || lessS s e.name) h2 (fun x hx => hs x (List.mem_cons_of_mem _ hx))
    have hes : e.name ≠ s := hs e (by simp)
    have hm : e.name ∉ (putA s i (b || lessS s e.name) r).map (·.name) := by
      intro hh
      obtain ⟨x, hx, hxe⟩ := List.mem_map.1 hh
      rcases mem_putA.1 hx with ⟨_, rfl⟩ | hx
      · exact hes hxe.symm
      · exact h1 (List.mem_map.2 ⟨x, hx, hxe⟩)
    have hc : (([e] ++ putA s i (b || lessS s e.name) r).map (·.name)).Nodup := by
      rw [List.singleton_append, List.map_cons, List.nodup_cons]; exact ⟨hm, ih⟩
    unfold putA
    split
    · rename_i hb
      rw [List.append_assoc, List.singleton_append, List.map_cons, List.nodup_cons]
      refine ⟨?_, hc⟩
      intro hh
      obtain ⟨x, hx, hxs⟩ := List.mem_map.1 hh
      rw [List.singleton_append] at hx
      rcases List.mem_cons.1 hx with rfl | hx
      · exact hes hxs
      · rcases mem_putA.1 hx with ⟨hb', rfl⟩ | hx
        · rw [hb.2] at hb'; simp at hb'
        · exact hs x (List.mem_cons_of_mem _ hx) hxs
    · exact hc
end Go.Proofs.Ytghllhghboaagaa
end
/-! Plain: behind any script links are counted, and each name tells a node. -/
section
set_option linter.unusedVariables false
set_option linter.unusedSimpArgs false
namespace Go.Proofs.Ytghllhghboaagaa
/-- Links are counted, but that those of x are d x more. -/
structure LJ (t : List Node) (d : Int → Int) : Prop where
  srt : Srt t
  knd : ∀ n ∈ t, n.kind ≠ 0
  lnk : ∀ x, (getN t x).kind ≠ 0 → x ≠ 1 → (getN t x).links = cnt t x + d x
  has : ∀ x, cnt t x ≠ 0 → (getN t x).kind ≠ 0
  fil : ∀ x, (getN t x).kind ≠ 2 → (getN t x).names = []
  nod : ∀ x, ((getN t x).names.map (·.name)).Nodup
theorem kind_ino {t : List Node} {x : Int} (h : (getN t x).kind ≠ 0) : (getN t x).ino = x := by
  rcases getN_cases t x with ⟨h1, _⟩ | ⟨_, h2⟩
  · rw [h1] at h; exact absurd rfl h
  · exact h2
theorem kind_has {t : List Node} {x : Int} (h : (getN t x).kind ≠ 0) : hasN t x = true := by
  unfold hasN
  cases hf : t.find? (fun n => decide (n.ino = x)) with
  | none => unfold getN at h; rw [hf] at h; exact absurd rfl h
  | some n => rfl
theorem LJ.hasK {t : List Node} {d : Int → Int} (h : LJ t d) {x : Int} (hx : hasN t x = true) : (getN t x).kind ≠ 0 := by
  unfold hasN at hx
  unfold getN
  cases hf : t.find? (fun n => decide (n.ino = x)) with
  | none => rw [hf] at hx; cases hx
  | some n => exact h.knd n (List.mem_of_find?_eq_some hf)
theorem LJ.congr {t : List Node} {d d' : Int → Int} (h : LJ t d) (e : ∀ x, d x = d' x) : LJ t d' := (funext e : d = d') ▸ h
theorem LJ.told {t : List Node} {d : Int → Int} (h : LJ t d) {x : Int} {e : Ent} (he : e ∈ (getN t x).names) : (getN t e.ino).kind ≠ 0 := by
  refine h.has _ ?_
  rcases getN_cases t x with ⟨h1, _⟩ | ⟨h1, _⟩
  · rw [h1] at he; cases he
  · have := cnt_ge h1 e.ino
    have := cp_pos he
    omega
theorem LJ.toTold {t : List Node} {d : Int → Int} (h : LJ t d) (hT : TInv t 1) : Told t :=
  ⟨hasN_of hT.inv.root, fun x e he => kind_has (h.told he), hT.inv.ge2⟩
theorem LJ.with {t : List Node} {d d' : Int → Int} {m : Node} (h : LJ t d) (hk : m.kind ≠ 0) (hn : m.names = (getN t m.ino).names) (hf : m.kind ≠ 2 → m.names = []) (hd : ∀ x, x ≠ m.ino → d' x = d x) (hl : m.ino ≠ 1 → m.links = cnt t m.ino + d' m.ino) : LJ (withN t m) d' := by
  have hc : ∀ x, cnt (withN t m) x = cnt t x := fun x => by have := cnt_with (n := m) (x := x) h.srt; rw [hn] at this; omega
  have hg := getN_with (m := m) h.srt.uniq
  refine ⟨h.srt.with, ?_, ?_, ?_, ?_, ?_⟩
  · intro n hn'
    rcases mem_withN.1 hn' with rfl | ⟨h1, _⟩
    · exact hk
    · exact h.knd n h1
  · intro x hx n1
    rw [hg] at hx ⊢
    rw [hc]
    unfold upd at hx ⊢
    split
    · rename_i e; subst e; exact hl n1
    · rename_i e
      rw [if_neg e] at hx
      rw [hd x e]; exact h.lnk x hx n1
  · intro x hx
    rw [hc] at hx
    rw [hg]
    unfold upd
    split
    · exact hk
    · exact h.has x hx
  · intro x
    rw [hg]
    unfold upd
    split
    · exact hf
    · exact h.fil x
  · intro x
    rw [hg]
    unfold upd
    split
    · rw [hn]; exact h.nod _
    · exact h.nod x
theorem LJ.names {t : List Node} {d d' : Int → Int} {d0 : Int} {l : List Ent} (h : LJ t d) (hd : (getN t d0).kind = 2) (hl : (l.map (·.name)).Nodup) (hc : ∀ x, (cp l x : Int) + d' x = cp (getN t d0).names x + d x) (hh : ∀ x, cp (getN t d0).names x < cp l x → (getN t x).kind ≠ 0) : LJ (withN t { getN t d0 with names := l }) d' := by
  have hi : (getN t d0).ino = d0 := dir_ino hd
  have hct : ∀ x, cnt (withN t { getN t d0 with names := l }) x + cp (getN t d0).names x = cnt t x + cp l x := fun x => by
    have := cnt_with (n := { getN t d0 with names := l }) (x := x) h.srt
    rw [show ({ getN t d0 with names := l } : Node).ino = d0 from hi] at this
    exact this
  have hg : ∀ x, getN (withN t { getN t d0 with names := l }) x = if x = d0 then { getN t d0 with names := l } else getN t x := fun x => by
    rw [getN_with h.srt.uniq]
    unfold upd
    simp only [hi]
  have hkd : ∀ x, (getN (withN t { getN t d0 with names := l }) x).kind = (getN t x).kind ∧ (getN (withN t { getN t d0 with names := l }) x).links = (getN t x).links := fun x => by
    rw [hg]
    split
    · rename_i e; subst e; exact ⟨rfl, rfl⟩
    · exact ⟨rfl, rfl⟩
  refine ⟨h.srt.with, ?_, ?_, ?_, ?_, ?_⟩
  · intro n hn'
    rcases mem_withN.1 hn' with rfl | ⟨h1, _⟩
    · show (getN t d0).kind ≠ 0
      rw [hd]; decide
    · exact h.knd n h1
  · intro x hx n1
    rw [(hkd x).1] at hx
    rw [(hkd x).2, h.lnk x hx n1]
    have := hct x
    have := hc x
    omega
  · intro x hx
    rw [(hkd x).1]
    by_cases hlt : cp (getN t d0).names x < cp l x
    · exact hh x hlt
    · refine h.has x ?_
      have := hct x
      have : cp (getN t d0).names x ≤ cnt t x := by
        rcases getN_cases t d0 with ⟨h1, _⟩ | ⟨h1, _⟩
        · rw [h1]; exact Nat.zero_le _
        · exact cnt_ge h1 x
      omega
  · intro x hx
    rw [(hkd x).1] at hx
    rw [hg]
    split
    · rename_i e; subst e; exact absurd hd hx
    · exact h.fil x hx
  · intro x
    rw [hg]
    split
    · exact hl
    · exact h.nod x
theorem LJ.drop {t : List Node} {d : Int → Int} {d0 i : Int} {s : List UInt8} (h : LJ t d) (hd : (getN t d0).kind = 2) (he : ∃ e ∈ (getN t d0).names, e.name = s ∧ e.ino = i) : LJ (dropN t d0 s) (fun x => d x + if i = x then 1 else 0) := by
  unfold dropN
  refine h.names hd ?_ ?_ ?_
  · exact (h.nod d0).sublist (List.filter_sublist.map _)
  · intro x
    have := cp_drop (x := x) (h.nod d0) he
    split <;> rename_i e <;> simp only [e, if_true, if_false] at this <;> omega
  · intro x hx
    have := cp_drop (x := x) (h.nod d0) he
    omega
theorem LJ.put {t : List Node} {d : Int → Int} {d0 i : Int} {s : List UInt8} (h : LJ t d) (hd : (getN t d0).kind = 2) (hs : ∀ e ∈ (getN t d0).names, e.name ≠ s) (hi : (getN t i).kind ≠ 0) : LJ (putN t d0 s i) (fun x => d x - if i = x then 1 else 0) := by
  unfold putN
  refine h.names hd (nodup_put (h.nod d0) hs) ?_ ?_
  · intro x
    rw [cp_put]
    by_cases e : i = x <;> simp [e]
    omega
  · intro x hx
    rw [cp_put] at hx
    by_cases e : i = x
    · rw [← e]; exact hi
    · simp [e] at hx
theorem LJ.loses {t : List Node} {d : Int → Int} {i : Int} (h : LJ t d) (hk : (getN t i).kind ≠ 0) (hn : (getN t i).names = []) (h1 : i ≠ 1) (hd : d i = 1) : LJ (losesN t i) (fun x => if x = i then 0 else d x) := by
  have hi := kind_ino hk
  have hl := h.lnk i hk h1
  unfold losesN
  split
  · rename_i hlt
    have hc : ∀ x, cnt (t.filter (fun n => n.ino ≠ i)) x = cnt t x := fun x => by have := cnt_filter (i := i) (x := x) h.srt; rw [hn, cp_nil] at this; exact this
    have hg := getN_filter (i := i) h.srt.uniq
    refine ⟨h.srt.filter, fun n hn => h.knd n (List.mem_filter.1 hn).1, ?_, ?_, ?_, ?_⟩
    · intro x hx n1
      rw [hg] at hx ⊢
      unfold del at hx ⊢
      split
      · rename_i e; rw [if_pos e] at hx; exact absurd rfl hx
      · rename_i e
        rw [if_neg e] at hx
        rw [hc]
        exact h.lnk x hx n1
    · intro x hx
      rw [hc] at hx
      rw [hg]
      unfold del
      split
      · rename_i e; subst e; omega
      · exact h.has x hx
    · intro x
      rw [hg]
      unfold del
      split
      · exact fun _ => rfl
      · exact h.fil x
    · intro x
      rw [hg]
      unfold del
      split
      · simp [zeroNode]
      · exact h.nod x
  · refine h.with hk ?_ (fun _ => hn) ?_ ?_
    · show (getN t i).names = (getN t (getN t i).ino).names
      rw [hi]
    · intro x hx
      have hx : x ≠ (getN t i).ino := hx
      rw [hi] at hx
      exact if_neg hx
    · intro _
      show (getN t i).links - 1 = _
      have e : (({ getN t i with links := (getN t i).links - 1 } : Node).ino) = i := hi
      rw [e, if_pos rfl]
      omega
theorem LJ.new : LJ newN (fun _ => 0) := by
  have hc : ∀ x, cnt newN x = 0 := fun x => rfl
  refine ⟨by simp [Srt, newN], ?_, ?_, ?_, ?_, ?_⟩
  · intro n hn
    simp only [newN, List.mem_singleton] at hn
    subst hn
    decide
  · intro x hx n1
    rw [getN_new, if_neg n1] at hx
    exact absurd rfl hx
  · intro x hx; exact absurd (hc x) hx
  · intro x _; rw [getN_new]; split <;> rfl
  · intro x; rw [getN_new]; split <;> simp [zeroNode]
theorem LJ.make {t : List Node} {o : Opn} (h : LJ t (fun _ => 0)) (hT : TInv t 1) : LJ (makeN t o).1 (fun _ => 0) := by
  unfold makeN
  split
  · exact h
  · rename_i h1
    split
    · exact h
    · rename_i h2
      have hd := whereN_dir (t := t) (s := o.a) (by simpa using h1)
      obtain ⟨hn1, hn2, _⟩ := nextN_spec t
      have hz : getN t (nextN t) = zeroNode := getN_none hn1
      have hnd : (whereN t o.a).1 ≠ nextN t := fun hh => by rw [hh, hz] at hd; simp [zeroNode] at hd
      have hfresh := nameN_none (hT.inv.ge2 (whereN t o.a).1) (Int.not_le.1 h2)
      have hi : (makeNode t o).ino = nextN t := by unfold makeNode; split <;> rfl
      have hns : (makeNode t o).names = [] := by unfold makeNode; split <;> rfl
      have hlk : (makeNode t o).links = 1 := by unfold makeNode; split <;> rfl
      have hkd : (makeNode t o).kind ≠ 0 := by unfold makeNode; split <;> simp
      have hc : cnt t (nextN t) = 0 := Classical.byContradiction fun hh => h.has _ hh (by rw [hz]; rfl)
      have hgd : getN (withN t (makeNode t o)) (whereN t o.a).1 = getN t (whereN t o.a).1 := by
        rw [getN_with h.srt.uniq]
        unfold upd
        rw [hi, if_neg hnd]
      have h3 : LJ (withN t (makeNode t o)) (fun x => if nextN t = x then 1 else 0) := h.with hkd (by rw [hns, hi, hz]; rfl) (fun _ => hns)
        (fun x hx => by rw [hi] at hx; exact if_neg fun hh => hx hh.symm) (fun _ => by rw [hlk, hi, hc, if_pos rfl]; rfl)
      have h4 := h3.put (d0 := (whereN t o.a).1) (s := (whereN t o.a).2.1) (i := nextN t) (by rw [hgd]; exact hd) (by rw [hgd]; exact hfresh) (by
        rw [getN_with h.srt.uniq]
        unfold upd
        rw [hi, if_pos rfl]
        exact hkd)
      exact h4.congr fun x => by simp
theorem resolveN_hasN {t : List Node} (hT : Told t) {s : List UInt8} (h : (resolveN t s).2 = 0) : hasN t (resolveN t s).1 = true := by
  unfold resolveN at h ⊢
  split at h
  · rename_i h1; exact absurd h h1
  · rename_i h1
    rw [if_neg h1]
    exact goN_has hT _ _ hT.root h
theorem LJ.link {t : List Node} {o : Opn} (h : LJ t (fun _ => 0)) (hT : TInv t 1) : LJ (linkN t o).1 (fun _ => 0) := by
  unfold linkN
  split
  · exact h
  · rename_i h1
    split
    · exact h
    · rename_i h2
      split
      · exact h
      · rename_i h3
        split
        · exact h
        · rename_i h4
          have hd := whereN_dir (t := t) (s := o.b) (by simpa using h3)
          have hfresh := nameN_none (hT.inv.ge2 (whereN t o.b).1) (Int.not_le.1 h4)
          have hk := h.hasK (resolveN_hasN (h.toTold hT) (s := o.a) (by simpa using h1))
          generalize (resolveN t o.a).1 = r at *
          have hr := kind_ino hk
          have hne : (whereN t o.b).1 ≠ r := fun hh => by rw [hh] at hd; exact h2 hd
          have hmi : (more (getN t r)).ino = r := hr
          have hgd : getN (withN t (more (getN t r))) (whereN t o.b).1 = getN t (whereN t o.b).1 := by
            rw [getN_with h.srt.uniq]
            unfold upd
            rw [hmi, if_neg hne]
          have h5 : LJ (withN t (more (getN t r))) (fun x => if r = x then 1 else 0) := h.with hk (by rw [hmi]; rfl) (fun _ => h.fil r h2)
            (fun x hx => by rw [hmi] at hx; exact if_neg fun hh => hx hh.symm) (fun n1 => by
              rw [hmi] at n1 ⊢
              rw [if_pos rfl]
              show (getN t r).links + 1 = _
              rw [h.lnk r hk n1]; omega)
          have h6 := h5.put (d0 := (whereN t o.b).1) (s := (whereN t o.b).2.1) (i := r) (by rw [hgd]; exact hd) (by rw [hgd]; exact hfresh) (by
            rw [getN_with h.srt.uniq]
            unfold upd
            rw [hmi, if_pos rfl]
            exact hk)
          exact h6.congr fun x => by simp
theorem LJ.bytes {t : List Node} {o : Opn} (h : LJ t (fun _ => 0)) (hT : TInv t 1) : LJ (bytesN t o).1 (fun _ => 0) := by
  unfold bytesN
  split
  · exact h
  · rename_i h1
    have hk := h.hasK (resolveN_hasN (h.toTold hT) (s := o.a) (by simpa using h1))
    generalize (resolveN t o.a).1 = r at *
    have hr := kind_ino hk
    have go : ∀ m : Node, m.ino = (getN t r).ino → m.kind = (getN t r).kind → m.links = (getN t r).links → m.names = (getN t r).names → LJ (withN t m) (fun _ => 0) := fun m e1 e2 e3 e4 =>
      h.with (by rw [e2]; exact hk) (by rw [e4, e1, hr]) (fun h2 => by rw [e4]; exact h.fil r (by rw [← e2]; exact h2)) (fun _ _ => rfl) (fun n1 => by
        rw [e1, hr] at n1 ⊢
        rw [e3]; exact h.lnk r hk n1)
    unfold bytesA
    repeat' split
    all_goals first | exact h | exact go _ rfl rfl rfl rfl
theorem LJ.remove {t : List Node} {o : Opn} (h : LJ t (fun _ => 0)) (hT : TInv t 1) (hdo : o.does = 4 ∨ o.does = 5) : LJ (removeN t o).1 (fun _ => 0) := by
  unfold removeN
  split
  · exact h
  · rename_i h1
    split
    · exact h
    · rename_i h2
      have hd := whereN_dir (t := t) (s := o.a) (by simpa using h1)
      generalize whereN t o.a = w at *
      obtain ⟨e0, he0, hs0, hi0⟩ := nameN_some (l := (getN t w.1).names) (s := w.2.1) (by omega)
      have hge : 2 ≤ nameN (getN t w.1).names w.2.1 := by rw [← hi0]; exact hT.inv.ge2 _ e0 he0
      have hk0 : (getN t (nameN (getN t w.1).names w.2.1)).kind ≠ 0 := by rw [← hi0]; exact h.told he0
      generalize nameN (getN t w.1).names w.2.1 = ino at *
      split
      · exact h
      · rename_i h3
        split
        · exact h
        · rename_i h4
          split
          · exact h
          · rename_i h5
            have hn : (getN t ino).names = [] := by
              rcases hdo with d4 | d5
              · exact h.fil _ fun hh => h3 ⟨d4, hh⟩
              · have : ¬ 0 < (getN t ino).names.length := fun hh => h5 ⟨d5, hh⟩
                exact List.length_eq_zero_iff.1 (by omega)
            have hne : ino ≠ w.1 := fun hh => by rw [← hh, hn] at he0; cases he0
            have hgi : getN (dropN t w.1 w.2.1) ino = getN t ino := by rw [getN_drop h.srt.uniq hd, if_neg hne]
            have hD := h.drop (i := ino) (s := w.2.1) hd ⟨e0, he0, hs0, hi0⟩
            have hL := hD.loses (i := ino) (by rw [hgi]; exact hk0) (by rw [hgi]; exact hn) (by omega) (by simp)
            exact hL.congr fun x => by
              by_cases e : x = ino
              · simp [e]
              · have : ¬ ino = x := fun hh => e hh.symm
                simp [e, this]
theorem LJ.rename {t : List Node} {o : Opn} (h : LJ t (fun _ => 0)) (hT : TInv t 1) : LJ (renameN t o).1 (fun _ => 0) := by
  unfold renameN
  split
  · exact h
  · rename_i h1
    split
    · exact h
    · rename_i h2
      split
      · exact h
      · rename_i h3
        have hf := whereN_dir (t := t) (s := o.a) (by simpa using h1)
        have hd := whereN_dir (t := t) (s := o.b) (by simpa using h3)
        generalize whereN t o.a = w at *
        generalize whereN t o.b = v at *
        obtain ⟨f, old, _⟩ := w
        obtain ⟨d, s, _⟩ := v
        simp only at *
        obtain ⟨e0, he0, hs0, hi0⟩ := nameN_some (l := (getN t f).names) (s := old) (by omega)
        have hk0 : (getN t (nameN (getN t f).names old)).kind ≠ 0 := by rw [← hi0]; exact h.told he0
        have hwas : ∀ e ∈ (getN t f).names, e.name = old → e.ino = nameN (getN t f).names old := fun e he hs => by
          rw [← hi0]; exact hT.inv.un _ e he e0 he0 (hs.trans hs0.symm)
        generalize nameN (getN t f).names old = ino at *
        unfold renameA
        split
        · exact h
        · rename_i h4
          split
          · exact h
          · split
            · exact h
            · rename_i h6
              split
              · exact h
              · rename_i h7
                unfold renamed
                have main : ∀ u : List Node, LJ u (fun _ => 0) → (getN u f).kind = 2 → (getN u d).kind = 2 → (∃ e ∈ (getN u f).names, e.name = old ∧ e.ino = ino) → (∀ e ∈ (getN u d).names, e.name ≠ s) → (getN u ino).kind ≠ 0 → (getN u ino).kind = (getN t ino).kind → LJ (if (getN t ino).kind = 2 then withN (putN (dropN u f old) d s ino) (moved (getN (putN (dropN u f old) d s ino) ino) d) else putN (dropN u f old) d s ino) (fun _ => 0) := fun u hu kf kd nf nd ki kt => by
                  have hD := hu.drop (i := ino) (s := old) kf nf
                  have hP := (hD.put (d0 := d) (s := s) (i := ino) (by rw [(drop_kind hu.srt.uniq kf).1]; exact kd) (fun e he => nd e ((drop_names hu.srt.uniq kf) e he).1) (by rw [(drop_kind hu.srt.uniq kf).1]; exact ki)).congr (d' := fun _ => 0) (fun x => by omega)
                  split
                  · rename_i hk
                    have hki : (getN (putN (dropN u f old) d s ino) ino).kind = 2 := by
                      rw [(getN_put hD.srt.uniq (by rw [(drop_kind hu.srt.uniq kf).1]; exact kd)).1, (drop_kind hu.srt.uniq kf).1, kt]; exact hk
                    generalize putN (dropN u f old) d s ino = p at *
                    have hin : (moved (getN p ino) d).ino = ino := dir_ino hki
                    refine hP.with (by show (getN p ino).kind ≠ 0; rw [hki]; decide) (by rw [hin]; rfl) (fun hh => absurd hki hh) (fun _ _ => rfl) (fun n1 => ?_)
                    rw [hin] at n1 ⊢
                    exact hP.lnk ino (by rw [hki]; decide) n1
                  · exact hP
                by_cases hw : 0 ≤ nameN (getN t d).names s
                · simp only [if_pos hw]
                  have hkw : (getN t (nameN (getN t d).names s)).kind ≠ 2 := fun hh => h7 ⟨hw, hh⟩
                  obtain ⟨e1, he1, hs1, hi1⟩ := nameN_some hw
                  have hk1 : (getN t (nameN (getN t d).names s)).kind ≠ 0 := by rw [← hi1]; exact h.told he1
                  have hg1 : 2 ≤ nameN (getN t d).names s := by rw [← hi1]; exact hT.inv.ge2 _ e1 he1
                  generalize nameN (getN t d).names s = was at *
                  have hnf : f ≠ was := fun hh => by rw [hh] at hf; exact hkw hf
                  have hnd : d ≠ was := fun hh => by rw [hh] at hd; exact hkw hd
                  have hni : ino ≠ was := fun hh => h4 hh.symm
                  have hgw : getN (dropN t d s) was = getN t was := by rw [getN_drop h.srt.uniq hd, if_neg (fun hh => hnd hh.symm)]
                  have hD := h.drop (i := was) (s := s) hd ⟨e1, he1, hs1, hi1⟩
                  have hL := (hD.loses (i := was) (by rw [hgw]; exact hk1) (by rw [hgw]; exact h.fil _ hkw) (by omega) (by simp)).congr (d' := fun _ => 0) (fun x => by
                    by_cases e : x = was
                    · simp [e]
                    · have : ¬ was = x := fun hh => e hh.symm
                      simp [e, this])
                  have hgl : ∀ y, y ≠ was → getN (losesN (dropN t d s) was) y = getN (dropN t d s) y := fun y hy => getN_loses hD.srt.uniq hy
                  refine main _ hL ?_ ?_ ?_ ?_ ?_ ?_
                  · rw [hgl f hnf, (drop_kind h.srt.uniq hd).1]; exact hf
                  · rw [hgl d hnd, (drop_kind h.srt.uniq hd).1]; exact hd
                  · rw [hgl f hnf, getN_drop h.srt.uniq hd]
                    split
                    · rename_i hfd
                      subst hfd
                      refine ⟨e0, List.mem_filter.2 ⟨he0, ?_⟩, hs0, hi0⟩
                      rw [decide_eq_true_eq]
                      intro hh
                      have := hT.inv.un _ e0 he0 e1 he1 (hh.trans hs1.symm)
                      exact hni (hi0.symm.trans (this.trans hi1))
                    · exact ⟨e0, he0, hs0, hi0⟩
                  · rw [hgl d hnd]; exact fun e he => ((drop_names h.srt.uniq hd) e he).2 rfl
                  · rw [hgl ino hni, (drop_kind h.srt.uniq hd).1]; exact hk0
                  · rw [hgl ino hni, (drop_kind h.srt.uniq hd).1]
                · simp only [if_neg hw]
                  exact main t h hf hd ⟨e0, he0, hs0, hi0⟩ (nameN_none (hT.inv.ge2 d) (Int.not_le.1 hw)) hk0 rfl
theorem LJ.step {t : List Node} {o : Opn} (h : LJ t (fun _ => 0)) (hT : TInv t 1) : LJ (stepN t o).1 (fun _ => 0) := by
  unfold stepN
  split
  · exact h
  · rename_i hm
    have := of_decide_eq_true ((Bool.not_eq_false _).mp hm)
    repeat' split
    · exact h.make hT
    · exact h.link hT
    · exact h.remove hT (by omega)
    · exact h.rename hT
    · exact h.bytes hT
    · exact h
    · exact h
theorem LJ.play (l : List Opn) : LJ (playN l) (fun _ => 0) := by
  have : ∀ (l : List Opn) (t : List Node), TInv t 1 → LJ t (fun _ => 0) → LJ (l.foldl (fun t o => (stepN t o).1) t) (fun _ => 0) := fun l => by
    induction l with
    | nil => exact fun t _ h => h
    | cons o r ih => exact fun t hT h => ih _ hT.step (h.step hT)
  exact this l newN TInv.new LJ.new
end Go.Proofs.Ytghllhghboaagaa
end
/-! The value machine: arguments that can be read, as data; and what a row's statement asks behind a call. -/
section
set_option linter.unusedVariables false
set_option linter.unusedSimpArgs false
namespace Go.Vm
open Go.ChangeShapes Go.RowKit

/-- The forms of data that a law is handed. -/
inductive Ty where
  | bool
  | int (k : IntKind)
  | str
  | sl (e : Ty)
  | agg (fs : List Ty)
  deriving Inhabited
def Ty.isAgg : Ty → Bool | .agg _ => true | _ => false
def Ty.cells : Ty → List Ty | .agg fs => fs | .bool => [.bool] | .int k => [.int k] | .str => [.str] | .sl e => [.sl e]
def ofFields (P : Program) (g : TypeId → Option Ty) : List Field → Nat → Option (List Ty)
  | [], _ => some []
  | f :: r, off => match g f.type with
    | some x => if f.offset = off ∧ P.cellsOf f.type = x.cells.length then match ofFields P g r (off + x.cells.length) with
      | some l => some (x.cells ++ l)
      | none => none
      else none
    | none => none
def ofType (P : Program) : Nat → TypeId → Option Ty
  | 0, _ => none
  | n + 1, t => match P.underlying t with
    | some .bool => some .bool
    | some (.int k) => some (.int k)
    | some .string => some .str
    | some (.slice e) => match ofType P n e with
      | some x => if P.cellsOf e = x.cells.length ∧ x.cells.length ≠ 0 then some (.sl x) else none
      | none => none
    | some (.struct fs) => match ofFields P (ofType P n) fs.toList 0 with
      | some l => if P.cellsOf t = l.length then some (.agg l) else none
      | none => none
    | some (.array m e) => match ofType P n e with
      | some x => if P.cellsOf e = x.cells.length ∧ P.cellsOf t = m * x.cells.length then some (.agg (List.replicate m x.cells).flatten) else none
      | none => none
    | _ => none

mutual
def HasTy : Ty → D → Prop
  | .bool, x => ∃ b, x = .bool b
  | .int k, x => ∃ n, x = .int k n ∧ k.min ≤ n ∧ n ≤ k.max
  | .str, x => ∃ s, x = .str s ∧ s.length ≤ maxLen
  | .sl e, x => ∃ xs, x = .sl xs ∧ xs.length ≤ maxLen ∧ ∀ y ∈ xs, HasTy e y
  | .agg fs, x => ∃ xs, x = .agg xs ∧ HasL fs xs
def HasL : List Ty → List D → Prop
  | [], xs => xs = []
  | t :: ts, xs => ∃ y r, xs = y :: r ∧ HasTy t y ∧ HasL ts r
end
theorem hasTy_agg {t : Ty} {x : D} (h : HasTy t x) : x.isAgg = t.isAgg := by
  cases t <;> simp only [HasTy] at h <;> obtain ⟨_, rfl, _⟩ := h <;> rfl
theorem hasL_append : ∀ {ts us : List Ty} {xs ys : List D}, HasL ts xs → HasL us ys → HasL (ts ++ us) (xs ++ ys)
  | [], us, xs, ys, h, h' => by simp only [HasL] at h; subst h; exact h'
  | t :: ts, us, xs, ys, h, h' => by
    simp only [HasL] at h
    obtain ⟨y, r, rfl, h1, h2⟩ := h
    simp only [List.cons_append, HasL]
    exact ⟨y, r ++ ys, rfl, h1, hasL_append h2 h'⟩
theorem hasTy_cells {t : Ty} {x : D} (h : HasTy t x) : HasL t.cells x.cells := by
  cases t with
  | agg fs => simp only [HasTy] at h; obtain ⟨xs, rfl, h⟩ := h; exact h
  | _ =>
    have h' := h
    simp only [HasTy] at h
    obtain ⟨_, rfl, _⟩ := h
    simp only [Ty.cells, D.cells, HasL]
    exact ⟨_, [], rfl, h', rfl⟩
section
variable {P : Program} {H : Type} {enc : TypeId × Value → H} {w : World}

theorem mapM_cons_some {α β : Type} {f : α → Option β} {x : α} {r : List α} {ys : List β} (h : (x :: r).mapM f = some ys) : ∃ y zs, f x = some y ∧ r.mapM f = some zs ∧ ys = y :: zs := by
  rw [List.mapM_cons] at h
  cases h1 : f x with
  | none => simp [h1] at h
  | some y =>
    cases h2 : r.mapM f with
    | none => simp [h1, h2] at h
    | some zs => simp [h1, h2] at h; exact ⟨y, zs, rfl, rfl, h.symm⟩
theorem mapM_nil_some {α β : Type} {f : α → Option β} {ys : List β} (h : ([] : List α).mapM f = some ys) : ys = [] := by simpa using h.symm
theorem cells?_spec {base : Nat} {a : Addr} {n : Nat} {us : List Value} (h : w.cells? base a n = some us) : us.length = n ∧ ∀ j v, us[j]? = some v → w.cell? (a.add j) = some v := by
  unfold World.cells? at h
  split at h
  · have key : ∀ (m s : Nat) (us : List Value), (List.range' s m).mapM (fun i => w.cell? (a.add i)) = some us → us.length = m ∧ ∀ j v, us[j]? = some v → w.cell? (a.add (s + j)) = some v := by
      intro m
      induction m with
      | zero => intro s us h; have := mapM_nil_some h; subst this; exact ⟨rfl, fun j v h => by simp at h⟩
      | succ m ih =>
        intro s us h
        rw [List.range'_succ] at h
        obtain ⟨y, zs, h1, h2, rfl⟩ := mapM_cons_some h
        obtain ⟨g1, g2⟩ := ih (s + 1) zs h2
        refine ⟨by simp [g1], fun j v hj => ?_⟩
        cases j with
        | zero => simp at hj; subst hj; exact h1
        | succ j => simp at hj; have := g2 j v hj; rw [show s + (j + 1) = s + 1 + j by omega]; exact this
    rw [List.range_eq_range'] at h
    obtain ⟨g1, g2⟩ := key n 0 us h
    exact ⟨g1, fun j v hj => by simpa using g2 j v hj⟩
  · cases h
theorem cellsAt_of {a : Addr} {us : List Value} (hne : us ≠ []) (h : ∀ j v, us[j]? = some v → w.cell? (a.add j) = some v) : a.spot = none ∧ a.block < w.heap.size ∧ CellsAt w a.block a.off us := by
  have h0 : ∃ v, us[0]? = some v := by cases us with | nil => exact absurd rfl hne | cons x r => exact ⟨x, rfl⟩
  obtain ⟨v, hv⟩ := h0
  have := h 0 v hv
  rw [Addr.add_zero'] at this
  unfold World.cell? at this
  cases hb : w.heap[a.block]? with
  | none => simp [hb] at this
  | some o =>
    cases o with
    | cells c e f =>
      simp only [hb] at this
      split at this
      · cases this
      · rename_i hs
        refine ⟨by simpa using hs, lt_of_heap hb, c, e, f, hb, fun j v hj => ?_⟩
        have := h j v hj
        unfold World.cell? at this
        have hbl : (a.add j).block = a.block := by unfold Addr.add; split <;> rfl
        have hoff : (a.add j).off = a.off + j := by unfold Addr.add; split <;> simp_all
        simp only [hbl, hb] at this
        split at this
        · cases this
        · rw [hoff] at this; exact this
    | _ => simp [hb] at this

theorem addr_add_add (a : Addr) (m n : Nat) : (a.add m).add n = a.add (m + n) := by
  unfold Addr.add
  by_cases h : m = 0 <;> by_cases h' : n = 0 <;> simp [h, h', Nat.add_assoc]
abbrev Old (w : World) (b : Nat) : Prop := b < w.heap.size
theorem repL_append' {A : Nat → Prop} : ∀ {xs ys : List D} {us vs : List Value}, RepL A w xs us → RepL A w ys vs → RepL A w (xs ++ ys) (us ++ vs)
  | [], ys, us, vs, h, h' => by simp only [RepL] at h; subst h; exact h'
  | x :: r, ys, us, vs, h, h' => by
    simp only [RepL] at h
    obtain ⟨v, us', rfl, h1, h2, h3⟩ := h
    simp only [List.cons_append, RepL]
    exact ⟨v, us' ++ vs, rfl, h1, h2, repL_append' h3 h'⟩

theorem hasL_length : ∀ {ts : List Ty} {xs : List D}, HasL ts xs → xs.length = ts.length
  | [], xs, h => by simp only [HasL] at h; simp [h]
  | t :: ts, xs, h => by
    simp only [HasL] at h
    obtain ⟨y, r, rfl, _, h2⟩ := h
    simp [hasL_length h2]
theorem fields_rep {base : Nat} {spare : Nat → Bool} {held : Bool} {g : TypeId → Option Ty} {cs : List Value} {fu : Nat} (ih : ∀ {t : TypeId} {cs : List Value} {z : DataW H × List MemPlace} {T : Ty}, DataW.trod enc P w base spare held fu t cs = some z → g t = some T → ∃ x, HasTy T x ∧ RepC (Old w) w x cs) :
    ∀ {l : List Field} {off : Nat} {ts : List Ty}, ofFields P g l off = some ts → (∀ f ∈ l, ∃ z, DataW.trod enc P w base spare held fu f.type ((cs.drop f.offset).take (P.cellsOf f.type)) = some z) → ∃ xs, HasL ts xs ∧ RepL (Old w) w xs ((cs.drop off).take ts.length)
  | [], off, ts, h, _ => by
    simp only [ofFields, Option.some.injEq] at h; subst h
    exact ⟨[], rfl, by simp [RepL]⟩
  | f :: r, off, ts, h, hz => by
    simp only [ofFields] at h
    cases hg : g f.type with
    | none => simp [hg] at h
    | some T =>
      simp only [hg] at h
      split at h
      · rename_i hc
        obtain ⟨rfl, hc2⟩ := hc
        cases hr : ofFields P g r (f.offset + T.cells.length) with
        | none => simp [hr] at h
        | some l =>
          simp only [hr, Option.some.injEq] at h; subst h
          obtain ⟨z, hz1⟩ := hz f (by simp)
          obtain ⟨x, hx, hrx⟩ := ih hz1 hg
          obtain ⟨xs, h1, h2⟩ := fields_rep ih hr (fun f' hf' => hz f' (by simp [hf']))
          refine ⟨x.cells ++ xs, hasL_append (hasTy_cells hx) h1, ?_⟩
          have e : (cs.drop f.offset).take (T.cells ++ l).length = (cs.drop f.offset).take (P.cellsOf f.type) ++ (cs.drop (f.offset + T.cells.length)).take l.length := by
            rw [List.length_append, List.take_add, hc2, List.drop_drop]
          rw [e]
          exact repL_append' (repC_cells hrx) h2
      · cases h
/-- What can be read reads as data. -/
theorem trod_rep {base : Nat} {spare : Nat → Bool} {held : Bool} : ∀ (n : Nat) (fuel : Nat) {t : TypeId} {cs : List Value} {z : DataW H × List MemPlace} {T : Ty}, DataW.trod enc P w base spare held fuel t cs = some z → ofType P n t = some T → ∃ x, HasTy T x ∧ RepC (Old w) w x cs := by
  intro n
  induction n with
  | zero => intro fuel t cs z T h hT; simp [ofType] at hT
  | succ n ih =>
    intro fuel t cs z T h hT
    simp only [ofType] at hT
    cases hu : P.underlying t with
    | none => simp [hu] at hT
    | some td =>
      simp only [hu] at hT
      cases td with
      | bool =>
        simp only [Option.some.injEq] at hT; subst hT
        obtain ⟨b, rfl, _⟩ := DataW.trod_bool hu h
        exact ⟨.bool b, ⟨b, rfl⟩, by simp [RepC]⟩
      | int k =>
        simp only [Option.some.injEq] at hT; subst hT
        obtain ⟨m, rfl, _, hwf⟩ := DataW.trod_int hu h
        exact ⟨.int k m, ⟨m, rfl, by simpa [Lit.wf] using hwf⟩, by simp [RepC]⟩
      | string =>
        simp only [Option.some.injEq] at hT; subst hT
        obtain ⟨s, rfl, _, hl⟩ := DataW.trod_string hu h
        exact ⟨.str s.data.toList, ⟨_, rfl, hl⟩, by simp [RepC]⟩
      | slice e =>
        simp only at hT
        cases he : ofType P n e with
        | none => simp [he] at hT
        | some E =>
          simp only [he] at hT
          split at hT
          · rename_i hc
            obtain ⟨hc, hne⟩ := hc
            simp only [Option.some.injEq] at hT; subst hT
            rcases Go.Deep.open_slice hu h with ⟨rfl, _⟩ | ⟨a, len, cap, m, fu, D0, Pl, rfl, _, hle, hcap, hm, _, hel⟩
            · refine ⟨.sl [], ⟨[], rfl, by simp, by simp⟩, ?_⟩
              simp only [RepC]
              exact ⟨none, 0, rfl, Nat.le_refl _, .inl trivial⟩
            · have hlm : len ≤ m := by rw [hm]; split <;> omega
              rw [hc] at hel
              -- the elements, from one index on
              have key : ∀ (l s : Nat), s + l ≤ m → ∃ xs us, xs.length = l ∧ us.length = l * E.cells.length ∧ (∀ y ∈ xs, HasTy E y) ∧ RepE (Old w) w E.cells.length xs us ∧ ∀ j v, us[j]? = some v → w.cell? (a.add (s * E.cells.length + j)) = some v := by
                intro l
                induction l with
                | zero => intro s _; exact ⟨[], [], rfl, by simp, by simp, by simp [RepE], fun j v h => by simp at h⟩
                | succ l ihl =>
                  intro s hs
                  obtain ⟨cs', g1, g2⟩ := hel s (by omega)
                  obtain ⟨x, hx, hr⟩ := ih fu g2 he
                  obtain ⟨k1, k2⟩ := cells?_spec g1
                  obtain ⟨xs, us, f1, f2, f3, f4, f5⟩ := ihl (s + 1) (by omega)
                  refine ⟨x :: xs, cs' ++ us, by simp [f1], by simp [k1, f2, Nat.succ_mul]; omega, fun y hy => ?_, ?_, fun j v hj => ?_⟩
                  · rcases List.mem_cons.1 hy with rfl | hy
                    · exact hx
                    · exact f3 y hy
                  · simp only [RepE]
                    exact ⟨cs', us, rfl, k1, hr, f4⟩
                  · rw [List.getElem?_append] at hj
                    split at hj
                    · have := k2 j v hj
                      rwa [addr_add_add] at this
                    · rename_i hlt
                      have := f5 _ v hj
                      rw [show s * E.cells.length + j = (s + 1) * E.cells.length + (j - cs'.length) by rw [Nat.succ_mul]; omega]
                      exact this
              obtain ⟨xs, us, f1, f2, f3, f4, f5⟩ := key len 0 (by omega)
              refine ⟨.sl xs, ⟨xs, rfl, by omega, f3⟩, ?_⟩
              simp only [RepC]
              refine ⟨some a, cap, by rw [f1], by omega, ?_⟩
              by_cases h0 : xs = []
              · exact .inl h0
              · right
                have hne' : us ≠ [] := by
                  intro hn
                  rw [hn] at f2
                  simp only [List.length_nil] at f2
                  have : len ≠ 0 := by
                    intro h00; rw [h00] at f1; exact h0 (List.length_eq_zero_iff.1 f1)
                  have := Nat.mul_ne_zero this hne
                  omega
                obtain ⟨c1, c2, c3⟩ := cellsAt_of hne' (fun j v hj => by simpa using f5 j v hj)
                exact ⟨a, _, us, rfl, c1, c2, c3, f4⟩
          · cases hT
      | struct fs =>
        simp only at hT
        cases hf : ofFields P (ofType P n) fs.toList 0 with
        | none => simp [hf] at hT
        | some l =>
          simp only [hf] at hT
          split at hT
          · rename_i hc
            simp only [Option.some.injEq] at hT; subst hT
            obtain ⟨xs, fu, _, _, hl, hxl, hel⟩ := DataW.trod_struct hu h
            obtain ⟨ys, h1, h2⟩ := fields_rep (fun a b => ih fu a b) hf (fun f hf' => by
              obtain ⟨i, hi⟩ := List.getElem?_of_mem hf'
              have hi' : fs[i]? = some f := by simpa using hi
              have := hel i f hi'
              have hlt : i < xs.length := by
                rw [hxl]
                rcases Nat.lt_or_ge i fs.size with h' | h'
                · exact h'
                · simp [h'] at hi'
              exact ⟨xs[i], by rw [this]; simp [hlt]⟩)
            refine ⟨.agg ys, ⟨ys, rfl, h1⟩, ?_⟩
            simp only [RepC]
            rw [List.drop_zero, List.take_of_length_le (by omega)] at h2
            exact h2
          · cases hT
      | array m e =>
        simp only at hT
        cases he : ofType P n e with
        | none => simp [he] at hT
        | some E =>
          simp only [he] at hT
          split at hT
          · rename_i hc
            obtain ⟨hc, hc2⟩ := hc
            simp only [Option.some.injEq] at hT; subst hT
            obtain ⟨xs, fu, _, _, hl, hxl, hel⟩ := DataW.trod_array hu h
            rw [hc] at hel
            have key : ∀ (l s : Nat), s + l ≤ m → ∃ ys, HasL (List.replicate l E.cells).flatten ys ∧ RepL (Old w) w ys ((cs.drop (s * E.cells.length)).take (l * E.cells.length)) := by
              intro l
              induction l with
              | zero => intro s _; exact ⟨[], by simp [HasL], by simp [RepL]⟩
              | succ l ihl =>
                intro s hs
                have hlt : s < xs.length := by omega
                have h0 := hel s (by omega)
                rw [List.getElem?_eq_getElem hlt] at h0
                obtain ⟨x, hx, hr⟩ := ih fu h0 he
                obtain ⟨ys, f1, f2⟩ := ihl (s + 1) (by omega)
                refine ⟨x.cells ++ ys, by rw [List.replicate_succ, List.flatten_cons]; exact hasL_append (hasTy_cells hx) f1, ?_⟩
                have e : (cs.drop (s * E.cells.length)).take ((l + 1) * E.cells.length) = (cs.drop (s * E.cells.length)).take E.cells.length ++ (cs.drop ((s + 1) * E.cells.length)).take (l * E.cells.length) := by
                  rw [Nat.succ_mul, Nat.add_comm (l * _), List.take_add, List.drop_drop, Nat.succ_mul]
                rw [e]
                exact repL_append' (repC_cells hr) f2
            obtain ⟨ys, f1, f2⟩ := key m 0 (by omega)
            refine ⟨.agg ys, ⟨ys, rfl, f1⟩, ?_⟩
            simp only [RepC]
            rw [Nat.zero_mul, List.drop_zero, List.take_of_length_le (by omega)] at f2
            exact f2
          · cases hT
      | _ => simp at hT

/-- All that is handed. -/
def ofTypes (P : Program) (n : Nat) : List TypeId → Option (List Ty) := allO (ofType P n)
theorem leaf_of_ok {r : Reach} {base : Nat} {t : TypeId} {v : Value} {n : Nat} {T : Ty} (hT : ofType P n t = some T) (hok : Value.okWide P w r base t v) : (T.isAgg = true ∧ ∃ us, v = .agg us) ∨ (T.isAgg = false ∧ v.cells = #[v]) := by
  cases n with
  | zero => simp [ofType] at hT
  | succ n =>
    simp only [ofType] at hT
    unfold Value.okWide at hok
    cases hu : P.underlying t with
    | none => simp [hu] at hT
    | some td =>
      simp only [hu] at hT hok
      cases td with
      | bool =>
        simp only [Option.some.injEq] at hT; subst hT
        refine .inr ⟨rfl, ?_⟩
        simp only [Cell.okWide, hu] at hok
        cases v <;> simp_all [Cell.ok, Value.cells]
      | int k =>
        simp only [Option.some.injEq] at hT; subst hT
        refine .inr ⟨rfl, ?_⟩
        simp only [Cell.okWide, hu] at hok
        cases v <;> simp_all [Cell.ok, Value.cells]
      | string =>
        simp only [Option.some.injEq] at hT; subst hT
        refine .inr ⟨rfl, ?_⟩
        simp only [Cell.okWide, hu] at hok
        cases v <;> simp_all [Cell.ok, Value.cells]
      | slice e =>
        simp only at hT
        cases he : ofType P n e with
        | none => simp [he] at hT
        | some E =>
          simp only [he] at hT
          split at hT
          · simp only [Option.some.injEq] at hT; subst hT
            refine .inr ⟨rfl, ?_⟩
            simp only [Cell.okWide, hu] at hok
            cases v <;> simp_all [Cell.ok, Value.cells]
          · cases hT
      | struct fs =>
        simp only at hT
        cases hf : ofFields P (ofType P n) fs.toList 0 with
        | none => simp [hf] at hT
        | some l =>
          simp only [hf] at hT
          split at hT
          · simp only [Option.some.injEq] at hT; subst hT
            obtain ⟨cs, h, _⟩ := hok
            exact .inl ⟨rfl, cs, h⟩
          · cases hT
      | array m e =>
        simp only at hT
        cases he : ofType P n e with
        | none => simp [he] at hT
        | some E =>
          simp only [he] at hT
          split at hT
          · simp only [Option.some.injEq] at hT; subst hT
            obtain ⟨cs, h, _⟩ := hok
            exact .inl ⟨rfl, cs, h⟩
          · cases hT
      | _ => simp at hT
theorem open_all {base : Nat} {spare : Nat → Bool} {held : Bool} {r : Reach} {b0 : Nat} {n : Nat} : ∀ {ts : List TypeId} {vs : List Value} {ds : List (DataW H)} {ps : List MemPlace} {Ts : List Ty}, DataW.TrodAll enc P w base spare held ts vs ds ps → ofTypes P n ts = some Ts →
    (∀ (j : Nat) t v, ts[j]? = some t → vs[j]? = some v → Value.okWide P w r b0 t v) → ∃ xs, HasL Ts xs ∧ RepS (Old w) w xs vs
  | [], vs, ds, ps, Ts, h, hT, _ => by
    simp only [ofTypes, allO, Option.some.injEq] at hT; subst hT
    cases vs with
    | nil => exact ⟨[], rfl, by simp [RepS]⟩
    | cons v vs => cases ds <;> simp [DataW.TrodAll] at h
  | t :: ts, vs, ds, ps, Ts, h, hT, hok => by
    obtain ⟨T, Ts', h1, h2, rfl⟩ := allO_cons hT
    cases vs with
    | nil => simp [DataW.TrodAll] at h
    | cons v vs =>
      cases ds with
      | nil => simp [DataW.TrodAll] at h
      | cons d ds =>
        obtain ⟨p, q, ⟨fu, hd⟩, hr, rfl⟩ := h
        obtain ⟨x, hx, hrx⟩ := trod_rep n fu hd h1
        obtain ⟨xs, g1, g2⟩ := open_all hr h2 (fun j t v hj hv => hok (j + 1) t v (by simpa using hj) (by simpa using hv))
        refine ⟨x :: xs, by simp only [HasL]; exact ⟨x, xs, rfl, hx, g1⟩, ?_⟩
        simp only [RepS]
        refine ⟨v, vs, rfl, ?_, g2⟩
        rcases leaf_of_ok h1 (hok 0 t v (by simp) (by simp)) with ⟨e1, us, rfl⟩ | ⟨e1, e2⟩
        · exact .inl ⟨by rw [hasTy_agg hx, e1], us, rfl, by simpa [Value.cells] using hrx⟩
        · exact .inr ⟨by rw [hasTy_agg hx, e1], by rw [e2] at hrx; simpa using hrx⟩

theorem trodAll_len {base : Nat} {spare : Nat → Bool} {held : Bool} : ∀ {ts : List TypeId} {vs : List Value} {ds : List (DataW H)} {ps : List MemPlace}, DataW.TrodAll enc P w base spare held ts vs ds ps → ds.length = ts.length
  | [], vs, ds, ps, h => by
    cases vs <;> cases ds <;> simp_all [DataW.TrodAll]
  | t :: ts, vs, ds, ps, h => by
    cases vs with
    | nil => simp [DataW.TrodAll] at h
    | cons v vs =>
      cases ds with
      | nil => simp [DataW.TrodAll] at h
      | cons d ds =>
        obtain ⟨p, q, _, hr, rfl⟩ := h
        simp [trodAll_len hr]
theorem len1 {α : Type} {l : List α} (h : l.length = 1) : ∃ a, l = [a] := List.length_eq_one_iff.1 h
theorem len2 {α : Type} {l : List α} (h : l.length = 2) : ∃ a b, l = [a, b] := by
  match l, h with
  | [a, b], _ => exact ⟨a, b, rfl⟩
theorem len3 {α : Type} {l : List α} (h : l.length = 3) : ∃ a b c, l = [a, b, c] := by
  match l, h with
  | [a, b, c], _ => exact ⟨a, b, c, rfl⟩
theorem trodVars_nil {T : List String} {gs : List (DataW H)} {q : List MemPlace} {own : Nat → Bool} (hT : T = []) (h : DataW.TrodVars enc P w own T gs q) : gs = [] := by
  subst hT
  cases gs with
  | nil => rfl
  | cons g gs => simp [DataW.TrodVars] at h
/-- The arguments read behind the call as they did. -/
theorem below_all {W W' : World} (hl : laidOutB P = true) (hb : Below W.heap.size W W') : ∀ {ts : List TypeId} {vs : List Value} {ds : List (DataW H)} {ps : List MemPlace}, (ts.all fun t => P.readableRec t && decide (t < P.types.size)) = true → DataW.TrodAll enc P W 0 (fun _ => true) true ts vs ds ps → (∀ x ∈ ps, x.block < W.heap.size) → DataW.TrodAll enc P W' 0 (fun b => decide (b < W.heap.size)) true ts vs ds ps
  | [], vs, ds, ps, _, h, _ => by
    cases vs <;> cases ds <;> simp_all [DataW.TrodAll]
  | t :: ts, vs, ds, ps, hr, h, hlt => by
    simp only [List.all_cons, Bool.and_eq_true, decide_eq_true_eq] at hr
    cases vs with
    | nil => simp [DataW.TrodAll] at h
    | cons v vs =>
      cases ds with
      | nil => simp [DataW.TrodAll] at h
      | cons d ds =>
        obtain ⟨p, q, hd, hrest, rfl⟩ := h
        exact ⟨p, q, Below.trod hl hr.1.1 hr.1.2 hd hb (fun x hx => hlt x (by simp [hx])), below_all hl hb (by simpa using hr.2) hrest (fun x hx => hlt x (by simp [hx])), rfl⟩

/-- What a law's row asks behind the call. -/
theorem law_post {f : Func} {s : ChangeSpec} {apart : Bool} {W W' : World} {args : Array Value} {ds gs : List (DataW H)} {before : List MemPlace} {t : TypeId} (hl : laidOutB P = true) (hread : (f.params.toList.all fun t => P.readableRec t && decide (t < P.types.size)) = true)
    (hW : DataW.Whole enc P f.params.toList s.vars apart W args.toList ds gs before) (hv : s.vars = []) (hres : f.resultTypes = #[t]) (hu : P.underlying t = some .bool)
    (hfn : s.fn H (ds ++ gs) = { results := [.lit (.bool true)], args := ds }) (hb : Below W.heap.size W W') : s.post enc P f apart true false false W args (.bool true) W' := by
  have hlt : ∀ x ∈ before, x.block < W.heap.size := fun x hx => by simpa using hW.lt x hx
  have hW0 := hW
  obtain ⟨p, q, hA, hV, rfl, hz, hn⟩ := hW
  refine ⟨ds, gs, p ++ q, [], p, q, hW0, ?_, ?_, ?_, hb.frame _, fun h => by cases h⟩
  · rw [hfn, hres]
    exact trodAll_mk1 (shut_bool hu true)
  · rw [hfn]
    exact below_all hl hb hread hA (fun x hx => hlt x (by simp [hx]))
  · rw [hfn]
    rw [hv] at hV ⊢
    cases gs with
    | nil => exact hV
    | cons g gs => simp [DataW.TrodVars] at hV
/-- A law that the machine answers with true. -/
theorem law_calls {C : Cfg} (hext : ExtOk C) (hcatch : CatchOk C) {n : Nat} {f : FuncId} {xs : List D} {args : Array Value} {W : World} (hrun : runD C n f xs = some (.ret (.d (.bool true)))) (hr : RepS (Old W) W xs args.toList) :
    Calls C.P f args W fun e W' => e = .returned (.bool true) ∧ Below W.heap.size W W' := by
  obtain ⟨o', ho, hcalls⟩ := runD_ok hext hcatch n f xs _ hrun
  have ho' : o' = .ret (.bool true) := by
    cases o' with
    | ret x => simp only [OutD.out, Out.ret.injEq, V.d.injEq] at ho; rw [ho]
    | tup xs => simp [OutD.out] at ho
    | pan x => simp [OutD.out] at ho
  subst ho'
  refine (hcalls (Old W) W args (fun b hb => hb) hr).mono fun e W' he => ?_
  cases e with
  | returned v =>
    obtain ⟨A', h1, h2⟩ := he
    have h2 := (repX_leaf rfl).1 h2
    simp only [RepC, List.cons.injEq, and_true] at h2
    exact ⟨by rw [h2], h1.os, h1.tape, h1.output, h1.size, h1.old⟩
  | panicked c => obtain ⟨x, v, h, _⟩ := he; cases h
  | outgrown => exact he.elim
end
end Go.Vm
end
/-! What 'caught' does: it calls what it is handed, and tells what that gave up with. -/
section
namespace Go.Proofs.Ytghllhghboaagaa
open Go.RowKit Go.Vm
theorem caught1_idle (p : Addr) (w : World) :
    CallsD Try.prog 75 #[.pointer (some p)] .returning w fun e u' w' => e = .returned (.tuple #[]) ∧ u' = .returning ∧ w' = w := by
  have hb0 : ∀ w : World, (binOp BinOp.neq 20 .nilIface .nilIface).run Try.prog w = .ok (.bool false) w := fun _ => by kernel_rfl
  refine callsD_of_wpS Try.func75 rfl fun c₀ cs hu => ?_
  apply wpS_seq
  apply wpS_region
  simp [wpOpsS, go_sem, recoverD, hu, Try.ntmps75, Exit.thenS]
  apply wpS_seq
  apply wpS_region
  simp [wpOpsS, go_sem, Exit.thenS, hb0]
  refine wpS_cond (t := false) (by simp [Act.eval, Array.replicate]) ?_
  simp only [Bool.false_eq_true, if_false]
  refine wpS_of_wp (wp_skip ?_)
  cases c₀
  simp_all [bodyPostS, results, Try.results75]
theorem caught1_pan (p : Addr) (n : Int) (u0 : Value) (older : List PanicEntry) (w : World) (hc : w.cell? p = some u0) (hz : w.frozen? p = false) :
    CallsD Try.prog 75 #[.pointer (some p)] (.panicking ({ v := .iface 41 (.int .i64 n), recovered := false } :: older)) w fun e u' w' =>
      e = .returned (.tuple #[]) ∧ u' = .panicking ({ v := .iface 41 (.int .i64 n), recovered := true } :: older) ∧ w' = (w.setCell p (.int .i64 1)).setCell p (.int .i64 n) := by
  have hb1 : ∀ (w : World) (v : Value), (binOp BinOp.neq 20 (.iface 41 v) .nilIface).run Try.prog w = .ok (.bool true) w := fun _ _ => by kernel_rfl
  have hta : ∀ (w : World) (v : Value), (Instr.typeAssert (.iface 41 v) 20 41 true).run Try.prog w = .ok (.tuple #[v, .bool true]) w := fun _ _ => by kernel_rfl
  refine callsD_of_wpS Try.func75 rfl fun c₀ cs hu => ?_
  apply wpS_seq
  apply wpS_region
  simp [wpOpsS, go_sem, recoverD, hu, Try.ntmps75, Exit.thenS]
  apply wpS_seq
  apply wpS_region
  simp [wpOpsS, go_sem, Exit.thenS, hb1]
  refine wpS_cond (t := true) (by simp [Act.eval, Array.replicate]) ?_
  simp only [if_true]
  apply wpS_seq
  apply wpS_region
  simp [wpOpsS, go_sem, hc, hz, Exit.thenS]
  apply wpS_seq
  apply wpS_region
  simp [wpOpsS, go_sem, Exit.thenS, hta]
  apply wpS_seq
  apply wpS_region
  simp [wpOpsS, go_sem, Exit.thenS]
  refine wpS_cond (t := true) (by simp [Act.eval, Array.replicate]) ?_
  simp only [if_true]
  have hc2 : (w.setCell p (.int .i64 1)).cell? p = some (.int .i64 1) := World.cell?_setCell_same _ _ _ hc
  have hz2 : (w.setCell p (.int .i64 1)).frozen? p = false := by simp [go_sem, hz]
  apply wpS_region
  simp [wpOpsS, go_sem, hc2, hz2, bodyPostS, results, Try.results75]
theorem caught_run (g : FuncId) (hb : (bodyOf Try.prog g).isSome = true) (fa ca : Array Value) (w : World) (R : Ending → World → Prop)
    (hg : Calls Try.prog g (fa ++ ca) (w.alloc (.cells #[.int .i64 0] 41)) fun e w' => match e with
      | .returned _ => ∃ u0, w'.cell? ⟨w.heap.size, 0, Option.none⟩ = some u0 ∧ w'.frozen? ⟨w.heap.size, 0, Option.none⟩ = false ∧ R (.returned (.int .i64 0)) (w'.setCell ⟨w.heap.size, 0, Option.none⟩ (.int .i64 0))
      | .panicked c => ∃ n u0, c = [{ v := .iface 41 (.int .i64 n), recovered := false }] ∧ w'.cell? ⟨w.heap.size, 0, Option.none⟩ = some u0 ∧ w'.frozen? ⟨w.heap.size, 0, Option.none⟩ = false ∧ R (.returned (.int .i64 n)) ((w'.setCell ⟨w.heap.size, 0, Option.none⟩ (.int .i64 1)).setCell ⟨w.heap.size, 0, Option.none⟩ (.int .i64 n))
      | .outgrown => False) :
    Calls Try.prog 42 #[.func (.func g) fa ca] w R := by
  have hmf : ∀ (fn : Fn) (first cap : Array Value) (w : World), (Instr.makeFunc fn first cap).run Try.prog w = .ok (.func fn first cap) w := fun _ _ _ _ => rfl
  have hcf : ∀ (us : Array Value) (w : World), (callFunc g us).run Try.prog w = .ok (.enter g us) w := fun us w => run_callFunc hb us w
  go_enter_defers Try.func42, Try.ntmps42
  set_option maxRecDepth 20000 in go_wp2
  refine hg.mono ?_
  rintro e w' he
  cases e with
  | returned v =>
    obtain ⟨u0, hc, hz, hR⟩ := he
    have hc2 : (w'.setCell ⟨w.heap.size, 0, Option.none⟩ (.int .i64 0)).cell? ⟨w.heap.size, 0, Option.none⟩ = some (.int .i64 0) := World.cell?_setCell_same _ _ _ hc
    go_wp2
    refine leaves_cons (f := 75) (args := #[.pointer (some ⟨w.heap.size, 0, Option.none⟩)]) (by simp) (by simp [go_sem]) ?_
    refine (caught1_idle ⟨w.heap.size, 0, Option.none⟩ _).mono ?_
    rintro e u' w'' ⟨rfl, rfl, rfl⟩
    simp [Leaves, settle, results, Try.results42, go_sem, hc2]
    exact hR
  | panicked c =>
    obtain ⟨n, u0, rfl, hc, hz, hR⟩ := he
    have hc1 : (w'.setCell ⟨w.heap.size, 0, Option.none⟩ (.int .i64 1)).cell? ⟨w.heap.size, 0, Option.none⟩ = some (.int .i64 1) := World.cell?_setCell_same _ _ _ hc
    have hc2 : ((w'.setCell ⟨w.heap.size, 0, Option.none⟩ (.int .i64 1)).setCell ⟨w.heap.size, 0, Option.none⟩ (.int .i64 n)).cell? ⟨w.heap.size, 0, Option.none⟩ = some (.int .i64 n) := World.cell?_setCell_same _ _ _ hc1
    refine leaves_cons (f := 75) (args := #[.pointer (some ⟨w.heap.size, 0, Option.none⟩)]) (by simp) (by simp [go_sem]) ?_
    refine (caught1_pan ⟨w.heap.size, 0, Option.none⟩ n u0 [] _ hc hz).mono ?_
    rintro e u' w'' ⟨rfl, rfl, rfl⟩
    simp [Leaves, settle, results, Try.results42, go_sem, hc2]
    exact hR
  | outgrown => exact he.elim
end Go.Proofs.Ytghllhghboaagaa
namespace Go.Vm
section
variable {P : Program} {S S' : Store} {ρ ρ' : Nat → Nat} {A A' : Nat → Prop} {w w' w3 : World}
/-- A block of one's own changes, that nothing of the store is in. -/
theorem aside {b0 : Nat} (h : Inv P S' ρ' A' w') (hs : Step S ρ A w S' ρ' A' w') (hb0 : w.heap.size ≤ b0) (ho : ¬ Owned S' ρ' b0) (ha : ¬ A' b0) (hsz : w3.heap.size = w'.heap.size) (hold : ∀ b, b ≠ b0 → w3.heap[b]? = w'.heap[b]?) (h1 : w3.os = w'.os) (h2 : w3.tape = w'.tape) (h3 : w3.output = w'.output) :
    Inv P S' ρ' A' w3 ∧ Step S ρ A w S' ρ' A' w3 := by
  have hA : ∀ b, A' b → w3.heap[b]? = w'.heap[b]? := fun b hb => hold b (fun hh => ha (hh ▸ hb))
  have hlive : ∀ id o, S'[id]? = some o → o.live = true → ρ' id ≠ b0 := fun id o hi hl hh => ho ⟨id, o, hi, hl, hh⟩
  have hle : SLe S' ρ' w' S' ρ' w3 := by
    intro id o hi hne
    refine ⟨o, hi, o.le_refl, ?_⟩
    have hok := h.ok id o hi
    have fin : ρ' id ≠ b0 → o = .dead ∨ (ρ' id = ρ' id ∧ ∀ c e f, w'.heap[ρ' id]? = some (.cells c e f) → ∃ c' e' f', w3.heap[ρ' id]? = some (.cells c' e' f') ∧ c'.size = c.size) := fun hne => .inr ⟨rfl, fun c e f hc => ⟨c, e, f, (hold _ hne).trans hc, rfl⟩⟩
    cases o with
    | dead => exact .inl rfl
    | hole => exact absurd rfl hne
    | row xs e => exact fin (hlive id _ hi rfl)
    | mp es c => exact fin (hlive id _ hi rfl)
    | iter s p => exact fin (hlive id _ hi rfl)
    | mit a b c d => exact fin (hlive id _ hi rfl)
    | fz xs e => simp only [ObOk] at hok; obtain ⟨_, _, _, _, _, _, hh, _⟩ := hok; exact fin (fun hx => ha (hx ▸ hh))
    | fm es => simp only [ObOk] at hok; obtain ⟨_, _, hh, _⟩ := hok; exact fin (fun hx => ha (hx ▸ hh))
  refine ⟨⟨fun id o hi => (h.ok id o hi).mono (fun _ h => h) hA hle (fun hl => hold _ (hlive id o hi hl)), h.inj, h.own, fun b hb => by rw [hsz]; exact h.lt b hb⟩,
    ⟨h1.trans hs.os, h2.trans hs.tape, h3.trans hs.output, by rw [hsz]; exact hs.size, fun b hb hn => (hold b (by omega)).trans (hs.keep b hb hn), fun b hb => (hA b (hs.amono b hb)).trans (hs.keepA b hb), hs.amono, hs.anew, hs.onew, hs.sle.trans hle⟩⟩
end
end Go.Vm
namespace Go.Proofs.Ytghllhghboaagaa
open Go.RowKit Go.Vm
theorem catch_ok {C : Cfg} (hP : C.P = Try.prog) (hc : ∀ f, C.catch_ f = if f = 42 then some caughtV else Option.none) : CatchOk C := by
  intro f post hf S S' g o v hv ρ A w fa ca hI hb hcalls
  rw [hc] at hf
  split at hf
  · rename_i hf42
    subst hf42
    simp only [Option.some.injEq] at hf
    subst hf
    have hb : (bodyOf Try.prog g).isSome = true := by
      rcases hb with hb | hb
      · rw [hP] at hb; exact hb
      · rw [hc] at hb
        split at hb
        · rename_i h; rw [h]; kernel_rfl
        · cases hb
    obtain ⟨hI1, hs1⟩ := hI.world (w' := w.alloc (.cells #[.int .i64 0] 41)) (by simp) (fun b hb => alloc_old _ hb) rfl rfl rfl
    have hg := hcalls ρ A _ hI1 hs1
    rw [hP] at hg hI hI1 ⊢
    have hno : ¬ Owned S ρ w.heap.size := by
      rintro ⟨id, o', h1, h2, h3⟩
      have := (hI.ok id o' h1).lt (by rintro rfl; cases h2) (by rintro rfl; cases h2)
      omega
    have hnA : ¬ A w.heap.size := fun hh => by have := hI.lt _ hh; omega
    refine caught_run g hb fa ca w _ (hg.mono fun e w' he => ?_)
    have key : ∀ {ρ' : Nat → Nat} {A' : Nat → Prop}, Go.Vm.Inv Try.prog S' ρ' A' w' → Step S ρ A (w.alloc (.cells #[.int .i64 0] 41)) S' ρ' A' w' →
        w'.heap[w.heap.size]? = some (.cells #[.int .i64 0] 41 (0, 0)) ∧ (∀ w3 : World, w3.heap.size = w'.heap.size → (∀ b, b ≠ w.heap.size → w3.heap[b]? = w'.heap[b]?) → w3.os = w'.os → w3.tape = w'.tape → w3.output = w'.output → Go.Vm.Inv Try.prog S' ρ' A' w3 ∧ Step S ρ A w S' ρ' A' w3) := fun {ρ' A'} hI2 hs2 => by
      have hlt : w.heap.size < (w.alloc (.cells #[.int .i64 0] 41)).heap.size := by simp
      refine ⟨(hs2.keep _ hlt hno).trans (alloc_new _), fun w3 a b c d e => aside hI2 (hs1.trans hs2) (Nat.le_refl _) (fun hh => ?_) (fun hh => ?_) a b c d e⟩
      · rcases hs2.onew _ hh with hh | hh
        · exact hno hh
        · omega
      · rcases hs2.anew _ hh with hh | hh | hh
        · exact hnA hh
        · exact hno hh
        · omega
    cases e with
    | returned x =>
      obtain ⟨y, rfl, ρ', A', hI2, hs2, hr⟩ := he
      obtain ⟨hcell, hset⟩ := key hI2 hs2
      have hv : v = .d (.int .i64 0) := by simpa [caughtV] using hv.symm
      subst hv
      refine ⟨_, cell_of_one hcell, free_of_one hcell, _, rfl, ρ', A', ?_⟩
      obtain ⟨k1, k2⟩ := hset (w'.setCell ⟨w.heap.size, 0, Option.none⟩ (.int .i64 0)) (by simp [World.setCell]) (fun b hb => Below.heap_setCell _ _ _ _ hb) rfl rfl rfl
      exact ⟨k1, k2, repV_of_repW (repW_d.2 ((repX_leaf rfl).2 (by simp [RepC])))⟩
    | panicked c =>
      obtain ⟨y, u, rfl, rfl, ρ', A', hI2, hs2, hr⟩ := he
      obtain ⟨hcell, hset⟩ := key hI2 hs2
      have hn : ∃ n, v = .d (.int .i64 n) ∧ u = .iface 41 (.int .i64 n) := by
        unfold caughtV at hv
        split at hv
        · rename_i heq; cases heq
        · rename_i n heq
          cases heq
          simp only [Option.some.injEq] at hv
          have hq := (repW_leaf rfl).1 hr
          simp only [RepVC, List.cons.injEq, and_true] at hq
          obtain ⟨v', h0, hq⟩ := hq
          rcases hq with ⟨h1, _⟩ | ⟨_, hq⟩
          · cases h1
          · simp only [RepC, List.cons.injEq, and_true] at hq
            exact ⟨n, hv.symm, by rw [h0, hq]⟩
        · rename_i n heq
          cases heq
          simp only [Option.some.injEq] at hv
          have hq := (repX_leaf rfl).1 (repW_d.1 hr)
          simp only [RepC, List.cons.injEq, and_true] at hq
          obtain ⟨v', h0, hq⟩ := hq
          rcases hq with ⟨h1, _⟩ | ⟨_, hq⟩
          · cases h1
          · exact ⟨n, hv.symm, by rw [h0, hq]⟩
        · cases hv
      obtain ⟨n, rfl, rfl⟩ := hn
      refine ⟨n, _, rfl, cell_of_one hcell, free_of_one hcell, _, rfl, ρ', A', ?_⟩
      obtain ⟨k1, k2⟩ := hset ((w'.setCell ⟨w.heap.size, 0, Option.none⟩ (.int .i64 1)).setCell ⟨w.heap.size, 0, Option.none⟩ (.int .i64 n)) (by simp [World.setCell]) (fun b hb => (Below.heap_setCell _ _ _ _ hb).trans (Below.heap_setCell _ _ _ _ hb)) rfl rfl rfl
      exact ⟨k1, k2, repV_of_repW (repW_d.2 ((repX_leaf rfl).2 (by simp [RepC])))⟩
    | outgrown => exact he.elim
  · cases hf
end Go.Proofs.Ytghllhghboaagaa
end
/-! The examples of chapter 28 are told by the kernel, call by call; what the machine is told of works and caught is so. -/
section
set_option linter.unusedVariables false
set_option maxRecDepth 100000
namespace Go.Proofs.Ytghllhghboaagaa
open Go.Vm
def mask28 : Nat := 2556217590065053753436426387587072
noncomputable def cfgE (e : FuncId → Option (List D → Option Out)) : Cfg := { P := Try.prog, mixed := by kernel_rfl, shared := fun f => Nat.testBit mask28 f, ext := e, catch_ := fun f => match Nat.beq f 42 with | true => some caughtV | false => Option.none }
noncomputable def cfg28 : Cfg := cfgE fun _ => Option.none
def ex1 : Opn := ⟨2, [47, 97], [], 0, 0, []⟩
def ex2 : Opn := ⟨1, [47, 97, 47, 98], [], 0, 0, []⟩
def ex3 : Opn := ⟨6, [47, 97], [47, 97, 47, 98, 47, 99], 0, 0, []⟩
def ex4 : Opn := ⟨6, [47, 97], [47, 97, 47, 99], 0, 0, []⟩
def tr1 : List Node := [⟨1, 2, 1, 1, 0, [], [⟨[97], 2⟩]⟩, ⟨2, 2, 1, 1, 0, [], []⟩]
def tr2 : List Node := [⟨1, 2, 1, 1, 0, [], [⟨[97], 2⟩]⟩, ⟨2, 2, 1, 1, 0, [], [⟨[98], 3⟩]⟩, ⟨3, 1, 1, 0, 0, [], []⟩]
def stO (t : List Node) (a : Ans) : Out := .ret (.tup [.d (.sl (t.map encNode)), .d (encAns a)])
def steps28 : List (List D × Out) := [([.sl (newN.map encNode), encOpn ex1], stO tr1 ⟨0, 2, 0, 0, 0, [], []⟩), ([.sl (tr1.map encNode), encOpn ex2], stO tr2 ⟨0, 3, 0, 0, 0, [], []⟩), ([.sl (tr2.map encNode), encOpn ex3], stO tr2 ⟨6, 0, 0, 0, 0, [], []⟩), ([.sl (tr2.map encNode), encOpn ex4], stO tr2 ⟨9, 0, 0, 0, 0, [], []⟩)]
theorem st1 : runD cfg28 400 19 [.sl (newN.map encNode), encOpn ex1] = some (stO tr1 ⟨0, 2, 0, 0, 0, [], []⟩) := by kernel_rfl
theorem st2 : runD cfg28 400 19 [.sl (tr1.map encNode), encOpn ex2] = some (stO tr2 ⟨0, 3, 0, 0, 0, [], []⟩) := by kernel_rfl
theorem st3 : runD cfg28 400 19 [.sl (tr2.map encNode), encOpn ex3] = some (stO tr2 ⟨6, 0, 0, 0, 0, [], []⟩) := by kernel_rfl
theorem st4 : runD cfg28 400 19 [.sl (tr2.map encNode), encOpn ex4] = some (stO tr2 ⟨9, 0, 0, 0, 0, [], []⟩) := by kernel_rfl
theorem rt2 : runD cfg28 400 26 [.sl (tr2.map encNode)] = some (.ret (.d (.bool true))) := by kernel_rfl
def tabl (l : List (List D × Out)) (ds : List D) : Option Out := match l with
  | [] => Option.none
  | (k, o) :: r => if all2 (sameF 9) ds k = true then some o else tabl r ds
theorem tabl_ok {ds : List D} {o : Out} : ∀ {l : List (List D × Out)}, tabl l ds = some o → (ds, o) ∈ l
  | [], h => by cases h
  | (k, o') :: r, h => by
    unfold tabl at h
    split at h
    · rename_i hk
      cases h
      rw [all2_eq (fun _ _ h => sameF_eq h) hk]
      exact List.mem_cons_self
    · exact List.mem_cons_of_mem _ (tabl_ok h)
def ext28 (f : FuncId) : Option (List D → Option Out) := match Nat.beq f 19 with
  | true => some (tabl steps28)
  | false => match Nat.beq f 26 with
    | true => some (tabl [([.sl (tr2.map encNode)], .ret (.d (.bool true)))])
    | false => Option.none
theorem works28 : runD (cfgE ext28) 400 16 [] = some (.ret (.d (.bool true))) := by kernel_rfl
theorem c42 (f : FuncId) : (match Nat.beq f 42 with | true => some caughtV | false => Option.none) = if f = 42 then some caughtV else Option.none := by
  by_cases h : f = 42
  · subst h; rfl
  · rw [if_neg h]
    have : Nat.beq f 42 = false := Bool.eq_false_iff.2 fun hh => h (Nat.eq_of_beq_eq_true hh)
    rw [this]
theorem ext0 : ExtOk cfg28 := fun f g h => by cases h
theorem catch28 {e : FuncId → Option (List D → Option Out)} : CatchOk (cfgE e) := catch_ok rfl c42
theorem catchC : CatchOk cfg := catch_ok rfl c42
theorem extE : ExtOk (cfgE ext28) := by
  intro f g h
  have h : ext28 f = some g := h
  unfold ext28 at h
  split at h
  · rename_i hf
    have hf := Nat.eq_of_beq_eq_true hf
    subst hf
    cases h
    intro ds o ho
    have hm := tabl_ok ho
    simp only [steps28, List.mem_cons, List.not_mem_nil, or_false, Prod.mk.injEq] at hm
    have : runD cfg28 400 19 ds = some o := by
      rcases hm with ⟨rfl, rfl⟩ | ⟨rfl, rfl⟩ | ⟨rfl, rfl⟩ | ⟨rfl, rfl⟩
      · exact st1
      · exact st2
      · exact st3
      · exact st4
    exact runD_ok ext0 catch28 400 19 ds _ this
  · split at h
    · rename_i hf
      have hf := Nat.eq_of_beq_eq_true hf
      subst hf
      cases h
      intro ds o ho
      have hm := tabl_ok ho
      simp only [List.mem_cons, List.not_mem_nil, or_false, Prod.mk.injEq] at hm
      obtain ⟨rfl, rfl⟩ := hm
      exact runD_ok ext0 catch28 400 26 _ _ rt2
    · cases h
theorem extC : ExtOk cfg := by
  intro f g h
  have hf : f = 16 ∧ g = worksX := by
    have h : (match Nat.beq f 16 with | true => some worksX | false => Option.none) = some g := h
    by_cases e : f = 16
    · subst e
      exact ⟨rfl, by simpa using h.symm⟩
    · have : Nat.beq f 16 = false := Bool.eq_false_iff.2 fun hh => e (Nat.eq_of_beq_eq_true hh)
      rw [this] at h; cases h
  obtain ⟨rfl, rfl⟩ := hf
  intro ds o ho
  cases ds with
  | nil =>
    have ho : o = .ret (.d (.bool true)) := by simpa [worksX] using ho.symm
    subst ho
    exact runD_ok extE catch28 400 16 [] _ works28
  | cons x r => simp [worksX] at ho
theorem works28_ok : Ev cfg 16 [] (.ret (.d (.bool true))) := ⟨0, rfl⟩
theorem call_works28 {ops : Array Oper} {dst : Option Tmp} {k : List Oper} {T : List V} {S : Store} {F : Dfs} {Q : Post} :
    WpR cfg ops dst k T S F Q (some (.enter 16 [])) = WpL cfg ops k (putT T dst (.d (.bool true))) S F Q :=
  wr_call_d (ds := []) rfl works28_ok
end Go.Proofs.Ytghllhghboaagaa
end
/-! The statement's own code: escheatlaw28.ModelPaths comes to true. -/
section
set_option linter.unusedVariables false
set_option linter.unusedSimpArgs false
set_option maxRecDepth 10000
set_option maxHeartbeats 4000000
namespace Go.Proofs.Ytghllhghboaagaa
open Go.Vm
theorem call_mresolve {ops : Array Oper} {dst : Option Tmp} {k : List Oper} {T : List V} {S : Store} {F : Dfs} {Q : Post} {t : List Node} {s : List UInt8} {k0 : Nat} (hT : Told t) (hS : Small k0 t) (hk0 : k0 < 300000) (hnd : (t.map (·.ino)).Nodup) (hl : s.length < 900000) :
    WpR cfg ops dst k T S F Q (some (.enter 27 [.d (.sl (t.map encNode)), .d (.str s)])) = WpL cfg ops k (putT T dst (.tup [.d (.int .i64 (resolveN t s).1), .d (.int .i64 (resolveN t s).2)])) S F Q :=
  wr_call_d (ds := [.sl (t.map encNode), .str s]) rfl (mresolve_ok t hT k0 hk0 hS hnd s hl)
theorem call_mwhere {ops : Array Oper} {dst : Option Tmp} {k : List Oper} {T : List V} {S : Store} {F : Dfs} {Q : Post} {t : List Node} {s : List UInt8} {k0 : Nat} (hT : Told t) (hS : Small k0 t) (hk0 : k0 < 300000) (hnd : (t.map (·.ino)).Nodup) (hl : s.length < 900000) :
    WpR cfg ops dst k T S F Q (some (.enter 29 [.d (.sl (t.map encNode)), .d (.str s)])) = WpL cfg ops k (putT T dst (.tup [.d (.int .i64 (whereN t s).1), .d (.str (whereN t s).2.1), .d (.int .i64 (whereN t s).2.2)])) S F Q :=
  wr_call_d (ds := [.sl (t.map encNode), .str s]) rfl (mwhere_ok t hT k0 hk0 hS hnd s hl)
theorem script_ofM {l : List Opn} {m : Int} (hm : m ≤ 1000) (h : muchN l m = false) : Script l := by
  unfold muchN at h
  rw [Bool.or_eq_false_iff] at h
  obtain ⟨h1, h2⟩ := h
  have h1 := of_decide_eq_false h1
  have h3 : ∀ o ∈ l, ¬ ((o.a.length : Int) > 300 ∨ (o.b.length : Int) > 300 ∨ (o.data.length : Int) > 1100) := fun o ho hbad => (List.any_eq_false.1 h2 o ho) (decide_eq_true hbad)
  exact ⟨by omega, fun o ho => by have := h3 o ho; omega, fun o ho => by have := h3 o ho; omega, fun o ho => by have := h3 o ho; omega⟩
theorem dself {i : Decidable True} : @decide True i = true := by cases i with | isTrue _ => rfl | isFalse h => exact absurd trivial h
theorem bo16 : (bodyOf Try.prog 16).isSome = true := by kernel_rfl
theorem paths_ok (l : List Opn) (s : List UInt8) : Ev cfg 7 [.sl (l.map encOpn), .str s] (.ret (.d (.bool true))) := by
  refine ev_of rfl rfl body7 ?_
  show Wp cfg (Try.f7.body.getD .skip) ((.d (.sl (l.map encOpn))) :: (.d (.str s)) :: (.tup []) :: (.tup []) :: (.tup []) :: (.tup []) :: (.tup []) :: (.tup []) :: (.tup []) :: (.tup []) :: (.tup []) :: (.tup []) :: (.tup []) :: (.tup []) :: (.tup []) :: (.tup []) :: (.tup []) :: (.tup []) :: (.tup []) :: (.tup []) :: (.tup []) :: (.tup []) :: (.tup []) :: (.tup []) :: (.tup []) :: (.tup []) :: (.tup []) :: (.tup []) :: (.tup []) :: (.tup []) :: (.tup []) :: (.tup []) :: (.tup []) :: (.tup []) :: (.tup []) :: (.tup []) :: (.tup []) :: (.tup []) :: (.tup []) :: (.tup []) :: (.tup []) :: (.tup []) :: (.tup []) :: (.tup []) :: (.tup []) :: (.tup []) :: (.tup []) :: (.tup []) :: (.tup []) :: (.tup []) :: (.tup []) :: (.tup []) :: (.tup []) :: (.tup []) :: (.tup []) :: (.tup []) :: (.tup []) :: (.tup []) :: (.tup []) :: (.tup []) :: (.tup []) :: (.tup []) :: (.tup []) :: (.tup []) :: (.tup []) :: (.tup []) :: (.tup []) :: (.tup []) :: (.tup []) :: (.tup []) :: (.tup []) :: (.tup []) :: (.tup []) :: (.tup []) :: (.tup []) :: (.tup []) :: (.tup []) :: (.tup []) :: (.tup []) :: (.tup []) :: (.tup []) :: (.tup []) :: (.tup []) :: (.tup []) :: (.tup []) :: (.tup []) :: (.tup []) :: (.tup []) :: []) [] [] _
  conv => arg 2; whnf
  have h12 : (16 : Int) ≤ 1000 := by omega
  cases hm : muchN l 16 with
  | true =>
    simp (maxSteps := 1000000) (disch := first | assumption | omega | rfl) only [↓vmp, vme, vmb, ty, hP, dec_t, dec_f, wrap64, List.length_map, Int.toNat_natCast, Nat.reduceAdd, List.cons_append, List.nil_append, Option.map_some, Option.map_none, strOf_mk, sb_eql, sb_neq, vmg, ↓vgd, ↓vst, ↓vix, call_much, hm, call_works28, bo16, dself]
    exact retQ_one rfl rfl rfl
  | false =>
    have hsc := script_ofM h12 hm
    have hS : Small (1 + 5 * l.length) (playN l) := Small.playA Small.new
    have hk0 : 1 + 5 * l.length < 300000 := by have := hsc.len; omega
    have hL := LJ.play l
    have hT := hL.toTold (TInv.play l)
    have hnd := hL.srt.nodup
    have hlt : (playN l).length < 400000 := Nat.lt_of_le_of_lt hS.len (by have := hsc.len; omega)
    by_cases hlen : (s.length : Int) > 400
    · simp (maxSteps := 1000000) (disch := first | assumption | omega | rfl) only [↓vmp, vme, vmb, ty, hP, dec_t, dec_f, wrap64, List.length_map, Int.toNat_natCast, Nat.reduceAdd, List.cons_append, List.nil_append, Option.map_some, Option.map_none, strOf_mk, sb_eql, sb_neq, vmg, ↓vgd, ↓vst, ↓vix, call_much, hm, call_works28, bo16, dself]
      exact retQ_one rfl rfl rfl
    · have hl1 : s.length < 900000 := by omega
      have hl2 : s.length < 1000000 := by omega
      simp (maxSteps := 1000000) (disch := first | assumption | omega | rfl) only [↓vmp, vme, vmb, ty, hP, dec_t, dec_f, wrap64, List.length_map, Int.toNat_natCast, Nat.reduceAdd, List.cons_append, List.nil_append, Option.map_some, Option.map_none, strOf_mk, sb_eql, sb_neq, vmg, ↓vgd, ↓vst, ↓vix, call_much, hm, call_play hsc, call_to hS hk0, call_mresolve hT hS hk0 hnd hl1, call_resolve hS hk0 hl2, call_mwhere hT hS hk0 hnd hl1, call_where hS hk0 hl2, call_mnext hS hk0 hnd, call_next hlt, call_works28, bo16, dself]
      exact retQ_one rfl rfl rfl
end Go.Proofs.Ytghllhghboaagaa
end
