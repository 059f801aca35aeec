/- The value machine: what is frozen reads as the data. -/
import Derived.Laws.Cells
import Derived.Laws.Strings
import Derived.Laws.StructEq
import Derived.ChangeKeysEq
import Derived.Laws.CopyRow
import Derived.Deep.AppendSrc
import Derived.Deep.Upon
import Derived.Laws.BytesString
import Derived.IntWalk
import Derived.Test.YtobgdmgldagjkaaGreatA01
set_option linter.unusedVariables false
set_option linter.unusedSimpArgs false
section
namespace Go.Vm
section
variable {P : Program} {S : zB} {ρ : Nat → Nat} {A Q : Nat → Prop} {w : World}
theorem z1o {α β : Type} {f : α → Option β} : ∀ {xs : List α} {ys : List β}, allO f xs = some ys → xs.length = ys.length ∧ ∀ (i : Nat) (x : α), xs[i]? = some x → ∃ y, f x = some y ∧ ys[i]? = some y
 | [], ys, h => by simp only [allO, Option.some.injEq] at h; subst h; simp
 | x :: r, ys, h => by
  simp only [allO] at h
  cases h1 : f x with
  | none => simp [h1] at h
  | some y =>
   cases h2 : allO f r with
   | none => simp [h1, h2] at h
   | some zs =>
    simp only [h1, h2, Option.some.injEq] at h
    subst h
    obtain ⟨e1, e2⟩ := z1o h2
    refine ⟨by simp [e1], fun i z hz => ?_⟩
    cases i with
    | zero => simp at hz; subst hz; exact ⟨y, h1, rfl⟩
    | succ i => simp at hz; simpa using e2 i z hz
theorem wQ {α β : Type} {f : α → Option β} {x : α} {r : List α} {ys : List β} (h : allO f (x :: r) = some ys) : ∃ y zs, f x = some y ∧ allO f r = some zs ∧ ys = y :: zs := by
 simp only [allO] at h
 cases h1 : f x with
 | none => simp [h1] at h
 | some y =>
  cases h2 : allO f r with
  | none => simp [h1, h2] at h
  | some zs =>
   simp only [h1, h2, Option.some.injEq] at h
   exact ⟨y, zs, rfl, rfl, h.symm⟩
theorem frzL {f : V → Option D} {ids : V → List Nat} (hf : ∀ v x us, f v = some x → zU P S ρ A w v us → (∀ i ∈ ids v, Q (ρ i)) → RepC Q w x us ∧ x.isAgg = v.isAgg) :
  ∀ {xs : List V} {ds : List D} {us : List Value}, allO f xs = some ds → jF P S ρ A w xs us → (∀ i ∈ xs.flatMap ids, Q (ρ i)) → RepL Q w ds us
 | [], ds, us, h, hr, _ => by simp only [allO, Option.some.injEq] at h; subst h; simpa [RepL, jF] using hr
 | v :: r, ds, us, h, hr, hq => by
  obtain ⟨y, zs, h1, h2, rfl⟩ := wQ h
  simp only [jF] at hr
  obtain ⟨u, ws, rfl, h3, h4, h5⟩ := hr
  obtain ⟨e1, e2⟩ := hf v y [u] h1 h4 (fun i hi => hq i (by simp [hi]))
  simp only [RepL]
  exact ⟨u, ws, rfl, e2.trans h3, e1, frzL hf h2 h5 (fun i hi => hq i (by simp only [List.flatMap_cons, List.mem_append]; exact .inr hi))⟩
theorem frzE {f : V → Option D} {ids : V → List Nat} (hf : ∀ v x us, f v = some x → zU P S ρ A w v us → (∀ i ∈ ids v, Q (ρ i)) → RepC Q w x us ∧ x.isAgg = v.isAgg) (k : Nat) :
  ∀ {xs : List V} {ds : List D} {us : List Value}, allO f xs = some ds → qS P S ρ A w k xs us → (∀ i ∈ xs.flatMap ids, Q (ρ i)) → RepE Q w k ds us
 | [], ds, us, h, hr, _ => by simp only [allO, Option.some.injEq] at h; subst h; simpa [RepE, qS] using hr
 | v :: r, ds, us, h, hr, hq => by
  obtain ⟨y, zs, h1, h2, rfl⟩ := wQ h
  simp only [qS] at hr
  obtain ⟨u, ws, rfl, h3, h4, h5⟩ := hr
  obtain ⟨e1, e2⟩ := hf v y u h1 h4 (fun i hi => hq i (by simp [hi]))
  simp only [RepE]
  exact ⟨u, ws, rfl, h3, e1, frzE hf k h2 h5 (fun i hi => hq i (by simp only [List.flatMap_cons, List.mem_append]; exact .inr hi))⟩
theorem frzS {f : V → Option D} {ids : V → List Nat} (hf : ∀ v x us, f v = some x → zU P S ρ A w v us → (∀ i ∈ ids v, Q (ρ i)) → RepC Q w x us ∧ x.isAgg = v.isAgg) :
  ∀ {xs : List V} {ds : List D} {us : List Value}, allO f xs = some ds → z1j P S ρ A w xs us → (∀ i ∈ xs.flatMap ids, Q (ρ i)) → RepS Q w ds us
 | [], ds, us, h, hr, _ => by simp only [allO, Option.some.injEq] at h; subst h; simpa [RepS, z1j] using hr
 | v :: r, ds, us, h, hr, hq => by
  obtain ⟨y, zs, h1, h2, rfl⟩ := wQ h
  simp only [z1j] at hr
  obtain ⟨u, ws, rfl, h3, h5⟩ := hr
  have hqi : ∀ i ∈ ids v, Q (ρ i) := fun i hi => hq i (by simp [hi])
  simp only [RepS]
  refine ⟨u, ws, rfl, ?_, frzS hf h2 h5 (fun i hi => hq i (by simp only [List.flatMap_cons, List.mem_append]; exact .inr hi))⟩
  rcases h3 with ⟨g1, us', g2, g3⟩ | ⟨g1, g3⟩
  ·obtain ⟨e1, e2⟩ := hf v y _ h1 g3 hqi
   exact .inl ⟨e2.trans g1, us', g2, e1⟩
  ·obtain ⟨e1, e2⟩ := hf v y _ h1 g3 hqi
   exact .inr ⟨e2.trans g1, e1⟩
theorem frzM {f : V → Option D} {ids : V → List Nat} (hAQ : ∀ b, A b → Q b) (hf : ∀ v x us, f v = some x → zU P S ρ A w v us → (∀ i ∈ ids v, Q (ρ i)) → RepC Q w x us ∧ x.isAgg = v.isAgg) :
    ∀ {es : List (D × V × Nat)} {ds : List (D × D)} {ms : List MapEntry}, allO (fun (e : D × V × Nat) => (f e.2.1).map fun x => (e.1, x)) es = some ds → jM P S ρ A w es ms → (∀ i ∈ es.flatMap (fun e => ids e.2.1), Q (ρ i)) → RepM Q w ds ms
  | [], ds, ms, h, hr, _ => by simp only [allO, Option.some.injEq] at h; subst h; simpa [RepM, jM] using hr
  | (kx, v, n) :: r, ds, ms, h, hr, hq => by
    obtain ⟨y, zs, h1, h2, rfl⟩ := wQ h
    cases hv : f v with
    | none => simp [hv] at h1
    | some x =>
      simp only [hv, Option.map_some, Option.some.injEq] at h1
      subst h1
      simp only [jM] at hr
      obtain ⟨m, ms', rfl, h3, h4, _, h5⟩ := hr
      have hqi : ∀ i ∈ ids v, Q (ρ i) := fun i hi => hq i (by simp [hi])
      simp only [RepM, RepP]
      refine ⟨m, ms', rfl, ⟨z2p hAQ (fun _ _ => rfl) h3, ?_⟩, frzM hAQ hf h2 h5 (fun i hi => hq i (by simp only [List.flatMap_cons, List.mem_append]; exact .inr hi))⟩
      rcases h4 with ⟨g1, us', g2, g3⟩ | ⟨g1, g3⟩
      · obtain ⟨e1, e2⟩ := hf v x _ hv g3 hqi
        exact .inl ⟨e2.trans g1, us', g2, e1⟩
      · obtain ⟨e1, e2⟩ := hf v x _ hv g3 hqi
        exact .inr ⟨e2.trans g1, e1⟩
theorem qP {b : Nat} {c : Array Value} {e : TypeId} {f : Nat × Nat} {us rest : List Value} (hh : w.heap[b]? = some (.cells c e f)) (hc : c.toList = us ++ rest) (n m : Nat) : CellsAt w b n ((us.drop n).take m) := by
 refine ⟨c, e, f, hh, fun i v hv => ?_⟩
 rw [List.getElem?_take] at hv
 split at hv
 ·rw [List.getElem?_drop] at hv
  have : c.toList[n + i]? = some v := by
   rw [hc, List.getElem?_append_left]
   ·exact hv
   ·rcases Nat.lt_or_ge (n + i) us.length with h | h
    ·exact h
    ·simp [List.getElem?_eq_none h] at hv
  simpa using this
 ·cases hv
theorem zcn {v : V} {x : D} {us : List Value} (h : z2b v = some x) (hr : zU P S ρ A w v us) : RepC A w x us ∧ x.isAgg = false ∧ v.isAgg = false := by
 unfold z2b at h
 split at h
 ·rename_i y
  split at h
  ·cases h
  ·rename_i hy
   simp only [Option.some.injEq] at h; subst h
   simp only [zU] at hr
   exact ⟨hr, by simpa using hy, by simpa [V.isAgg] using hy⟩
 ·simp only [Option.some.injEq] at h; subst h
  simp only [zU] at hr
  obtain ⟨a, _, h2⟩ := hr
  exact ⟨h2, rfl, rfl⟩
 ·rename_i t y
  simp only [Option.some.injEq] at h; subst h
  simp only [zU] at hr
  obtain ⟨u, rfl, h3⟩ := hr
  simp only [RepC]
  exact ⟨⟨u, rfl, h3.imp (fun ⟨a, us, b, c⟩ => ⟨a, us, b, c⟩) id⟩, rfl, rfl⟩
 ·cases h
theorem zfe : ∀ {xs : List V} {ds : List D} {us : List Value}, allO z2b xs = some ds → jF P S ρ A w xs us → RepL A w ds us
 | [], ds, us, h, hr => by simp only [allO, Option.some.injEq] at h; subst h; simpa [RepL, jF] using hr
 | v :: r, ds, us, h, hr => by
  obtain ⟨y, zs, h1, h2, rfl⟩ := wQ h
  simp only [jF] at hr
  obtain ⟨u, ws, rfl, h3, h4, h5⟩ := hr
  obtain ⟨e1, e2, _⟩ := zcn h1 h4
  simp only [RepL]
  exact ⟨u, ws, rfl, e2, e1, zfe h2 h5⟩
theorem zf1 {v : V} {x : D} {us : List Value} (h : asD v = some x) (hr : zU P S ρ A w v us) : RepC A w x us ∧ x.isAgg = v.isAgg := by
 unfold asD at h
 split at h
 ·simp only [Option.some.injEq] at h; subst h
  simp only [zU] at hr
  exact ⟨hr, rfl⟩
 ·rename_i xs
  cases h1 : allO z2b xs with
  | none => simp [h1] at h
  | some ds =>
   simp only [h1, Option.map_some, Option.some.injEq] at h; subst h
   simp only [zU] at hr
   simp only [RepC]
   exact ⟨zfe h1 hr, rfl⟩
 ·obtain ⟨h1, h2, h3⟩ := zcn h hr
  exact ⟨h1, h2.trans h3.symm⟩
theorem z6d (hI : Inv P S ρ A w) (hAQ : ∀ b, A b → Q b) : ∀ (n : Nat) (v : V) (x : D) (us : List Value), frz S n v = some x → zU P S ρ A w v us → (∀ i ∈ frzIds S n v, Q (ρ i)) → RepC Q w x us ∧ x.isAgg = v.isAgg := by
 intro n
 induction n with
 | zero => intro v x us h; simp [frz] at h
 | succ n ih =>
  intro v x us h hr hq
  cases v with
  | d y =>
   simp only [frz, Option.some.injEq] at h; subst h
   simp only [zU] at hr
   exact ⟨jD hAQ (fun _ _ => rfl) _ _ hr, rfl⟩
  | ts xs =>
   simp only [frz, Option.some.injEq] at h; subst h
   simp only [zU] at hr
   obtain ⟨a, _, h2⟩ := hr
   exact ⟨jD hAQ (fun _ _ => rfl) _ _ h2, rfl⟩
  | agg xs =>
   simp only [frz] at h
   cases h1 : allO (frz S n) xs with
   | none => simp [h1] at h
   | some ds =>
    simp only [h1] at h
    split at h
    ·cases h
    ·simp only [Option.some.injEq] at h; subst h
     simp only [zU] at hr
     simp only [RepC]
     exact ⟨frzL ih h1 hr (by simpa [frzIds] using hq), rfl⟩
  | iface t v =>
   simp only [frz] at h
   cases h1 : frz S n v with
   | none => simp [h1] at h
   | some y =>
    simp only [h1, Option.map_some, Option.some.injEq] at h; subst h
    simp only [zU] at hr
    obtain ⟨u, rfl, h3⟩ := hr
    simp only [RepC]
    refine ⟨⟨u, rfl, ?_⟩, rfl⟩
    have hqi : ∀ i ∈ frzIds S n v, Q (ρ i) := by simpa [frzIds] using hq
    rcases h3 with ⟨g1, us', g2, g3⟩ | ⟨g1, g3⟩
    ·obtain ⟨e1, e2⟩ := ih v y _ h1 g3 hqi
     exact .inl ⟨e2.trans g1, us', g2, e1⟩
    ·obtain ⟨e1, e2⟩ := ih v y _ h1 g3 hqi
     exact .inr ⟨e2.trans g1, e1⟩
  | fn f first caps =>
   simp only [frz] at h
   cases h1 : allO (frz S n) first with
   | none => simp [h1] at h
   | some a =>
    cases h2 : allO (frz S n) caps with
    | none => simp [h1, h2] at h
    | some b =>
     simp only [h1, h2, Option.some.injEq] at h; subst h
     simp only [zU] at hr
     obtain ⟨fa, ca, rfl, h3, h4⟩ := hr
     simp only [frzIds, List.mem_append] at hq
     simp only [RepC]
     exact ⟨⟨fa, ca, rfl, frzS ih h1 h3 (fun i hi => hq i (.inl hi)), frzS ih h2 h4 (fun i hi => hq i (.inr hi))⟩, rfl⟩
  | rs id off len =>
   simp only [frz] at h
   cases ho : S[id]? with
   | none => simp [ho] at h
   | some o =>
    have hok := hI.ok id o ho
    simp only [zU] at hr
    obtain ⟨a, cap, rfl, hpl⟩ := hr
    simp only [RowPl, ho] at hpl
    cases o with
    | row xs e =>
     simp only [ho] at h
     split at h
     ·rename_i hle
      simp only [Bool.and_eq_true, decide_eq_true_eq] at hle
      replace hle := hle.1
      cases h1 : allO (frz S n) ((xs.drop off).take len) with
      | none => simp [h1] at h
      | some ds =>
       simp only [h1, Option.map_some, Option.some.injEq] at h; subst h
       obtain ⟨k, hk, ha, h3, h4, c2, e2, f2, h5, h6⟩ := hpl
       simp only [ObOk] at hok
       obtain ⟨k', c, us, rest, hk', hh, hcl, hre⟩ := hok
       rw [hk] at hk'; cases hk'
       have hlen : ds.length = len := by
        have := (z1o h1).1
        simp only [List.length_take, List.length_drop] at this
        omega
       have hq' : ∀ i ∈ ((xs.drop off).take len).flatMap (frzIds S n), Q (ρ i) := fun i hi => hq i (by
        simp only [frzIds, ho, List.mem_cons, List.mem_flatMap] at hi ⊢
        obtain ⟨y, hy, hiy⟩ := hi
        exact .inr ⟨y, List.mem_of_mem_drop (List.mem_of_mem_take hy), hiy⟩)
       have hE := frzE ih k h1 (kS len (by simp; omega) (kS off (by omega) hre).2).1 hq'
       have hQ : Q (ρ id) := hq id (by simp [frzIds, ho])
       simp only [RepC, hlen]
       refine ⟨⟨_, cap, rfl, h4, ?_⟩, rfl⟩
       rcases ha with rfl | ha
       ·exact .inr ⟨_, k, _, rfl, rfl, hQ, qP hh hcl (off * k) (len * k), hE⟩
       ·exact .inl (List.length_eq_zero_iff.1 (by omega))
     ·cases h
    | fz xs e =>
     simp only [ho] at h
     split at h
     ·rename_i hle
      simp only [Option.some.injEq] at h; subst h
      obtain ⟨k, hk, ha, h3, h4, c2, e2, f2, h5, h6⟩ := hpl
      simp only [ObOk] at hok
      obtain ⟨k', c, f, us, rest, hk', hA, hh, hcl, hre⟩ := hok
      rw [hk] at hk'; cases hk'
      have hlen : ((xs.drop off).take len).length = len := by simp; omega
      have hE := (vN len (by simp; omega) (vN off (by omega) hre).2).1
      simp only [RepC, hlen]
      refine ⟨⟨_, cap, rfl, h4, ?_⟩, rfl⟩
      rcases ha with rfl | ha
      ·exact .inr ⟨_, k, _, rfl, rfl, hAQ _ hA, qP hh hcl (off * k) (len * k), z36 hAQ (fun _ _ => rfl) _ _ _ hE⟩
      ·exact .inl (List.length_eq_zero_iff.1 (by omega))
     ·cases h
    | _ => simp [ho] at h
  | cs id ix off len =>
   simp only [frz] at h
   cases ho : S[id]? with
   | none => simp [ho] at h
   | some o =>
    have hok := hI.ok id o ho
    simp only [zU] at hr
    obtain ⟨a, cap, rfl, hpl⟩ := hr
    simp only [CellPl, ho] at hpl
    cases o with
    | row xs e =>
     simp only [ho] at h
     cases hx : xs[ix]? with
     | none => simp [hx] at h
     | some y =>
      simp only [hx] at h
      split at h
      ·rename_i hle
       simp only [Bool.and_eq_true, decide_eq_true_eq] at hle
       replace hle := hle.1
       cases h1 : allO z2b ((y.cells.drop off).take len) with
       | none => simp [h1] at h
       | some ds =>
        simp only [h1, Option.map_some, Option.some.injEq] at h; subst h
        obtain ⟨k, hk, ha, h3, h4, h5⟩ := hpl
        simp only [ObOk] at hok
        obtain ⟨k', c, us, rest, hk', hh, hcl, hre⟩ := hok
        rw [hk] at hk'; cases hk'
        obtain ⟨g1, g2⟩ := z1k hre ix y hx
        have g3 := z0g len (z0f off (kV g1))
        have gl := jE g1
        simp only [List.length_take, List.length_drop] at gl
        have hlen : ds.length = len := by
         have := (z1o h1).1
         simp only [List.length_take, List.length_drop] at this
         omega
        have hL := z5g hAQ (fun _ _ => rfl) _ _ (zfe h1 g3)
        have hQ : Q (ρ id) := hq id (by simp [frzIds, ho])
        simp only [RepC, hlen]
        refine ⟨⟨_, cap, rfl, h5, ?_⟩, rfl⟩
        rcases ha with rfl | ha
        rotate_left
        ·exact .inl (List.length_eq_zero_iff.1 (by omega))
        refine .inr ⟨_, 1, _, rfl, rfl, hQ, ?_, z2h hL⟩
        have hcat := qP hh hcl (ix * k + off) len
        rw [List.drop_take, List.take_take, List.drop_drop]
        rw [show min len (k - off) = len by omega]
        exact hcat
      ·cases h
    | fz xs e =>
     simp only [ho] at h
     cases hx : xs[ix]? with
     | none => simp [hx] at h
     | some y =>
      simp only [hx] at h
      split at h
      ·rename_i hle
       simp only [Bool.and_eq_true, decide_eq_true_eq] at hle
       simp only [Option.some.injEq] at h; subst h
       obtain ⟨k, hk, ha, h3, h4, h5⟩ := hpl
       simp only [ObOk] at hok
       obtain ⟨k', c, f, us, rest, hk', hA, hh, hcl, hre⟩ := hok
       rw [hk] at hk'; cases hk'
       obtain ⟨g1, g2⟩ := z3q hre ix y hx
       have g3 := z2f len (z2j off (wL g1))
       have gl := jZ g1
       simp only [List.length_take, List.length_drop] at gl
       have hlen : ((y.cells.drop off).take len).length = len := by simp; omega
       have hL := z5g hAQ (fun _ _ => rfl) _ _ g3
       simp only [RepC, hlen]
       refine ⟨⟨_, cap, rfl, h5, ?_⟩, rfl⟩
       rcases ha with rfl | ha
       rotate_left
       ·exact .inl (List.length_eq_zero_iff.1 (by omega))
       refine .inr ⟨_, 1, _, rfl, rfl, hAQ _ hA, ?_, z2h hL⟩
       have hcat := qP hh hcl (ix * k + off) len
       rw [List.drop_take, List.take_take, List.drop_drop]
       rw [show min len (k - off) = len by omega]
       exact hcat
      ·cases h
    | _ => simp [ho] at h
  | ref id ix off =>
   cases off with
   | succ off => simp [frz] at h
   | zero =>
    simp only [frz] at h
    cases ho : S[id]? with
    | none => simp [ho] at h
    | some o =>
     have hok := hI.ok id o ho
     simp only [zU] at hr
     obtain ⟨a, rfl, hpl⟩ := hr
     simp only [RefPl, ho] at hpl
     cases o with
     | row xs e =>
      simp only [ho] at h
      cases hx : xs[ix]? with
      | none => simp [hx] at h
      | some y =>
       simp only [hx] at h
       split at h
       rotate_left
       ·cases h
       cases h1 : frz S n y with
       | none => simp [h1] at h
       | some z =>
        simp only [h1, Option.map_some, Option.some.injEq] at h; subst h
        obtain ⟨k, hk, rfl, h3⟩ := hpl
        simp only [ObOk] at hok
        obtain ⟨k', c, us, rest, hk', hh, hcl, hre⟩ := hok
        rw [hk] at hk'; cases hk'
        obtain ⟨g1, g2⟩ := z1k hre ix y hx
        obtain ⟨e1, e2⟩ := ih y z _ h1 g1 (fun i hi => hq i (by
         simp only [frzIds, ho, List.mem_cons, List.mem_flatMap]
         exact .inr ⟨y, List.mem_of_getElem? hx, hi⟩))
        have hQ : Q (ρ id) := hq id (by simp [frzIds, ho])
        simp only [RepC]
        exact ⟨⟨_, _, rfl, rfl, hQ, by simpa using qP hh hcl (ix * k) k, e1⟩, rfl⟩
     | fz xs e =>
      simp only [ho] at h
      cases hx : xs[ix]? with
      | none => simp [hx] at h
      | some y =>
       simp only [hx, Option.map_some, Option.some.injEq] at h; subst h
       obtain ⟨k, hk, rfl, h3⟩ := hpl
       simp only [ObOk] at hok
       obtain ⟨k', c, f, us, rest, hk', hA, hh, hcl, hre⟩ := hok
       rw [hk] at hk'; cases hk'
       obtain ⟨g1, g2⟩ := z3q hre ix y hx
       simp only [RepC]
       exact ⟨⟨_, _, rfl, rfl, hAQ _ hA, by simpa using qP hh hcl (ix * k) k, jD hAQ (fun _ _ => rfl) _ _ g1⟩, rfl⟩
     | _ => simp [ho] at h
  | mr id =>
   simp only [frz] at h
   cases ho : S[id]? with
   | none => simp [ho] at h
   | some o =>
    have hok := hI.ok id o ho
    simp only [zU] at hr
    obtain ⟨r, rfl, hpl⟩ := hr
    simp only [MapPl, ho] at hpl
    cases o with
    | mp es clock =>
     simp only [ho] at h
     cases h1 : allO (fun (e : D × V × Nat) => (frz S n e.2.1).map fun x => (e.1, x)) es with
     | none => simp [h1] at h
     | some ds =>
      simp only [h1, Option.map_some, Option.some.injEq] at h; subst h
      simp only at hpl
      subst hpl
      simp only [ObOk] at hok
      obtain ⟨en, hh, hM, _⟩ := hok
      have hQ : Q (ρ id) := hq id (by simp [frzIds, ho])
      simp only [RepC]
      exact ⟨⟨_, rfl, .inr ⟨_, en, clock, rfl, hQ, hh, frzM hAQ ih h1 hM (fun i hi => hq i (by
       simp only [frzIds, ho, List.mem_cons]
       exact .inr hi))⟩⟩, rfl⟩
    | fm es =>
     simp only [ho, Option.some.injEq] at h; subst h
     simp only at hpl
     subst hpl
     simp only [ObOk] at hok
     obtain ⟨en, clock, hA, hh, hM⟩ := hok
     simp only [RepC]
     exact ⟨⟨_, rfl, .inr ⟨_, en, clock, rfl, hAQ _ hA, hh, z5r hAQ (fun _ _ => rfl) _ _ hM⟩⟩, rfl⟩
    | _ => simp [ho] at h
  | it id => simp [frz] at h
  | tup xs => simp [frz] at h
  | junk => simp [frz] at h
end
section
variable {P : Program} {S : zB} {ρ : Nat → Nat} {A : Nat → Prop} {w : World}
theorem zeh {S0 : zB} {all : List Nat} : ∀ {ids : List Nat} {S1 S2 : zB}, mark S0 all S1 ids = some S2 → S2.length = S1.length ∧
  (∀ i, i ∈ ids → i < S1.length → ∃ o o', S0[i]? = some o ∧ z3r S0 o = some o' ∧ (∀ j ∈ za5 S0 o, j ∈ all) ∧ S2[i]? = some o') ∧ (∀ i, i ∉ ids → S2[i]? = S1[i]?)
 | [], S1, S2, h => by
  simp only [mark, Option.some.injEq] at h; subst h
  exact ⟨rfl, fun i hi => by simp at hi, fun _ _ => rfl⟩
 | id :: r, S1, S2, h => by
  simp only [mark] at h
  cases ho : S0[id]? with
  | none => simp [ho] at h
  | some o =>
   simp only [ho] at h
   cases hf : z3r S0 o with
   | none => simp [hf] at h
   | some o' =>
    simp only [hf] at h
    split at h
    ·rename_i hall
     obtain ⟨h1, h2, h3⟩ := zeh h
     refine ⟨by simpa using h1, fun i hi hil => ?_, fun i hi => ?_⟩
     ·by_cases hir : i ∈ r
      ·exact h2 i hir (by simpa using hil)
      ·have hid : i = id := by simpa [hir] using hi
       subst hid
       refine ⟨o, o', ho, hf, ?_, ?_⟩
       ·intro j hj
        simp only [List.all_eq_true, List.contains_iff_mem] at hall
        exact hall j hj
       ·rw [h3 i hir, List.getElem?_set_self hil]
     ·simp only [List.mem_cons, not_or] at hi
      rw [h3 i hi.2, List.getElem?_set_ne (fun h => hi.1 h.symm)]
    ·cases h
def stay (S : zB) (ρ : Nat → Nat) (A : Nat → Prop) (ids : List Nat) (b : Nat) : Prop :=
 A b ∨ ∃ id ∈ ids, ∃ o, S[id]? = some o ∧ o.live = true ∧ (∀ s p, o ≠ .iter s p) ∧ ρ id = b
theorem z06 {ids : List Nat} : ∀ b, A b → stay S ρ A ids b := fun _ h => .inl h
theorem z47 {n : Nat} {v : V} {id : Nat} (h : id ∈ frzIds S n v) : ∃ o, S[id]? = some o ∧ o.live = true ∧ ∀ s p, o ≠ .iter s p := by
 induction n generalizing v with
 | zero => simp [frzIds] at h
 | succ n ih =>
  have many : ∀ {xs : List V}, id ∈ xs.flatMap (frzIds S n) → ∃ o, S[id]? = some o ∧ o.live = true ∧ ∀ s p, o ≠ .iter s p := fun {xs} h => by
   obtain ⟨y, _, hy⟩ := List.mem_flatMap.1 h
   exact ih hy
  cases v <;> simp only [frzIds, List.not_mem_nil] at h
  ·split at h
   ·rename_i xs e ho
    rcases List.mem_cons.1 h with rfl | h
    ·exact ⟨_, ho, rfl, by simp⟩
    ·exact many h
   ·simp at h
  ·split at h
   ·rename_i xs e ho
    rcases List.mem_cons.1 h with rfl | h
    ·exact ⟨_, ho, rfl, by simp⟩
    ·exact many h
   ·simp at h
  ·split at h
   ·rename_i xs e ho
    rcases List.mem_cons.1 h with rfl | h
    ·exact ⟨_, ho, rfl, by simp⟩
    ·exact many h
   ·simp at h
  ·split at h
   ·rename_i es c ho
    rcases List.mem_cons.1 h with rfl | h
    ·exact ⟨_, ho, rfl, by simp⟩
    ·obtain ⟨e, _, he⟩ := List.mem_flatMap.1 h
     exact ih he
   ·simp at h
  ·exact many h
  ·exact ih h
  ·rcases List.mem_append.1 h with h | h <;> exact many h
theorem z0r {ids : List Nat} {n : Nat} {v : V} {id : Nat} (h : id ∈ frzIds S n v) (hin : id ∈ ids) : stay S ρ A ids (ρ id) := by
 obtain ⟨o, h1, h2, h3⟩ := z47 h
 exact .inr ⟨id, hin, o, h1, h2, h3, rfl⟩
theorem zh8 (hI : Inv P S ρ A w) {ids : List Nat} : ∀ {args : List V} {ds : List D} {us : List Value}, allO (frz S zJ) args = some ds → qY P S ρ A w args us → (∀ i ∈ args.flatMap (frzIds S zJ), i ∈ ids) → qY P [] ρ (stay S ρ A ids) w (ds.map .d) us
 | [], ds, us, h, hr, _ => by simp only [allO, Option.some.injEq] at h; subst h; simpa [qY] using hr
 | v :: r, ds, us, h, hr, hq => by
  obtain ⟨y, zs, h1, h2, rfl⟩ := wQ h
  simp only [qY] at hr
  obtain ⟨u, ws, rfl, h3, h5⟩ := hr
  have hqi : ∀ i ∈ frzIds S zJ v, stay S ρ A ids (ρ i) := fun i hi => z0r hi (hq i (by simp [hi]))
  simp only [List.map_cons, qY]
  refine ⟨u, ws, rfl, jW.2 ?_, zh8 hI h2 h5 (fun i hi => hq i (by simp only [List.flatMap_cons, List.mem_append]; exact .inr hi))⟩
  rcases h3 with ⟨g1, us', g2, g3⟩ | ⟨g1, g3⟩
  ·obtain ⟨e1, e2⟩ := z6d hI z06 zJ v y _ h1 g3 hqi
   exact .inl ⟨e2.trans g1, us', g2, e1⟩
  ·obtain ⟨e1, e2⟩ := z6d hI z06 zJ v y _ h1 g3 hqi
   exact .inr ⟨e2.trans g1, e1⟩
theorem Inv.mark (h : Inv P S ρ A w) {ids : List Nat} {S2 : zB} (hm : mark S ids S ids = some S2) (hk : ∀ id ∈ ids, ∃ o, S[id]? = some o ∧ o.live = true ∧ ∀ s p, o ≠ .iter s p) :
  Inv P S2 ρ (stay S ρ A ids) w ∧ Step S ρ A w S2 ρ (stay S ρ A ids) w := by
 obtain ⟨hlen, hin, hout⟩ := zeh hm
 have lt_of : ∀ {id : Nat} {x : Ob}, S[id]? = some x → id < S.length := fun {id x} hx => by
  rcases Nat.lt_or_ge id S.length with h' | h'
  ·exact h'
  ·simp [List.getElem?_eq_none h'] at hx
 have hQ : ∀ (o : Ob), (∀ j ∈ za5 S o, j ∈ ids) → ∀ {n : Nat} {v : V} {i : Nat}, i ∈ frzIds S n v → i ∈ za5 S o → stay S ρ A ids (ρ i) := fun o ho n v i hi hio => z0r hi (ho i hio)
 have now : ∀ id x, S2[id]? = some x → (id ∉ ids ∧ S[id]? = some x) ∨ (id ∈ ids ∧ ∃ o, S[id]? = some o ∧ o.live = true ∧ z3r S o = some x ∧ (∀ j ∈ za5 S o, j ∈ ids)) := by
  intro id x hx
  by_cases hi : id ∈ ids
  ·obtain ⟨o, h1, h2, _⟩ := hk id hi
   obtain ⟨o1, o', h3, h4, h5, h6⟩ := hin id hi (lt_of h1)
   rw [h1] at h3; cases h3
   rw [h6] at hx; cases hx
   exact .inr ⟨hi, o, h1, h2, h4, h5⟩
  ·exact .inl ⟨hi, by rw [← hout id hi]; exact hx⟩
 have dead_or : ∀ o x, z3r S o = some x → o.live = true → x.live = false := by
  intro o x hf hl
  cases o <;> simp only [Ob.live, Bool.false_eq_true] at hl <;> simp only [z3r, reduceCtorEq] at hf
  ·obtain ⟨ds, _, rfl⟩ := Option.map_eq_some_iff.1 hf; rfl
  ·obtain ⟨ds, _, rfl⟩ := Option.map_eq_some_iff.1 hf; rfl
 have hs : SLe S ρ w S2 ρ w := fun id x hx hnh => by
  by_cases hi : id ∈ ids
  ·obtain ⟨o1, o', h3, h4, h5, h6⟩ := hin id hi (lt_of hx)
   rw [hx] at h3; cases h3
   refine ⟨o', h6, ?_, .inr ⟨rfl, fun c e f hc => ⟨c, e, f, hc, rfl⟩⟩⟩
   cases x <;> simp only [z3r, reduceCtorEq, Option.some.injEq] at h4
   ·obtain ⟨ds, h1, rfl⟩ := Option.map_eq_some_iff.1 h4; exact ⟨(z1o h1).1, rfl⟩
   ·obtain ⟨ds, h1, rfl⟩ := Option.map_eq_some_iff.1 h4; trivial
   ·subst h4; exact Ob.le_refl _
   ·subst h4; exact Ob.le_refl _
   ·subst h4; exact Ob.le_refl _
   ·exact absurd rfl hnh
  ·exact ⟨x, by rw [hout id hi]; exact hx, x.le_refl, .inr ⟨rfl, fun c e f hc => ⟨c, e, f, hc, rfl⟩⟩⟩
 refine ⟨⟨fun id x hx => ?_, fun i j x y hx hy hxl hyl hij => ?_, fun i x hx hxl => ?_, fun b hb => ?_, h.gl.step z06 (fun _ _ => rfl)⟩, ⟨rfl, rfl, rfl, Nat.le_refl _, fun _ _ _ => rfl, fun _ _ => rfl, z06, fun b hb => ?_, fun b hb => ?_, hs⟩⟩
 ·rcases now id x hx with ⟨_, hx'⟩ | ⟨hi, o, ho, hl, hf, hcl⟩
  ·exact (h.ok id x hx').mono z06 (fun _ _ => rfl) hs (fun _ => rfl)
  ·have hok := h.ok id o ho
   have hst : stay S ρ A ids (ρ id) := .inr ⟨id, hi, o, ho, hl, by
    obtain ⟨o', h1, _, h3⟩ := hk id hi
    rw [ho] at h1; cases h1; exact h3, rfl⟩
   cases o <;> simp only [Ob.live, Bool.false_eq_true] at hl <;> simp only [z3r, reduceCtorEq] at hf
   ·rename_i xs e
    cases h1 : allO (frz S zJ) xs with
    | none => simp [h1] at hf
    | some ds =>
     simp only [h1, Option.map_some, Option.some.injEq] at hf; subst hf
     simp only [ObOk] at hok ⊢
     obtain ⟨k, c, us, rest, g1, g2, g3, g4⟩ := hok
     exact ⟨k, c, _, us, rest, g1, hst, g2, g3, frzE (ids := frzIds S zJ) (z6d h z06 zJ) k h1 g4 (fun i hi' => by
      obtain ⟨y, _, hy⟩ := List.mem_flatMap.1 hi'
      exact z0r hy (hcl i hi'))⟩
   ·rename_i es clock
    cases h1 : allO (fun (e : D × V × Nat) => (frz S zJ e.2.1).map fun x => (e.1, x)) es with
    | none => simp [h1] at hf
    | some ds =>
     simp only [h1, Option.map_some, Option.some.injEq] at hf; subst hf
     simp only [ObOk] at hok ⊢
     obtain ⟨en, g1, g2, _⟩ := hok
     exact ⟨en, clock, hst, g1, frzM (ids := frzIds S zJ) z06 (z6d h z06 zJ) h1 g2 (fun i hi' => by
      obtain ⟨y, _, hy⟩ := List.mem_flatMap.1 hi'
      exact z0r hy (hcl i hi'))⟩
 ·rcases now i x hx with ⟨_, hx'⟩ | ⟨_, o, ho, hl, hf, _⟩
  ·rcases now j y hy with ⟨_, hy'⟩ | ⟨_, o, ho, hl, hf, _⟩
   ·exact h.inj i j x y hx' hy' hxl hyl hij
   ·rw [dead_or o y hf hl] at hyl; cases hyl
  ·rw [dead_or o x hf hl] at hxl; cases hxl
 ·rcases now i x hx with ⟨hi, hx'⟩ | ⟨_, o, ho, hl, hf, _⟩
  ·intro hb
   rcases hb with hb | ⟨id, hid, o, ho, hl, _, he⟩
   ·exact h.own i x hx' hxl hb
   ·have := h.inj id i o x ho hx' hl hxl he
    subst this; exact hi hid
  ·rw [dead_or o x hf hl] at hxl; cases hxl
 ·rcases hb with hb | ⟨id, _, o, ho, hl, _, rfl⟩
  ·exact h.lt b hb
  ·exact (h.ok id o ho).lt (by rintro rfl; cases hl) (by rintro rfl; cases hl)
 ·rcases hb with hb | ⟨id, _, o, ho, hl, _, rfl⟩
  ·exact .inl hb
  ·exact .inr (.inl ⟨id, o, ho, hl, rfl⟩)
 ·obtain ⟨id, x, hx, hxl, rfl⟩ := hb
  rcases now id x hx with ⟨_, hx'⟩ | ⟨_, o, ho, hl, hf, _⟩
  ·exact .inl ⟨id, x, hx', hxl, rfl⟩
  ·rw [dead_or o x hf hl] at hxl; cases hxl
theorem ze4 {A B : Nat → Prop} {x : D} (h : x.plain = true) {us : List Value} (hr : RepC A w x us) : RepC B w x us := by
 have leaf : ∀ (y : D) (vs : List Value), (match y with | .sl _ | .map _ | .iface .. | .agg _ | .ptr _ | .fn .. => false | _ => true) = true → RepC A w y vs → RepC B w y vs := by
  intro y vs hy hr
  cases y <;> simp only [Bool.false_eq_true] at hy <;> simpa only [RepC] using hr
 cases x with
 | agg xs =>
  simp only [D.plain] at h
  simp only [RepC] at hr ⊢
  induction xs generalizing us with
  | nil => simpa [RepL] using hr
  | cons y r ih =>
   simp only [List.all_cons, Bool.and_eq_true] at h
   simp only [RepL] at hr ⊢
   obtain ⟨v, ws, rfl, h2, h3, h4⟩ := hr
   exact ⟨v, ws, rfl, h2, leaf y _ h.1 h3, ih h.2 h4⟩
 | iface t y =>
  simp only [D.plain] at h
  simp only [RepC] at hr ⊢
  obtain ⟨v, rfl, h3⟩ := hr
  refine ⟨v, rfl, ?_⟩
  cases y <;> simp only [Bool.false_eq_true] at h <;> simpa [D.isAgg, RepC] using h3
 | sl _ => simp [D.plain] at h
 | map _ => simp [D.plain] at h
 | ptr _ => simp [D.plain] at h
 | fn _ _ _ => simp [D.plain] at h
 | _ => simpa only [RepC] using hr
end
section
variable {P : Program} {S : zB} {ρ : Nat → Nat} {A : Nat → Prop} {w : World}
theorem za8 {α : Type} {l : List α} {i : Nat} {v : α} (h : l[i]? = some v) : (l.drop i).take 1 = [v] := by
 induction l generalizing i with
 | nil => simp at h
 | cons x r ih =>
  cases i with
  | zero => simp at h; simp [h]
  | succ i => simp at h; simpa using ih h
theorem z38 {t : TypeId} {k : Nat} (h : sz P t = some k) : ∃ i d, P.info? t = some i ∧ i.size = k ∧ P.underlying t = some d := by
 unfold sz at h
 cases hu : P.underlying t with
 | none => simp [hu] at h
 | some d =>
  simp only [hu] at h
  obtain ⟨i, hi, rfl⟩ := Option.map_eq_some_iff.1 h
  exact ⟨i, d, hi, rfl, rfl⟩
theorem run_sizeOf {t : TypeId} {k : Nat} (h : sz P t = some k) (w : World) : (sizeOf t).run P w = .ok k w := by
 obtain ⟨i, d, hi, rfl, _⟩ := z38 h
 simp [sizeOf, typeInfo, hi]
theorem z05 {t : TypeId} {k : Nat} (h : sz P t = some k) (w : World) : (isAgg t).run P w = .ok (aggT P t) w := by
 obtain ⟨i, d, _, _, hu⟩ := z38 h
 simp only [isAgg, Sem.run_bind, run_underlying hu, Result.andThen_ok, aggT, hu]
 cases d <;> rfl
theorem CellsAt.cell {b off : Nat} {vs : List Value} (h : CellsAt w b off vs) {j : Nat} {v : Value} (hj : vs[j]? = some v) : w.cell? ((⟨b, off, none⟩ : Addr).add j) = some v := by
 obtain ⟨c, e, f, h1, h2⟩ := h
 rw [Addr.add_lit]
 simp [World.cell?, h1, h2 j v hj]
theorem CellsAt.take {b off : Nat} {vs : List Value} (h : CellsAt w b off vs) (n m : Nat) : CellsAt w b (off + n) ((vs.drop n).take m) := by
 obtain ⟨c, e, f, h1, h2⟩ := h
 refine ⟨c, e, f, h1, fun i v hv => ?_⟩
 rw [List.getElem?_take] at hv
 split at hv
 ·rw [List.getElem?_drop] at hv
  rw [Nat.add_assoc]; exact h2 _ v hv
 ·cases hv
theorem z93 {t : TypeId} {vs : List Value} (hsz : sz P t = some vs.length) (hg : aggT P t = true) {b off : Nat} (hc : CellsAt w b off vs) : (loadVar t ⟨b, off, none⟩).run P w = .ok (.agg vs.toArray) w := by
 have hl := run_loadCells_list (P := P) w ⟨b, off, none⟩ vs (fun j v hv => hc.cell hv)
 simp [loadVar, z05 hsz, hg, run_sizeOf hsz, hl]
theorem z7m {t : TypeId} {k : Nat} (hsz : sz P t = some k) (hg : aggT P t = false) {v : Value} {b off : Nat} (hc : CellsAt w b off [v]) : (loadVar t ⟨b, off, none⟩).run P w = .ok v w := by
 have h0 := hc.cell (j := 0) (v := v) rfl
 rw [Addr.add_zero'] at h0
 simp [loadVar, z05 hsz, hg, h0]
theorem wG {t : TypeId} {x : V} {us : List Value} (hsz : sz P t = some x.cells.length) (hg : x.isAgg = aggT P t) {b off : Nat} (hc : CellsAt w b off us) (hr : zU P S ρ A w x us) :
  ∃ v, (loadVar t ⟨b, off, none⟩).run P w = .ok v w ∧ RepW P S ρ A w x v := by
 have hl := jE hr
 cases hx : x.isAgg with
 | true =>
  exact ⟨_, z93 (by rw [hsz, hl]) (hg ▸ hx) hc, .inl ⟨hx, _, rfl, by simpa using hr⟩⟩
 | false =>
  rw [z1s hx] at hl
  obtain ⟨v, rfl⟩ := List.length_eq_one_iff.1 hl
  exact ⟨v, z7m hsz (hg ▸ hx) hc, .inr ⟨hx, hr⟩⟩
theorem zdl {t : TypeId} {cs : List V} {off : Nat} {y : V} {us : List Value} (h : z6j P t cs off = some y) (hr : jF P S ρ A w cs us) :
  ∃ n, sz P t = some n ∧ off + n ≤ us.length ∧ zU P S ρ A w y ((us.drop off).take n) ∧ y.isAgg = aggT P t ∧ y.cells.length = n := by
 unfold z6j at h
 cases hs : sz P t with
 | none => simp [hs] at h
 | some n =>
  simp only [hs] at h
  have hl := z2k hr
  split at h
  ·rename_i hle
   split at h
   ·rename_i hg
    simp only [Option.some.injEq] at h; subst h
    refine ⟨n, rfl, by omega, ?_, by simp [V.isAgg, hg], by simp [V.cells]; omega⟩
    simp only [zU]
    exact z0g n (z0f off hr)
   ·rename_i hg
    split at h
    ·rename_i hn
     subst hn
     obtain ⟨v, hv, h1, h2⟩ := zdq hr off y h
     refine ⟨1, rfl, by omega, ?_, by simp [h1, hg], by simp [z1s h1]⟩
     rw [za8 hv]; exact h2
    ·cases h
  ·cases h
theorem z4y {t : TypeId} {cs : List D} {off : Nat} {y : D} {us : List Value} (h : z1c P t cs off = some y) (hr : RepL A w cs us) :
  ∃ n, sz P t = some n ∧ off + n ≤ us.length ∧ RepC A w y ((us.drop off).take n) ∧ y.isAgg = aggT P t ∧ y.cells.length = n := by
 unfold z1c at h
 cases hs : sz P t with
 | none => simp [hs] at h
 | some n =>
  simp only [hs] at h
  have hl := z4m hr
  split at h
  ·rename_i hle
   split at h
   ·rename_i hg
    simp only [Option.some.injEq] at h; subst h
    refine ⟨n, rfl, by omega, ?_, by simp [D.isAgg, hg], by simp [D.cells]; omega⟩
    simp only [RepC]
    exact z2f n (z2j off hr)
   ·rename_i hg
    split at h
    ·rename_i hn
     subst hn
     obtain ⟨v, hv, h1, h2⟩ := z7w hr off y h
     refine ⟨1, rfl, by omega, ?_, by simp [h1, hg], by simp [z12 h1]⟩
     rw [za8 hv]; exact h2
    ·cases h
  ·cases h
theorem zb0 {t : TypeId} {cs : List V} {off : Nat} {y : V} {us : Array Value} (h : z6j P t cs off = some y) (hr : jF P S ρ A w cs us.toList) :
  ∃ v, (part t us off).run P w = .ok v w ∧ RepW P S ρ A w y v := by
 obtain ⟨n, hs, hle, hy, hg, hn⟩ := zdl h hr
 cases hx : y.isAgg with
 | true =>
  refine ⟨.agg (us.extract off (off + n)), by simp [part, z05 hs, ← hg, hx, run_sizeOf hs], .inl ⟨hx, _, rfl, ?_⟩⟩
  simpa [List.extract_eq_take_drop] using hy
 | false =>
  have hl := jE hy
  rw [z1s hx] at hl hn
  simp at hn
  subst hn
  obtain ⟨v, hv⟩ := List.length_eq_one_iff.1 hl
  rw [hv] at hy
  have hget : us[off]? = some v := by
   have : ((us.toList.drop off).take 1)[0]? = some v := by rw [hv]; rfl
   simpa using this
  exact ⟨v, by simp [part, z05 hs, ← hg, hx, hget], .inr ⟨hx, hy⟩⟩
def zf3 (P : Program) (S : zB) (ρ : Nat → Nat) (A : Nat → Prop) (w : World) (r : Result Next) : Rs → Prop
 | .val v S' _ => ∃ u w' ρ' A', r = .ok (.value u) w' ∧ Inv P S' ρ' A' w' ∧ Step S ρ A w S' ρ' A' w' ∧ RepV P S' ρ' A' w' v u
 | .skip S' _ => ∃ w' ρ' A', r = .ok .skip w' ∧ Inv P S' ρ' A' w' ∧ Step S ρ A w S' ρ' A' w'
 | .enter f args => ∃ us, r = .ok (.enter f us) w ∧ qY P S ρ A w args us.toList
 | .dfr f args => ∃ d fv cap us, r = .ok (.defer d) w ∧ d.target = .fn fv cap ∧ (∀ w2, (invoke d.target d.args).run P w2 = .ok (.enter f us) w2) ∧ qY P S ρ A w args us.toList
 | .pan v => ∃ u, r = .halt (.panic u) w ∧ RepW P S ρ A w v u
theorem jH (hI : Inv P S ρ A w) {r : Result Next} {u : Value} {v : V} {c : Nat} (h : r = .ok (.value u) w) (hv : RepV P S ρ A w v u) : zf3 P S ρ A w r (.val v S c) :=
 ⟨u, w, ρ, A, h, hI, .refl, hv⟩
theorem zeg (hI : Inv P S ρ A w) {t : TypeId} {x y : V} {u : Value} (h : kF P S t x = some y) (hx : RepV P S ρ A w x u) : ∃ v, (Instr.loadAt t u).run P w = .ok v w ∧ RepW P S ρ A w y v := by
 unfold kF at h
 split at h
 ·rename_i id ix off
  have hx := (zM rfl).1 ((qD rfl).1 hx)
  simp only [zU, List.cons.injEq, and_true] at hx
  obtain ⟨a, rfl, hpl⟩ := hx
  cases ho : S[id]? with
  | none => simp [ho] at h
  | some o =>
   have hok := hI.ok id o ho
   simp only [RefPl, ho] at hpl
   simp only [ho] at h
   cases o with
   | row xs e =>
    simp only at h hpl
    cases hxi : xs[ix]? with
    | none => simp [hxi] at h
    | some z =>
     simp only [hxi] at h
     obtain ⟨k, hk, rfl, hlt⟩ := hpl
     simp only [ObOk] at hok
     obtain ⟨k', c, us, rest, hk', hh, hcl, hre⟩ := hok
     rw [hk] at hk'; cases hk'
     obtain ⟨g1, g2⟩ := z1k hre ix z hxi
     have hcat : CellsAt w (ρ id) (ix * k) ((us.drop (ix * k)).take k) := qP hh hcl (ix * k) k
     simp only [Instr.loadAt, Instr.sureAddr, Sem.run_bind, Sem.run_pure, Result.andThen_ok]
     split at h
     ·rename_i hf
      simp only [Option.some.injEq] at h; subst h
      simp only [Bool.and_eq_true, decide_eq_true_eq, qB, beq_iff_eq] at hf
      obtain ⟨rfl, ⟨_, hf1⟩, hf2⟩ := hf
      exact wG hf2 hf1 hcat g1
     ·obtain ⟨n, hs, hle, hy, hg, hn⟩ := zdl h (kV g1)
      have := hcat.take off n
      exact wG (by rw [hs, hn]) hg this hy
   | fz xs e =>
    simp only at h hpl
    cases hxi : xs[ix]? with
    | none => simp [hxi] at h
    | some z =>
     simp only [hxi] at h
     obtain ⟨k, hk, rfl, hlt⟩ := hpl
     simp only [ObOk] at hok
     obtain ⟨k', c, f, us, rest, hk', _, hh, hcl, hre⟩ := hok
     rw [hk] at hk'; cases hk'
     obtain ⟨g1, g2⟩ := z3q hre ix z hxi
     have hcat : CellsAt w (ρ id) (ix * k) ((us.drop (ix * k)).take k) := qP hh hcl (ix * k) k
     simp only [Instr.loadAt, Instr.sureAddr, Sem.run_bind, Sem.run_pure, Result.andThen_ok]
     split at h
     ·rename_i hf
      simp only [Option.some.injEq] at h; subst h
      simp only [Bool.and_eq_true, decide_eq_true_eq, z18, beq_iff_eq] at hf
      obtain ⟨rfl, hf1, hf2⟩ := hf
      exact wG (x := .d z) (by simpa [V.cells] using hf2) (by simpa [V.isAgg] using hf1) hcat (by simpa [zU] using g1)
     ·obtain ⟨y', hy', rfl⟩ := Option.map_eq_some_iff.1 h
      obtain ⟨n, hs, hle, hy, hg, hn⟩ := z4y hy' (wL g1)
      have := hcat.take off n
      exact wG (x := .d y') (by rw [hs, ← hn]; simp [V.cells]) (by simpa [V.isAgg] using hg) this (by simpa [zU] using hy)
   | _ => simp at h
 ·rename_i z
  split at h
  ·rename_i hf
   simp only [Option.some.injEq] at h; subst h
   have hx := (zF rfl).1 (jP.1 hx)
   simp only [RepC, List.cons.injEq, and_true] at hx
   obtain ⟨⟨b, off, sp⟩, us, rfl, hsp, _, hc, hr⟩ := hx
   simp only at hsp; subst hsp
   simp only [z18, Bool.and_eq_true, beq_iff_eq] at hf
   simp only [Instr.loadAt, Instr.sureAddr, Sem.run_bind, Sem.run_pure, Result.andThen_ok]
   exact wG (x := .d z) (by simpa [V.cells] using hf.2) (by simpa [V.isAgg] using hf.1) hc (by simpa [zU] using hr)
  ·cases h
 ·cases h
theorem zkb {x y : D} {t : TypeId} {o n : Nat} {b off : Nat} {us : List Value} (hs : sz P t = some n) (hp : z1c P t x.cells o = some y) (hA : A b) (hc : CellsAt w b off us) (hr : RepC A w x us) :
  RepX A w (.ptr y) (.pointer (some ⟨b, off + o, none⟩)) := by
 obtain ⟨n', hs', _, hy, _, _⟩ := z4y hp (wL hr)
 rw [hs] at hs'; cases hs'
 refine (zF rfl).2 ?_
 simp only [RepC]
 exact ⟨_, _, rfl, rfl, hA, hc.take o n, hy⟩
theorem z9y (hI : Inv P S ρ A w) {s : TypeId} {f : Nat} {x y : V} {u : Value} (h : zT P s f x = some y) (hx : RepV P S ρ A w x u) : ∃ v, (Instr.fieldAt s u f).run P w = .ok v w ∧ RepW P S ρ A w y v := by
 unfold zT at h
 split at h
 ·rename_i id ix off
  have hx := (zM rfl).1 ((qD rfl).1 hx)
  simp only [zU, List.cons.injEq, and_true] at hx
  obtain ⟨a, rfl, hpl⟩ := hx
  split at h
  ·rename_i fs hu
   split at h
   ·rename_i fd hfd
    split at h
    ·rename_i n hs
     simp only [Option.some.injEq] at h; subst h
     have hrun : (Instr.fieldAt s (.pointer (some a)) f).run P w = .ok (.pointer (some (a.add fd.offset))) w := by
      simp [Instr.fieldAt, run_underlying hu, hfd, Instr.sureAddr, fieldPlace, run_sizeOf hs]
     refine ⟨_, hrun, (zM rfl).2 ?_⟩
     simp only [zU]
     refine ⟨_, rfl, ?_⟩
     unfold RefPl at hpl ⊢
     cases ho : S[id]? with
     | none => simp [ho] at hpl
     | some o =>
      simp only [ho] at hpl ⊢
      cases o <;> first | exact hpl.elim | trivial | (obtain ⟨k, hk, rfl, hlt⟩ := hpl; exact ⟨k, hk, by rw [Addr.add_lit, Nat.add_assoc], hlt⟩)
    ·cases h
   ·cases h
  ·cases h
 ·rename_i z
  split at h
  ·rename_i fs hu
   split at h
   ·rename_i fd hfd
    split at h
    ·rename_i n hs
     split at h
     ·obtain ⟨y', hy', rfl⟩ := Option.map_eq_some_iff.1 h
      have hx := (zF rfl).1 (jP.1 hx)
      simp only [RepC, List.cons.injEq, and_true] at hx
      obtain ⟨⟨b, off, sp⟩, us, rfl, hsp, hA, hc, hr⟩ := hx
      simp only at hsp; subst hsp
      refine ⟨.pointer (some ⟨b, off + fd.offset, none⟩), ?_, jW.2 (zkb hs hy' hA hc hr)⟩
      simp [Instr.fieldAt, run_underlying hu, hfd, Instr.sureAddr, fieldPlace, run_sizeOf hs, Addr.add_lit]
     ·cases h
    ·cases h
   ·cases h
  ·cases h
 ·cases h
theorem z14 {v : V} {u : Value} (hg : v.isAgg = true) (h : RepW P S ρ A w v u) : ∃ us, u = .agg us ∧ jF P S ρ A w v.cells us.toList := by
 rcases h with ⟨_, us, rfl, h⟩ | ⟨h, _⟩
 ·exact ⟨us, rfl, kV h⟩
 ·rw [hg] at h; cases h
theorem zid {s : TypeId} {f : Nat} {x y : V} {u : Value} (h : z8u P s f x = some y) (hx : RepV P S ρ A w x u) : ∃ v, (Instr.field s u f).run P w = .ok v w ∧ RepW P S ρ A w y v := by
 unfold z8u at h
 split at h
 ·rename_i hg
  have hx' : RepW P S ρ A w x u := (qD (by cases x <;> simp_all [V.isAgg, V.one])).1 hx
  obtain ⟨us, rfl, hr⟩ := z14 hg hx'
  split at h
  ·rename_i fs hu
   split at h
   ·rename_i fd hfd
    have key : ∀ y, z6j P fd.type x.cells fd.offset = some y → ∃ v, (Instr.field s (.agg us) f).run P w = .ok v w ∧ RepW P S ρ A w y v := fun y hy => by
     obtain ⟨v, hv, hr'⟩ := zb0 hy hr
     exact ⟨v, by simp [Instr.field, run_underlying hu, hfd, asAgg, hv], hr'⟩
    split at h
    ·rename_i z
     obtain ⟨y', hy', rfl⟩ := Option.map_eq_some_iff.1 h
     have hr2 : RepL A w z.cells us.toList := by
      rcases hx' with ⟨_, us', e, h1⟩ | ⟨h1, _⟩
      ·cases e; simp only [zU] at h1; exact wL h1
      ·rw [hg] at h1; cases h1
     obtain ⟨n, hs, hle, hy, hga, hn⟩ := z4y hy' hr2
     cases hya : y'.isAgg with
     | true =>
      refine ⟨.agg (us.extract fd.offset (fd.offset + n)), ?_, jW.2 (.inl ⟨hya, _, rfl, by simpa [List.extract_eq_take_drop] using hy⟩)⟩
      simp [Instr.field, run_underlying hu, hfd, asAgg, part, z05 hs, ← hga, hya, run_sizeOf hs]
     | false =>
      have hl := jZ hy
      rw [z12 hya] at hl hn
      simp at hn
      subst hn
      obtain ⟨v, hv⟩ := List.length_eq_one_iff.1 hl
      rw [hv] at hy
      have hget : us[fd.offset]? = some v := by
       have : ((us.toList.drop fd.offset).take 1)[0]? = some v := by rw [hv]; rfl
       simpa using this
      refine ⟨v, ?_, jW.2 (.inr ⟨hya, hy⟩)⟩
      simp [Instr.field, run_underlying hu, hfd, asAgg, part, z05 hs, ← hga, hya, hget]
    ·exact key _ h
   ·cases h
  ·cases h
 ·cases h
end
section
variable {P : Program} {S : zB} {ρ : Nat → Nat} {A : Nat → Prop} {w : World}
theorem z8e {x : V} {i : Int} {u : Value} (h : intOf? x = some i) (hx : RepV P S ρ A w x u) : ∃ k, u = .int k i := by
 unfold intOf? at h
 split at h
 ·rename_i k n
  simp only [Option.some.injEq] at h; subst h
  have := (zF rfl).1 (jP.1 hx)
  simp only [RepC, List.cons.injEq, and_true] at this
  exact ⟨k, this⟩
 ·cases h
theorem z92 {xs : List D} {u : Value} (hx : RepX A w (.sl xs) u) : ∃ a cap, u = .slice a xs.length cap ∧ xs.length ≤ cap ∧ (xs = [] ∨ ∃ b off k us, a = some ⟨b, off, none⟩ ∧ A b ∧ CellsAt w b off us ∧ RepE A w k xs us) := by
 have hx := (zF rfl).1 hx
 simp only [RepC, List.cons.injEq, and_true] at hx
 obtain ⟨a, cap, rfl, h1, h2⟩ := hx
 refine ⟨a, cap, rfl, h1, h2.imp id ?_⟩
 rintro ⟨⟨b, off, sp⟩, k, us, rfl, hsp, h3, h4, h5⟩
 simp only at hsp; subst hsp
 exact ⟨b, off, k, us, rfl, h3, h4, h5⟩
theorem zcu {xs : List D} {u : Value} (hx : RepV P S ρ A w (.ts xs) u) : ∃ a, u = .slice a xs.length xs.length ∧ RepX A w (.sl xs) u := by
 have hx := (zM rfl).1 ((qD rfl).1 hx)
 simp only [zU, List.cons.injEq, and_true] at hx
 obtain ⟨a, rfl, h1⟩ := hx
 exact ⟨a, rfl, (zF rfl).2 h1⟩
theorem z69 {t : TypeId} {x : D} (h : z18 P t x = true) : x.isAgg = aggT P t ∧ sz P t = some x.cells.length := by
 simpa [z18] using h
theorem z1f {t : TypeId} {x : V} (h : qB P t x = true) : x.one = true ∧ x.isAgg = aggT P t ∧ sz P t = some x.cells.length := by
 simp only [qB, Bool.and_eq_true, beq_iff_eq] at h
 exact ⟨h.1.1, h.1.2, h.2⟩
theorem zq9 {xs : List D} {i : Nat} {y : D} {k n : Nat} {b off : Nat} {us : List Value} (hy : xs[i]? = some y) (hn : y.cells.length = n) (hA : A b) (hc : CellsAt w b off us) (hr : RepE A w k xs us) :
  RepX A w (.ptr y) (.pointer (some ⟨b, off + i * n, none⟩)) := by
 obtain ⟨g1, g2⟩ := z3q hr i y hy
 have hk : k = n := by
  have := jZ g1
  simp only [List.length_take, List.length_drop] at this
  omega
 subst hk
 refine (zF rfl).2 ?_
 simp only [RepC]
 exact ⟨_, _, rfl, rfl, hA, hc.take (i * k) k, g1⟩
theorem z9x (hI : Inv P S ρ A w) {t : TypeId} {x ix y : V} {u v : Value} (h : zI P S t x ix = some y) (hx : RepV P S ρ A w x u) (hi : RepV P S ρ A w ix v) : ∃ r, (Instr.indexAt t u v).run P w = .ok r w ∧ RepW P S ρ A w y r := by
 unfold zI at h
 cases hin : intOf? ix with
 | none => simp [hin] at h
 | some i =>
  obtain ⟨ik, rfl⟩ := z8e hin hi
  simp only [hin] at h
  split at h
  ·rename_i e hu
   have frozen : ∀ xs : List D, RepX A w (.sl xs) u → (if 0 ≤ i ∧ i < xs.length then match xs[i.toNat]? with | some y => if z18 P e y then some (V.d (.ptr y)) else none | none => none else none) = some y → ∃ r, (Instr.indexAt t u (.int ik i)).run P w = .ok r w ∧ RepW P S ρ A w y r := by
    intro xs hx h
    obtain ⟨a, cap, rfl, _, h2⟩ := z92 hx
    split at h
    ·rename_i hb
     split at h
     ·rename_i z hz
      split at h
      ·rename_i hf
       simp only [Option.some.injEq] at h; subst h
       rcases h2 with h2 | ⟨b, off, k, us, rfl, hA, hc, hr⟩
       ·subst h2; simp at hz
       ·obtain ⟨hf1, hf2⟩ := z69 hf
        refine ⟨.pointer (some ⟨b, off + i.toNat * z.cells.length, none⟩), ?_, jW.2 (zq9 hz rfl hA hc hr)⟩
        simp [Instr.indexAt, run_underlying hu, asIntOf, hb, run_sizeOf hf2, Addr.add_lit]
      ·cases h
     ·cases h
    ·cases h
   split at h
   ·rename_i id off len
    split at h
    ·rename_i hb
     obtain ⟨hb, hrow, hsz⟩ := hb
     simp only [Option.some.injEq] at h; subst h
     have hx := (zM rfl).1 ((qD rfl).1 hx)
     simp only [zU, List.cons.injEq, and_true] at hx
     obtain ⟨a, cap, rfl, hpl⟩ := hx
     obtain ⟨k, hk⟩ := Option.isSome_iff_exists.1 hsz
     have fin : ∀ (n : Nat), (∃ k, sz P e = some k ∧ (a = some ⟨ρ id, off * k, none⟩ ∨ cap = 0) ∧ off + len ≤ n ∧ len ≤ cap ∧ ∃ c e' f, w.heap[ρ id]? = some (.cells c e' f) ∧ (off + cap) * k ≤ c.size) → (Instr.indexAt t (.slice a len cap) (.int ik i)).run P w = .ok (.pointer (some ⟨ρ id, (off + i.toNat) * k + 0, none⟩)) w ∧ off + i.toNat < n := by
      rintro n ⟨k', hk', ha, h3, h4, _⟩
      rw [hk] at hk'; cases hk'
      rcases ha with rfl | ha
      ·refine ⟨?_, by omega⟩
       simp [Instr.indexAt, run_underlying hu, asIntOf, hb, run_sizeOf hk, Addr.add_lit, Nat.add_mul]
      ·omega
     unfold RowPl at hpl
     unfold rowT at hrow
     cases ho : S[id]? with
     | none => simp [ho] at hpl
     | some o =>
      simp only [ho] at hpl hrow
      cases o with
      | row xs e' =>
       simp only [beq_iff_eq] at hrow; subst hrow
       obtain ⟨h1, h2⟩ := fin _ hpl
       refine ⟨_, h1, (zM rfl).2 ?_⟩
       simp only [zU]
       exact ⟨_, rfl, by unfold RefPl; simp only [ho]; exact ⟨k, hk, rfl, h2⟩⟩
      | fz xs e' =>
       simp only [beq_iff_eq] at hrow; subst hrow
       obtain ⟨h1, h2⟩ := fin _ hpl
       refine ⟨_, h1, (zM rfl).2 ?_⟩
       simp only [zU]
       exact ⟨_, rfl, by unfold RefPl; simp only [ho]; exact ⟨k, hk, rfl, h2⟩⟩
      | _ => simp at hrow
    ·cases h
   ·rename_i id jx off len
    split at h
    ·rename_i hb
     obtain ⟨hb, hrow, hsz⟩ := hb
     simp only [Option.some.injEq] at h; subst h
     have hx := (zM rfl).1 ((qD rfl).1 hx)
     simp only [zU, List.cons.injEq, and_true] at hx
     obtain ⟨a, cap, rfl, hpl⟩ := hx
     have fin : ∀ (n : Nat) (e' : TypeId), (∃ k, sz P e' = some k ∧ (a = some ⟨ρ id, jx * k + off, none⟩ ∨ cap = 0) ∧ jx < n ∧ off + cap ≤ k ∧ len ≤ cap) → ∃ k, sz P e' = some k ∧ (Instr.indexAt t (.slice a len cap) (.int ik i)).run P w = .ok (.pointer (some ⟨ρ id, jx * k + (off + i.toNat), none⟩)) w ∧ jx < n := by
      rintro n e' ⟨k', hk', ha, h3, h4, h5⟩
      rcases ha with rfl | ha
      ·refine ⟨k', hk', ?_, h3⟩
       simp [Instr.indexAt, run_underlying hu, asIntOf, hb, run_sizeOf hsz, Addr.add_lit, Nat.add_assoc]
      ·omega
     unfold CellPl at hpl
     unfold rowB at hrow
     cases ho : S[id]? with
     | none => simp [ho] at hpl
     | some o =>
      simp only [ho] at hpl hrow
      cases o with
      | row xs e' =>
       obtain ⟨k, hk, h1, h2⟩ := fin _ _ hpl
       refine ⟨_, h1, (zM rfl).2 ?_⟩
       simp only [zU]
       exact ⟨_, rfl, by unfold RefPl; simp only [ho]; exact ⟨k, hk, rfl, h2⟩⟩
      | fz xs e' =>
       obtain ⟨k, hk, h1, h2⟩ := fin _ _ hpl
       refine ⟨_, h1, (zM rfl).2 ?_⟩
       simp only [zU]
       exact ⟨_, rfl, by unfold RefPl; simp only [ho]; exact ⟨k, hk, rfl, h2⟩⟩
      | _ => simp at hrow
    ·cases h
   ·rename_i xs
    exact frozen xs (jP.1 hx) h
   ·rename_i xs
    obtain ⟨_, _, hx'⟩ := zcu hx
    exact frozen xs hx' h
   ·cases h
  ·rename_i n e hu
   split at h
   ·rename_i k hk
    split at h
    ·rename_i hb
     split at h
     ·rename_i id jx off
      simp only [Option.some.injEq] at h; subst h
      have hx := (zM rfl).1 ((qD rfl).1 hx)
      simp only [zU, List.cons.injEq, and_true] at hx
      obtain ⟨a, rfl, hpl⟩ := hx
      refine ⟨.pointer (some (a.add (i.toNat * k))), by simp [Instr.indexAt, run_underlying hu, Instr.sureAddr, asIntOf, hb, run_sizeOf hk], (zM rfl).2 ?_⟩
      simp only [zU]
      refine ⟨_, rfl, ?_⟩
      unfold RefPl at hpl ⊢
      cases ho : S[id]? with
      | none => simp [ho] at hpl
      | some o =>
       simp only [ho] at hpl ⊢
       cases o <;> first | exact hpl.elim | trivial | (obtain ⟨k', hk', rfl, hlt⟩ := hpl; exact ⟨k', hk', by rw [Addr.add_lit, Nat.add_assoc], hlt⟩)
     ·rename_i z
      split at h
      ·obtain ⟨y', hy', rfl⟩ := Option.map_eq_some_iff.1 h
       have hx := (zF rfl).1 (jP.1 hx)
       simp only [RepC, List.cons.injEq, and_true] at hx
       obtain ⟨⟨b, off, sp⟩, us, rfl, hsp, hA, hc, hr⟩ := hx
       simp only at hsp; subst hsp
       refine ⟨.pointer (some ⟨b, off + i.toNat * k, none⟩), ?_, jW.2 (zkb hk hy' hA hc hr)⟩
       simp [Instr.indexAt, run_underlying hu, Instr.sureAddr, asIntOf, hb, run_sizeOf hk, Addr.add_lit]
      ·cases h
     ·cases h
    ·cases h
   ·cases h
  ·cases h
theorem z68 {t : TypeId} {cs : List D} {off : Nat} {y : D} {us : Array Value} (h : z1c P t cs off = some y) (hr : RepL A w cs us.toList) :
  ∃ v, (part t us off).run P w = .ok v w ∧ RepX A w y v := by
 obtain ⟨n, hs, hle, hy, hga, hn⟩ := z4y h hr
 cases hya : y.isAgg with
 | true =>
  refine ⟨.agg (us.extract off (off + n)), ?_, (.inl ⟨hya, _, rfl, by simpa [List.extract_eq_take_drop] using hy⟩)⟩
  simp [part, z05 hs, ← hga, hya, run_sizeOf hs]
 | false =>
  have hl := jZ hy
  rw [z12 hya] at hl hn
  simp at hn
  subst hn
  obtain ⟨v, hv⟩ := List.length_eq_one_iff.1 hl
  rw [hv] at hy
  have hget : us[off]? = some v := by
   have : ((us.toList.drop off).take 1)[0]? = some v := by rw [hv]; rfl
   simpa using this
  refine ⟨v, ?_, (.inr ⟨hya, hy⟩)⟩
  simp [part, z05 hs, ← hga, hya, hget]
theorem za6 {x : D} {u : Value} (hg : x.isAgg = true) (h : RepX A w x u) : ∃ us, u = .agg us ∧ RepL A w x.cells us.toList := by
 rcases h with ⟨_, us, rfl, h⟩ | ⟨h, _⟩
 ·exact ⟨us, rfl, wL h⟩
 ·rw [hg] at h; cases h
theorem z39 {s : List UInt8} {u : Value} (h : RepV P S ρ A w (.d (.str s)) u) : u = .string ⟨s.toArray⟩ := by
 have := (zF rfl).1 (jP.1 h)
 simpa [RepC] using this
theorem vM {k : IntKind} {n : Int} {u : Value} (h : RepV P S ρ A w (.d (.int k n)) u) : u = .int k n := by
 have := (zF rfl).1 (jP.1 h)
 simpa [RepC] using this
theorem z3g {b : Bool} {u : Value} (h : RepV P S ρ A w (.d (.bool b)) u) : u = .bool b := by
 have := (zF rfl).1 (jP.1 h)
 simpa [RepC] using this
theorem z8s {k : IntKind} {n : Int} : RepW P S ρ A w (.d (.int k n)) (.int k n) := jW.2 ((zF rfl).2 (by simp [RepC]))
theorem zcc {b : Bool} : RepW P S ρ A w (.d (.bool b)) (.bool b) := jW.2 ((zF rfl).2 (by simp [RepC]))
theorem zmr {s : List UInt8} : RepW P S ρ A w (.d (.str s)) (.string ⟨s.toArray⟩) := jW.2 ((zF rfl).2 (by simp [RepC]))
theorem zil {t : TypeId} {x ix y : V} {u v : Value} (h : z2n P t x ix = some y) (hx : RepV P S ρ A w x u) (hi : RepV P S ρ A w ix v) : ∃ r, (Instr.index t u v).run P w = .ok r w ∧ RepW P S ρ A w y r := by
 unfold z2n at h
 cases hin : intOf? ix with
 | none => simp [hin] at h
 | some i =>
  obtain ⟨ik, rfl⟩ := z8e hin hi
  simp only [hin] at h
  split at h
  ·rename_i hu
   split at h
   ·rename_i s
    split at h
    ·rename_i hb
     split at h
     ·rename_i b hbs
      simp only [Option.some.injEq] at h; subst h
      rw [z39 hx]
      refine ⟨_, ?_, z8s⟩
      have : (⟨s.toArray⟩ : ByteArray)[i.toNat]? = some b := by
       show (if _ : _ then _ else _) = _
       have hlt : i.toNat < s.length := by
        rcases Nat.lt_or_ge i.toNat s.length with h' | h'
        ·exact h'
        ·simp [List.getElem?_eq_none h'] at hbs
       have hg : s[i.toNat] = b := by rw [List.getElem?_eq_getElem hlt] at hbs; simpa using hbs
       rw [dif_pos (by simpa [ByteArray.size] using hlt)]
       exact congrArg some hg
      simp [Instr.index, run_underlying hu, asIntOf, hb, this]
     ·cases h
    ·cases h
   ·cases h
  ·rename_i n e hu
   split at h
   ·rename_i k hk
    split at h
    ·rename_i hb
     split at h
     ·rename_i z
      split at h
      ·rename_i hg
       obtain ⟨y', hy', rfl⟩ := Option.map_eq_some_iff.1 h
       obtain ⟨us, rfl, hr⟩ := za6 hg (jP.1 hx)
       obtain ⟨r, hr1, hr2⟩ := z68 hy' hr
       exact ⟨r, by simp [Instr.index, run_underlying hu, asIntOf, hb, run_sizeOf hk, hr1], jW.2 hr2⟩
      ·cases h
     ·rename_i xs
      obtain ⟨us, rfl, hr⟩ := z14 rfl ((qD rfl).1 hx)
      obtain ⟨r, hr1, hr2⟩ := zb0 h hr
      exact ⟨r, by simp [Instr.index, run_underlying hu, asIntOf, hb, run_sizeOf hk, hr1], hr2⟩
     ·cases h
    ·cases h
   ·cases h
  ·cases h
end
section
variable {P : Program} {S : zB} {ρ : Nat → Nat} {A : Nat → Prop} {w : World}
theorem ziv {op : BinOp} {t : TypeId} {k k' : IntKind} {a b : Int} {z : D} (h : qR op k a k' b = some z) : ∃ v, (binOp op t (.int k a) (.int k' b)).run P w = .ok v w ∧ RepX A w z v := by
  have mi : ∀ n, RepX A w (.int k n) (.int k n) := fun n => (zF rfl).2 (by simp [RepC])
  have mb : ∀ b, RepX A w (.bool b) (.bool b) := fun n => (zF rfl).2 (by simp [RepC])
  cases op
  case shl =>
    simp only [qR] at h
    split at h
    · cases h
    · rename_i hb
      simp only [Option.some.injEq] at h; subst h
      exact ⟨_, by simp [binOp_shl, Op.shift, hb], mi _⟩
  case shr =>
    simp only [qR] at h
    split at h
    · cases h
    · rename_i hb
      simp only [Option.some.injEq] at h; subst h
      exact ⟨_, by simp [binOp_shr, Op.shift, hb], mi _⟩
  all_goals
    simp only [qR] at h
    by_cases hk : k = k'
    · subst hk
      simp only [if_true, reduceCtorEq] at h
      first
        | (simp only [Option.some.injEq] at h; subst h; first
            | exact ⟨_, by rw [binOp_add]; rfl, mi _⟩
            | exact ⟨_, by rw [binOp_sub]; rfl, mi _⟩
            | exact ⟨_, by rw [binOp_mul]; rfl, mi _⟩
            | exact ⟨_, by rw [binOp_and]; rfl, mi _⟩
            | exact ⟨_, by rw [binOp_or]; rfl, mi _⟩
            | exact ⟨_, by rw [binOp_xor]; rfl, mi _⟩
            | exact ⟨_, by rw [binOp_andNot]; rfl, mi _⟩
            | exact ⟨_, by rw [binOp_eql]; rfl, mb _⟩
            | exact ⟨_, by rw [binOp_neq]; rfl, mb _⟩
            | exact ⟨_, by rw [binOp_lss]; rfl, mb _⟩
            | exact ⟨_, by rw [binOp_leq]; rfl, mb _⟩
            | exact ⟨_, by rw [binOp_gtr]; rfl, mb _⟩
            | exact ⟨_, by rw [binOp_geq]; rfl, mb _⟩)
        | (by_cases hb : b = 0
           · simp [hb] at h
           · simp only [hb, if_false, Option.some.injEq] at h
             subst h
             first
               | exact ⟨_, by rw [binOp_quo]; simp only [Op.intDiv, hb, if_false]; rfl, mi _⟩
               | exact ⟨_, by rw [binOp_rem]; simp only [Op.intDiv, hb, if_false]; rfl, mi _⟩)
    · simp [hk] at h
theorem zci (a b : List UInt8) : (⟨a.toArray⟩ : ByteArray) ++ ⟨b.toArray⟩ = ⟨(a ++ b).toArray⟩ := by
 ext1
 simp
theorem zit {op : BinOp} {t : TypeId} {a b : List UInt8} {z : D} (h : z4r op a b = some z) : ∃ v, (binOp op t (.string ⟨a.toArray⟩) (.string ⟨b.toArray⟩)).run P w = .ok v w ∧ RepX A w z v := by
 have ms : ∀ s, RepX A w (.str s) (.string ⟨s.toArray⟩) := fun n => (zF rfl).2 (by simp [RepC])
 have mb : ∀ b, RepX A w (.bool b) (.bool b) := fun n => (zF rfl).2 (by simp [RepC])
 have ea : (⟨a.toArray⟩ : ByteArray).toList = a := by rw [ByteArray.toList_eq]
 have eb : (⟨b.toArray⟩ : ByteArray).toList = b := by rw [ByteArray.toList_eq]
 have sa : (⟨a.toArray⟩ : ByteArray).size = a.length := by simp [ByteArray.size]
 have sb : (⟨b.toArray⟩ : ByteArray).size = b.length := by simp [ByteArray.size]
 cases op <;> simp only [z4r] at h
 case add =>
  split at h
  ·rename_i hle
   simp only [Option.some.injEq] at h; subst h
   have hle' : ¬ (9223372036854775807 < (a.length : Int) + (b.length : Int)) := by omega
   exact ⟨_, by simp [binOp, Op.stringOp, sa, sb, hle', zci], ms _⟩
  ·cases h
 all_goals
  first
   | (simp only [Option.some.injEq] at h; subst h; exact ⟨_, by simp only [binOp, Op.stringOp, ea, eb]; rfl, mb _⟩)
   | cases h
def zoi : TypeDesc → Bool | .struct _ => false | .array _ _ => false | _ => true
theorem vD {t : TypeId} {d : TypeDesc} (hu : P.underlying t = some d) (hd : zoi d = true) {us : Array Value} {off : Nat} {v : Value} (hv : us[off]? = some v) : (part t us off).run P w = .ok v w := by
 have : (isAgg t).run P w = .ok false w := by
  simp only [isAgg, Sem.run_bind, run_underlying hu, Result.andThen_ok]
  cases d <;> first | rfl | simp [zoi] at hd
 simp [part, this, hv]
theorem z6k {t : TypeId} {x y : D} {b : Bool} {u v : Value} (h : vK P t x y = some b) (hx : RepX A w x u) (hy : RepX A w y v) (d : Nat) :
  (Op.equalIn (d + 1) t u v).run P w = .ok b w ∧ (∃ td, P.underlying t = some td ∧ zoi td = true) ∧ x.isAgg = false ∧ y.isAgg = false := by
 unfold vK at h
 split at h
 ·rename_i a c hu
  simp only [Option.some.injEq] at h; subst h
  have h1 := (zF rfl).1 hx
  have h2 := (zF rfl).1 hy
  simp only [RepC, List.cons.injEq, and_true] at h1 h2
  subst h1; subst h2
  exact ⟨run_equalIn_bool w d t a c hu, ⟨_, hu, rfl⟩, rfl, rfl⟩
 ·rename_i k0 k a k' c hu
  split at h
  ·rename_i hk
   subst hk
   simp only [Option.some.injEq] at h; subst h
   have h1 := (zF rfl).1 hx
   have h2 := (zF rfl).1 hy
   simp only [RepC, List.cons.injEq, and_true] at h1 h2
   subst h1; subst h2
   exact ⟨run_equalIn_int w d t k _ a c hu, ⟨_, hu, rfl⟩, rfl, rfl⟩
  ·cases h
 ·rename_i a c hu
  simp only [Option.some.injEq] at h; subst h
  have h1 := (zF rfl).1 hx
  have h2 := (zF rfl).1 hy
  simp only [RepC, List.cons.injEq, and_true] at h1 h2
  subst h1; subst h2
  exact ⟨by rw [run_equalIn_string w d t _ _ hu, ByteArray.toList_eq, ByteArray.toList_eq], ⟨_, hu, rfl⟩, rfl, rfl⟩
 ·cases h
theorem zg7 {g : TypeId → D → D → Option Bool} {d : Nat} (hg : ∀ {t : TypeId} {x y : D} {b : Bool} {u v : Value}, g t x y = some b → RepX A w x u → RepX A w y v → (Op.equalIn d t u v).run P w = .ok b w) {us vs : Array Value} {xs ys : List D} (hx : RepL A w xs us.toList) (hy : RepL A w ys vs.toList) : ∀ {fs : List Field} {b : Bool}, eqFs P g fs xs ys = some b → (Op.eqFields d us vs fs).run P w = .ok b w
 | [], b, h => by simp only [eqFs, Option.some.injEq] at h; subst h; simp [Op.eqFields]
 | f :: fs, b, h => by
  simp only [eqFs] at h
  split at h
  ·rename_i hn
   cases h1 : z1c P f.type xs f.offset with
   | none => simp [h1] at h
   | some x =>
    cases h2 : z1c P f.type ys f.offset with
    | none => simp [h1, h2] at h
    | some y =>
     simp only [h1, h2] at h
     obtain ⟨u, hu, gu⟩ := z68 h1 hx
     obtain ⟨v, hv, gv⟩ := z68 h2 hy
     cases he : g f.type x y with
     | none => simp [he] at h
     | some r =>
      have e1 := hg he gu gv
      have ih := fun (b : Bool) (hb : eqFs P g fs xs ys = some b) => zg7 hg hx hy hb
      cases r with
      | true =>
       simp only [he] at h
       simp [Op.eqFields, hn, hu, hv, e1, ih b h]
      | false =>
       simp only [he, Option.some.injEq] at h; subst h
       simp [Op.eqFields, hn, hu, hv, e1]
  ·cases h
theorem zgw {e : TypeId} {us vs : Array Value} {xs ys : List D} (hx : RepL A w xs us.toList) (hy : RepL A w ys vs.toList) (d : Nat) : ∀ {n i : Nat} {b : Bool}, eqLs P e n (xs.drop i) (ys.drop i) = some b → (Op.eqItems (d + 1) e 1 us vs (List.range' i n)).run P w = .ok b w
 | 0, i, b, h => by simp only [eqLs, Option.some.injEq] at h; subst h; simp [Op.eqItems]
 | n + 1, i, b, h => by
  cases h1 : xs.drop i with
  | nil => rw [h1] at h; simp [eqLs] at h
  | cons x xr =>
   cases h2 : ys.drop i with
   | nil => rw [h1, h2] at h; simp [eqLs] at h
   | cons y yr =>
    rw [h1, h2] at h
    simp only [eqLs] at h
    have g1 : xs[i]? = some x := by
     have : (xs.drop i)[0]? = some x := by rw [h1]; rfl
     simpa using this
    have g2 : ys[i]? = some y := by
     have : (ys.drop i)[0]? = some y := by rw [h2]; rfl
     simpa using this
    have t1 : xs.drop (i + 1) = xr := by rw [← List.drop_drop, h1]; rfl
    have t2 : ys.drop (i + 1) = yr := by rw [← List.drop_drop, h2]; rfl
    obtain ⟨u, hu, gu1, gu2⟩ := z7w hx _ x g1
    obtain ⟨v, hv, gv1, gv2⟩ := z7w hy _ y g2
    have hu' : us[i]? = some u := by simpa using hu
    have hv' : vs[i]? = some v := by simpa using hv
    cases he : vK P e x y with
    | none => simp [he] at h
    | some r =>
     obtain ⟨e1, ⟨td, htd, hd⟩, _, _⟩ := z6k he ((zF gu1).2 gu2) ((zF gv1).2 gv2) d
     have ih := fun (b : Bool) (hb : eqLs P e n (xs.drop (i + 1)) (ys.drop (i + 1)) = some b) => zgw hx hy d hb
     rw [List.range'_succ]
     cases r with
     | true =>
      simp only [he] at h
      rw [← t1, ← t2] at h
      simp [Op.eqItems, vD htd hd hu', vD htd hd hv', e1, ih b h]
     | false =>
      simp only [he, Option.some.injEq] at h; subst h
      simp [Op.eqItems, vD htd hd hu', vD htd hd hv', e1]
theorem znh : ∀ (n m : Nat) {t : TypeId} {x y : D} {b : Bool} {u v : Value}, eqD P n t x y = some b → RepX A w x u → RepX A w y v → (Op.equalIn (n + m) t u v).run P w = .ok b w
 | 0, m, t, x, y, b, u, v, h, _, _ => by simp [eqD] at h
 | n + 1, m, t, x, y, b, u, v, h, hx, hy => by
  rw [show n + 1 + m = n + m + 1 by omega]
  simp only [eqD] at h
  split at h
  ·rename_i xs ys
   obtain ⟨us, rfl, gx⟩ := wS.1 hx
   obtain ⟨vs, rfl, gy⟩ := wS.1 hy
   split at h
   ·rename_i fs hu
    split at h
    ·cases h
    ·rename_i hs
     simp only [Bool.not_eq_true] at hs
     have hf : P.underlying t = some (.struct (P.fieldsOf t)) := by
      rw [hu]; simp [Program.fieldsOf, hu]
     have hf' : P.fieldsOf t = fs := by simp [Program.fieldsOf, hu]
     refine (run_equalIn_struct w (n + m) t us vs hf hs).trans ?_
     rw [hf']
     exact zg7 (fun a b c => znh n m a b c) gx gy h
   ·rename_i k e hu
    split at h
    ·rename_i hc
     simp only [Bool.and_eq_true, beq_iff_eq, ne_eq, decide_eq_true_eq, Bool.not_eq_true', decide_eq_false_iff_not] at hc
     obtain ⟨i, td, hi, hsz, _⟩ := z38 hc.1
     have hce : P.cellsOf e = 1 := by simp [Program.cellsOf, hi, ← hsz]
     refine (run_equalIn_array w (n + m) us vs hu hi).trans ?_
     rw [hce, List.range_eq_range']
     obtain ⟨n', rfl⟩ : ∃ n', n = n' + 1 := ⟨n - 1, by omega⟩
     rw [show n' + 1 + m = n' + m + 1 by omega]
     exact zgw gx gy (n' + m) (i := 0) h
    ·cases h
   ·cases h
  ·exact (z6k h hx hy (n + m)).1
theorem wE {v : V} {x : D} {u : Value} (h : asD v = some x) (hr : RepV P S ρ A w v u) : RepX A w x u := by
 have hone : v.one = true := by
  cases v <;> simp_all [asD, z2b, V.one]
 rcases (qD hone).1 hr with ⟨g, us, rfl, h1⟩ | ⟨g, h1⟩
 ·obtain ⟨e1, e2⟩ := zf1 h h1
  exact .inl ⟨e2.trans g, us, rfl, e1⟩
 ·obtain ⟨e1, e2⟩ := zf1 h h1
  exact .inr ⟨e2.trans g, e1⟩
theorem z3c {x : V} {y : D} (hy : (match y with | .agg _ | .sl _ | .iface _ _ => false | _ => true) = true) (h : asD x = some y) : x = .d y := by
 cases x with
 | d z => simp only [asD, Option.some.injEq] at h; rw [h]
 | agg xs =>
  simp only [asD] at h
  obtain ⟨ds, _, rfl⟩ := Option.map_eq_some_iff.1 h
  simp at hy
 | ts xs => simp only [asD, z2b, Option.some.injEq] at h; subst h; simp at hy
 | iface t v => cases v <;> simp only [asD, z2b, Option.some.injEq, reduceCtorEq] at h; subst h; simp at hy
 | _ => simp [asD, z2b] at h
theorem zb2 {t e : TypeId} (hu : P.underlying t = some (.pointer e)) (a : Addr) (d : Nat) : (Op.equalIn (d + 1) t (.pointer (some a)) (.pointer none)).run P w = .ok false w := by
 simp [Op.equalIn, run_underlying hu]
theorem z6i {t e : TypeId} (hu : P.underlying t = some (.pointer e)) (a : Option Addr) (d : Nat) : (Op.equalIn (d + 1) t (.pointer none) (.pointer a)).run P w = .ok a.isNone w := by
 simp [Op.equalIn, run_underlying hu]
theorem ziq {t k e : TypeId} (hu : P.underlying t = some (.map k e)) (a : Nat) (d : Nat) : (Op.equalIn (d + 1) t (.map (some a)) (.map none)).run P w = .ok false w := by
 simp [Op.equalIn, run_underlying hu]
theorem zie {t k e : TypeId} (hu : P.underlying t = some (.map k e)) (a : Option Nat) (d : Nat) : (Op.equalIn (d + 1) t (.map none) (.map a)).run P w = .ok a.isNone w := by
 simp [Op.equalIn, run_underlying hu]
theorem zni {t : TypeId} {x : Array TypeId} {y : Array TypeId} {z : Bool} (hu : P.underlying t = some (.func x y z)) (f : Fn) (a b : Array Value) (d : Nat) : (Op.equalIn (d + 1) t (.func f a b) .nilFunc).run P w = .ok false w := by
 simp [Op.equalIn, run_underlying hu]
theorem zkk {t : TypeId} {x : Array TypeId} {y : Array TypeId} {z : Bool} (hu : P.underlying t = some (.func x y z)) (f : Fn) (a b : Array Value) (d : Nat) : (Op.equalIn (d + 1) t .nilFunc (.func f a b)).run P w = .ok false w := by
 simp [Op.equalIn, run_underlying hu]
theorem zix {t : TypeId} {x : Array TypeId} {y : Array TypeId} {z : Bool} (hu : P.underlying t = some (.func x y z)) (d : Nat) : (Op.equalIn (d + 1) t .nilFunc .nilFunc).run P w = .ok true w := by
 simp [Op.equalIn, run_underlying hu]
theorem zf2 {t : TypeId} {x y : V} {b : Bool} {u v : Value} (h : eqV P t x y = some b) (hx : RepV P S ρ A w x u) (hy : RepV P S ρ A w y v) :
  (Op.equal t u v).run P w = .ok b w ∧ (∀ op ox oy, (eqGuard op t ox oy u v).run P w = .ok () w) := by
 unfold eqV at h
 split at h
 ·rename_i hp
  unfold ptrT at hp
  cases hu : P.underlying t with
  | none => simp [hu] at hp
  | some td =>
   simp only [hu] at hp
   cases td <;> simp only [Bool.false_eq_true] at hp
   rename_i e
   have nil : ∀ {z : Value}, RepV P S ρ A w (.d .nilp) z → z = .pointer none := fun hz => by
    have := (zF rfl).1 (jP.1 hz)
    simpa [RepC] using this
   have ptr : ∀ {x : D} {z : Value}, RepV P S ρ A w (.d (.ptr x)) z → ∃ a, z = .pointer (some a) := fun hz => by
    have := (zF rfl).1 (jP.1 hz)
    simp only [RepC, List.cons.injEq, and_true] at this
    obtain ⟨a, _, h, _⟩ := this
    exact ⟨a, h⟩
   have ref : ∀ {i j k : Nat} {z : Value}, RepV P S ρ A w (.ref i j k) z → ∃ a, z = .pointer (some a) := fun hz => by
    have := (zM rfl).1 ((qD rfl).1 hz)
    simp only [zU, List.cons.injEq, and_true] at this
    obtain ⟨a, h, _⟩ := this
    exact ⟨a, h⟩
   unfold zv6 at h
   split at h <;> simp only [Option.some.injEq, reduceCtorEq] at h <;> subst h
   ·obtain ⟨a, rfl⟩ := ref hx; rw [nil hy]
    exact ⟨zb2 hu a 9999, fun op ox oy => by rw [eqGuard_at_pointer]; rfl⟩
   ·obtain ⟨a, rfl⟩ := ref hy; rw [nil hx]
    exact ⟨z6i hu (some a) 9999, fun op ox oy => by rw [eqGuard_at_pointer]; rfl⟩
   ·obtain ⟨a, rfl⟩ := ptr hx; rw [nil hy]
    exact ⟨zb2 hu a 9999, fun op ox oy => by rw [eqGuard_at_pointer]; rfl⟩
   ·obtain ⟨a, rfl⟩ := ptr hy; rw [nil hx]
    exact ⟨z6i hu (some a) 9999, fun op ox oy => by rw [eqGuard_at_pointer]; rfl⟩
   ·rw [nil hx, nil hy]
    exact ⟨z6i hu none 9999, fun op ox oy => by rw [eqGuard_at_pointer]; rfl⟩
 split at h
 ·rename_i hm
  unfold mapT at hm
  cases hu : P.underlying t with
  | none => simp [hu] at hm
  | some td =>
   simp only [hu] at hm
   cases td <;> simp only [Bool.false_eq_true] at hm
   have nil : ∀ {z : Value}, RepV P S ρ A w (.d .nilm) z → z = .map none := fun hz => by
    have := (zF rfl).1 (jP.1 hz)
    simpa [RepC] using this
   have ref : ∀ {i : Nat} {z : Value}, RepV P S ρ A w (.mr i) z → ∃ a, z = .map (some a) := fun hz => by
    have := (zM rfl).1 ((qD rfl).1 hz)
    simp only [zU, List.cons.injEq, and_true] at this
    obtain ⟨a, h, _⟩ := this
    exact ⟨a, h⟩
   have mp : ∀ {e : D × D} {es : List (D × D)} {z : Value}, RepV P S ρ A w (.d (.map (e :: es))) z → ∃ a, z = .map (some a) := fun hz => by
    have := (zF rfl).1 (jP.1 hz)
    simp only [RepC, List.cons.injEq, and_true] at this
    obtain ⟨r, rfl, h | ⟨b, _, _, rfl, _⟩⟩ := this
    ·simp at h
    ·exact ⟨b, rfl⟩
   have hg : ∀ (m n : Option Nat) op ox oy, (eqGuard op t ox oy (.map m) (.map n)).run P w = .ok () w := fun m n op ox oy => by
    unfold eqGuard; split <;> rfl
   have e1 : ∀ a, (Op.equal t (.map (some a)) (.map none)).run P w = .ok false w := fun a => ziq hu a 9999
   have e2 : ∀ a, (Op.equal t (.map none) (.map a)).run P w = .ok a.isNone w := fun a => zie hu a 9999
   unfold zt1 at h
   split at h <;> simp only [Option.some.injEq, reduceCtorEq] at h <;> subst h
   ·obtain ⟨a, rfl⟩ := ref hx; rw [nil hy]; exact ⟨e1 a, hg _ _⟩
   ·obtain ⟨a, rfl⟩ := ref hy; rw [nil hx]; exact ⟨e2 (some a), hg _ _⟩
   ·rw [nil hx, nil hy]; exact ⟨e2 none, hg _ _⟩
   ·obtain ⟨a, rfl⟩ := mp hx; rw [nil hy]; exact ⟨e1 a, hg _ _⟩
   ·obtain ⟨a, rfl⟩ := mp hy; rw [nil hx]; exact ⟨e2 (some a), hg _ _⟩
 split at h
 ·rename_i hm
  unfold fnT at hm
  cases hu : P.underlying t with
  | none => simp [hu] at hm
  | some td =>
   simp only [hu] at hm
   cases td <;> simp only [Bool.false_eq_true] at hm
   have nil : ∀ {z : Value}, RepV P S ρ A w (.d .nilf) z → z = .nilFunc := fun hz => by
    have := (zF rfl).1 (jP.1 hz)
    simpa [RepC] using this
   have ref : ∀ {f : Fn} {a b : List V} {z : Value}, RepV P S ρ A w (.fn f a b) z → ∃ fa ca, z = .func f fa ca := fun hz => by
    have := (zM rfl).1 ((qD rfl).1 hz)
    simp only [zU, List.cons.injEq, and_true] at this
    obtain ⟨a, b, h, _⟩ := this
    exact ⟨a, b, h⟩
   have dfn : ∀ {f : Fn} {a b : List D} {z : Value}, RepV P S ρ A w (.d (.fn f a b)) z → ∃ fa ca, z = .func f fa ca := fun hz => by
    have := (zF rfl).1 (jP.1 hz)
    simp only [RepC, List.cons.injEq, and_true] at this
    obtain ⟨a, b, h, _⟩ := this
    exact ⟨a, b, h⟩
   have hg1 : ∀ f a b op ox oy, (eqGuard op t ox oy (.func f a b) .nilFunc).run P w = .ok () w := fun f a b op ox oy => by
    unfold eqGuard; split <;> rfl
   have hg2 : ∀ f a b op ox oy, (eqGuard op t ox oy .nilFunc (.func f a b)).run P w = .ok () w := fun f a b op ox oy => by
    unfold eqGuard; split <;> rfl
   have hg3 : ∀ op ox oy, (eqGuard op t ox oy .nilFunc .nilFunc).run P w = .ok () w := fun op ox oy => by
    unfold eqGuard; split <;> rfl
   have e1 : ∀ f a b, (Op.equal t (.func f a b) .nilFunc).run P w = .ok false w := fun f a b => zni hu f a b 9999
   have e2 : ∀ f a b, (Op.equal t .nilFunc (.func f a b)).run P w = .ok false w := fun f a b => zkk hu f a b 9999
   have e3 : (Op.equal t .nilFunc .nilFunc).run P w = .ok true w := zix hu 9999
   unfold eqFn at h
   split at h <;> simp only [Option.some.injEq, reduceCtorEq] at h <;> subst h
   ·obtain ⟨a, b, rfl⟩ := ref hx; rw [nil hy]; exact ⟨e1 _ _ _, hg1 _ _ _⟩
   ·obtain ⟨a, b, rfl⟩ := dfn hx; rw [nil hy]; exact ⟨e1 _ _ _, hg1 _ _ _⟩
   ·obtain ⟨a, b, rfl⟩ := ref hy; rw [nil hx]; exact ⟨e2 _ _ _, hg2 _ _ _⟩
   ·obtain ⟨a, b, rfl⟩ := dfn hy; rw [nil hx]; exact ⟨e2 _ _ _, hg2 _ _ _⟩
   ·rw [nil hx, nil hy]; exact ⟨e3, hg3⟩
 ·split at h
  ·rename_i xs ys h1 h2
   have gx := wS.1 (wE h1 hx)
   have gy := wS.1 (wE h2 hy)
   obtain ⟨us, rfl, gx⟩ := gx
   obtain ⟨vs, rfl, gy⟩ := gy
   split at h
   ·cases h
   ·rename_i hs
    simp only [Bool.not_eq_true] at hs
    exact ⟨znh 8 9992 h (wS.2 ⟨us, rfl, gx⟩) (wS.2 ⟨vs, rfl, gy⟩), fun op ox oy => run_eqGuard_agg w op t ox oy us vs hs⟩
  ·rename_i x' y' _ h1 h2
   obtain ⟨e1, _, g1, g2⟩ := z6k h (wE h1 hx) (wE h2 hy) 9999
   refine ⟨e1, fun op ox oy => ?_⟩
   have := (zF g1).1 (wE h1 hx)
   unfold vK at h
   split at h
   ·simp only [RepC, List.cons.injEq, and_true] at this; subst this; rw [eqGuard_at_bool]; rfl
   ·simp only [RepC, List.cons.injEq, and_true] at this; subst this; rw [eqGuard_at_int]; rfl
   ·simp only [RepC, List.cons.injEq, and_true] at this; subst this; rw [eqGuard_at_string]; rfl
   ·cases h
  ·cases h
theorem zph {op : BinOp} {t : TypeId} {x y z : V} {u v : Value} (ox oy : Operand) (h : binV P op t x y = some z) (hx : RepV P S ρ A w x u) (hy : RepV P S ρ A w y v) :
  ∃ r, (do eqGuard op t ox oy u v; binOp op t u v).run P w = .ok r w ∧ RepW P S ρ A w z r := by
 unfold binV at h
 split at h
 ·obtain ⟨z', hz, rfl⟩ := Option.map_eq_some_iff.1 h
  rw [vM hx, vM hy]
  obtain ⟨r, h1, h2⟩ := ziv (P := P) (A := A) (w := w) (t := t) hz
  exact ⟨r, by simp [eqGuard_at_int, h1], jW.2 h2⟩
 ·obtain ⟨z', hz, rfl⟩ := Option.map_eq_some_iff.1 h
  rw [z39 hx, z39 hy]
  obtain ⟨r, h1, h2⟩ := zit (P := P) (A := A) (w := w) (t := t) hz
  exact ⟨r, by simp [eqGuard_at_string, h1], jW.2 h2⟩
 ·rename_i hni hns
  have notnum : ∀ b, eqV P t x y = some b → binOp .eql t u v = (do pure (.bool (← Op.equal t u v))) ∧ binOp .neq t u v = (do pure (.bool (!(← Op.equal t u v)))) := by
   intro b hb
   have hb' := hb
   unfold eqV at hb
   split at hb
   ·unfold zv6 at hb
    have nil : ∀ {z : Value}, RepV P S ρ A w (.d .nilp) z → z = .pointer none := fun hz => by
     have := (zF rfl).1 (jP.1 hz)
     simpa [RepC] using this
    split at hb
    ·rw [nil hy]; exact ⟨by cases u <;> rfl, by cases u <;> rfl⟩
    ·rw [nil hx]; exact ⟨by cases v <;> rfl, by cases v <;> rfl⟩
    ·rw [nil hy]; exact ⟨by cases u <;> rfl, by cases u <;> rfl⟩
    ·rw [nil hx]; exact ⟨by cases v <;> rfl, by cases v <;> rfl⟩
    ·rw [nil hx]; exact ⟨by cases v <;> rfl, by cases v <;> rfl⟩
    ·cases hb
   split at hb
   ·unfold zt1 at hb
    have nil : ∀ {z : Value}, RepV P S ρ A w (.d .nilm) z → z = .map none := fun hz => by
     have := (zF rfl).1 (jP.1 hz)
     simpa [RepC] using this
    split at hb
    ·rw [nil hy]; exact ⟨by cases u <;> rfl, by cases u <;> rfl⟩
    ·rw [nil hx]; exact ⟨by cases v <;> rfl, by cases v <;> rfl⟩
    ·rw [nil hx]; exact ⟨by cases v <;> rfl, by cases v <;> rfl⟩
    ·rw [nil hy]; exact ⟨by cases u <;> rfl, by cases u <;> rfl⟩
    ·rw [nil hx]; exact ⟨by cases v <;> rfl, by cases v <;> rfl⟩
    ·cases hb
   split at hb
   ·unfold eqFn at hb
    have nil : ∀ {z : Value}, RepV P S ρ A w (.d .nilf) z → z = .nilFunc := fun hz => by
     have := (zF rfl).1 (jP.1 hz)
     simpa [RepC] using this
    split at hb
    ·rw [nil hy]; exact ⟨by cases u <;> rfl, by cases u <;> rfl⟩
    ·rw [nil hy]; exact ⟨by cases u <;> rfl, by cases u <;> rfl⟩
    ·rw [nil hx]; exact ⟨by cases v <;> rfl, by cases v <;> rfl⟩
    ·rw [nil hx]; exact ⟨by cases v <;> rfl, by cases v <;> rfl⟩
    ·rw [nil hx]; exact ⟨by cases v <;> rfl, by cases v <;> rfl⟩
    ·cases hb
   ·split at hb
    ·rename_i xs ys h1 h2
     obtain ⟨us, rfl, gx⟩ := wS.1 (wE h1 hx)
     obtain ⟨vs, rfl, gy⟩ := wS.1 (wE h2 hy)
     exact ⟨rfl, rfl⟩
    ·rename_i x' y' _ h1 h2
     have gx := wE h1 hx
     have gy := wE h2 hy
     unfold vK at hb
     split at hb
     ·have := (zF rfl).1 gx
      simp only [RepC, List.cons.injEq, and_true] at this; subst this
      have := (zF rfl).1 gy
      simp only [RepC, List.cons.injEq, and_true] at this; subst this
      exact ⟨rfl, rfl⟩
     ·exact absurd (z3c rfl h2) (hni _ _ _ _ (z3c rfl h1))
     ·exact absurd (z3c rfl h2) (hns _ _ (z3c rfl h1))
     ·cases hb
    ·cases hb
  split at h
  ·obtain ⟨b, hb, rfl⟩ := Option.map_eq_some_iff.1 h
   obtain ⟨h1, h2⟩ := zf2 hb hx hy
   refine ⟨.bool b, ?_, zcc⟩
   simp [h2, (notnum b hb).1, h1]
  ·obtain ⟨b, hb, rfl⟩ := Option.map_eq_some_iff.1 h
   obtain ⟨h1, h2⟩ := zf2 hb hx hy
   refine ⟨.bool (!b), ?_, zcc⟩
   simp [h2, (notnum b hb).2, h1]
  ·cases h
theorem zv7 {op : UnOp} {x z : V} {u : Value} (h : unV op x = some z) (hx : RepV P S ρ A w x u) : ∃ r, (Op.unary op u).run P w = .ok r w ∧ RepW P S ρ A w z r := by
 unfold unV at h
 split at h
 ·simp only [Option.some.injEq] at h; subst h
  rw [z3g hx]
  exact ⟨_, by simp [Op.unary], zcc⟩
 ·simp only [Option.some.injEq] at h; subst h
  rw [vM hx]
  exact ⟨_, by simp [Op.unary, Op.intArith], z8s⟩
 ·cases h
theorem zm5 {x y z : V} {u v : Value} (h : zo2 x y = some z) (hx : RepV P S ρ A w x u) (hy : RepV P S ρ A w y v) : ∃ r, (Builtin.max2 u v).run P w = .ok r w ∧ RepW P S ρ A w z r := by
 unfold zo2 at h
 split at h
 ·split at h
  ·rename_i hk
   subst hk
   simp only [Option.some.injEq] at h; subst h
   rw [vM hx, vM hy]
   exact ⟨_, by simp [Builtin.max2], z8s⟩
  ·cases h
 ·cases h
theorem zm9 {x y z : V} {u v : Value} (h : zog x y = some z) (hx : RepV P S ρ A w x u) (hy : RepV P S ρ A w y v) : ∃ r, (Builtin.min2 u v).run P w = .ok r w ∧ RepW P S ρ A w z r := by
 unfold zog at h
 split at h
 ·split at h
  ·rename_i hk
   subst hk
   simp only [Option.some.injEq] at h; subst h
   rw [vM hx, vM hy]
   exact ⟨_, by simp [Builtin.min2], z8s⟩
  ·cases h
 ·cases h
theorem z8o {f : V → V → Option V} {g : Value → Value → Sem Value} (hf : ∀ {x y z : V} {u v : Value}, f x y = some z → RepV P S ρ A w x u → RepV P S ρ A w y v → ∃ r, (g u v).run P w = .ok r w ∧ RepW P S ρ A w z r) :
  ∀ {ys : List V} {x z : V} {u : Value} {vs : List Value}, zd3 f x ys = some z → RepV P S ρ A w x u → RepT P S ρ A w ys vs → ∃ r, (vs.foldlM g u).run P w = .ok r w ∧ RepV P S ρ A w z r
 | [], x, z, u, vs, h, hx, hy => by
  simp only [zd3, Option.some.injEq] at h; subst h
  simp only [RepT] at hy; subst hy
  exact ⟨u, by simp, hx⟩
 | y :: r, x, z, u, vs, h, hx, hy => by
  simp only [RepT] at hy
  obtain ⟨v, ws, rfl, h2, h3⟩ := hy
  simp only [zd3] at h
  cases h1 : f x y with
  | none => simp [h1] at h
  | some q =>
   simp only [h1] at h
   obtain ⟨r1, e1, e2⟩ := hf h1 hx h2
   obtain ⟨r2, e3, e4⟩ := z8o hf h (zV e2) h3
   exact ⟨r2, by simp [e1, e3], e4⟩
end
section
variable {P : Program} {S : zB} {ρ : Nat → Nat} {A : Nat → Prop} {w w' : World}
theorem z2s {v : Value} (h : zhh v = true) : v.oneCell' = true := by cases v <;> first | rfl | simp [zhh] at h
theorem z3h {k : Nat} : ∀ {xs : List V} {vs : List Value}, qS P S ρ A w k xs vs → ∀ u ∈ vs, u.oneCell' = true
 | [], vs, h => by simp only [qS] at h; simp [h]
 | x :: r, vs, h => by
  simp only [qS] at h
  obtain ⟨us, ws, rfl, h2, h3, h4⟩ := h
  intro u hu
  rcases List.mem_append.1 hu with hu | hu
  ·exact z2s (zaz (kV h3) u hu)
  ·exact z3h h4 u hu
theorem zkz {x : V} {vs : List Value} (h : zU P S ρ A w x vs) : ∀ u ∈ vs, u.oneCell' = true := fun u hu => z2s (zaz (kV h) u hu)
theorem jJ {x : V} {u : Value} (h : RepW P S ρ A w x u) : zU P S ρ A w x u.cells.toList := by
 rcases h with ⟨_, us, rfl, h⟩ | ⟨g, h⟩
 ·simpa [Value.cells] using h
 ·have := zak g h
  cases u <;> first | simpa [Value.cells] using h | simp [zhh] at this
theorem wZ {e : TypeId} {x : V} {u : Value} (hf : qB P e x = true) (h : RepV P S ρ A w x u) : RepW P S ρ A w x u ∧ ∃ k, sz P e = some k ∧ u.cells.size = k ∧ x.cells.length = k := by
 obtain ⟨h1, h2, h3⟩ := z1f hf
 have hw := (qD h1).1 h
 refine ⟨hw, _, h3, ?_, rfl⟩
 have := jE (jJ hw)
 simpa using this
theorem zi7 (hI : Inv P S ρ A w) {t : TypeId} {a v : V} {S' : zB} {ua uv : Value} (h : vJ P S t a v = some S') (ha : RepV P S ρ A w a ua) (hv : RepV P S ρ A w v uv) :
  ∃ w', (Instr.storeAt t ua uv).run P w = .ok () w' ∧ Inv P S' ρ A w' ∧ Step S ρ A w S' ρ A w' := by
 unfold vJ at h
 split at h
 ·rename_i id ix off
  have ha := (zM rfl).1 ((qD rfl).1 ha)
  simp only [zU, List.cons.injEq, and_true] at ha
  obtain ⟨a, rfl, hpl⟩ := ha
  cases ho : S[id]? with
  | none => simp [ho] at h
  | some o =>
   have hok := hI.ok id o ho
   simp only [RefPl, ho] at hpl
   simp only [ho] at h
   cases o with
   | row xs e =>
    simp only at h hpl
    cases hxi : xs[ix]? with
    | none => simp [hxi] at h
    | some z =>
     simp only [hxi] at h
     obtain ⟨k, hk, rfl, hlt⟩ := hpl
     simp only [ObOk] at hok
     obtain ⟨k', c, us, rest, hk', hh, hcl, hre⟩ := hok
     rw [hk] at hk'; cases hk'
     obtain ⟨g1, g2⟩ := z1k hre ix z hxi
     have gl := jE g1
     simp only [List.length_take, List.length_drop] at gl
     split at h
     ·rename_i hf
      obtain ⟨hvw, n, hn, hn1, hn2⟩ := wZ hf hv
      have hvc := jJ hvw
      have hvl : uv.cells.toList.length = n := by simpa using hn1
      have hone := zkz hvc
      have hrun : ∀ o, o + n ≤ k → (Instr.storeAt t (.pointer (some ⟨ρ id, ix * k + o, none⟩)) uv).run P w = .ok () (w.setRow (ρ id) (c.toList.take (ix * k + o) ++ uv.cells.toList ++ c.toList.drop (ix * k + o + n)).toArray) := by
       intro o ho
       have := run_storeCells_at P (ρ id) (ix * k + o) e uv.cells.toList 0 c w hh (by
        rw [hvl]
        have : c.size = us.length + rest.length := by rw [← Array.length_toList, hcl, List.length_append]
        omega) hone
       simp only [Nat.add_zero, hvl] at this
       simp [Instr.storeAt, Instr.sureAddr, storeVar, run_sizeOf hn, hn1, this]
      have fin : ∀ (o : Nat) (z' : V), o + n ≤ k → z'.cells.length = k → zU P S ρ A w z' (((us.drop (ix * k)).take k).take o ++ uv.cells.toList ++ ((us.drop (ix * k)).take k).drop (o + n)) →
        Inv P (S.set id (.row (xs.set ix z') e)) ρ A (w.setRow (ρ id) (c.toList.take (ix * k + o) ++ uv.cells.toList ++ c.toList.drop (ix * k + o + n)).toArray) ∧
        Step S ρ A w (S.set id (.row (xs.set ix z') e)) ρ A (w.setRow (ρ id) (c.toList.take (ix * k + o) ++ uv.cells.toList ++ c.toList.drop (ix * k + o + n)).toArray) := by
       intro o z' hok hz' hrz
       have hcs : c.size = us.length + rest.length := by rw [← Array.length_toList, hcl, List.length_append]
       refine hI.turn ho rfl ⟨by simp, rfl⟩ (by simp) (fun b hb => setRow_other w _ b _ hb) (.inr fun c0 e0 f0 hc0 => ?_) rfl rfl rfl (.inl rfl) (fun hs hA => ?_)
       ·rw [hh] at hc0; cases hc0
        refine ⟨_, _, _, setRow_heap w _ _ _ _ _ hh, ?_⟩
        simp only [List.size_toArray, List.length_append, List.length_take, List.length_drop, Array.length_toList, hvl]
        omega
       ·simp only [ObOk]
        have hset := z9h hre ix z' _ hlt (by
         simp only [List.length_append, List.length_take, List.length_drop, hvl]; omega) hrz
        refine ⟨k, _, _, rest, hk, setRow_heap w _ _ _ _ _ hh, ?_, jI (fun _ h => h) hA hs k _ _ hset⟩
        rw [List.toList_toArray, hcl]
        rw [List.take_append_of_le_length (by omega), List.drop_append_of_le_length (by omega)]
        have e1 : (us.take (ix * k)) ++ ((us.drop (ix * k)).take k).take o = us.take (ix * k + o) := by
         rw [List.take_take, Nat.min_eq_left (by omega), List.take_add]
        have e2 : ((us.drop (ix * k)).take k).drop (o + n) ++ us.drop (ix * k + k) = us.drop (ix * k + o + n) := by
         rw [List.drop_take, List.drop_drop]
         have : us.drop (ix * k + k) = (us.drop (ix * k + (o + n))).drop (k - (o + n)) := by rw [List.drop_drop]; congr 1; omega
         rw [this, List.take_append_drop]; congr 1; omega
        rw [← e1, ← e2]
        simp [List.append_assoc]
      split at h
      ·rename_i hc0
       simp only [Bool.and_eq_true, decide_eq_true_eq, beq_iff_eq] at hc0
       obtain ⟨⟨rfl, hc1⟩, hc2⟩ := hc0
       simp only [Option.some.injEq] at h; subst h
       have hnk : n = k := by omega
       subst hnk
       refine ⟨_, hrun 0 (by omega), fin 0 v (by omega) hn2 ?_⟩
       simp only [List.take_zero, List.nil_append, Nat.zero_add]
       rw [List.drop_eq_nil_of_le (by simp; omega), List.append_nil]
       exact hvc
      ·split at h
       ·rename_i hc0
        simp only [Bool.and_eq_true, decide_eq_true_eq] at hc0
        simp only [Option.some.injEq] at h; subst h
        refine ⟨_, hrun off (by omega), fin off _ (by omega) (by
         show (z.cells.take off ++ v.cells ++ z.cells.drop (off + v.cells.length)).length = k
         simp only [List.length_append, List.length_take, List.length_drop]; omega) ?_⟩
        simp only [zU]
        have hz := kV g1
        rw [hn2]
        exact vX (vX (z0g off hz) (kV hvc)) (z0f (off + n) hz)
       ·cases h
     ·cases h
   | _ => simp at h
 ·cases h
theorem kN (o : Obj) {b : Nat} (h : b < w.heap.size) : (w.alloc o).heap[b]? = w.heap[b]? := by
 show (w.heap.push o)[b]? = _
 rw [Array.getElem?_push, if_neg (by omega)]
theorem jK (o : Obj) : (w.alloc o).heap[w.heap.size]? = some o := by
 show (w.heap.push o)[w.heap.size]? = _
 rw [Array.getElem?_push, if_pos rfl]
theorem zrb (hI : Inv P S ρ A w) {e : TypeId} {z : V} {u : Value} (hf : qB P e z = true) (hz : RepV P S ρ A w z u) :
  ∃ ρ', Inv P (S ++ [.row [z] e]) ρ' A (w.alloc (.cells u.cells e)) ∧ Step S ρ A w (S ++ [.row [z] e]) ρ' A (w.alloc (.cells u.cells e)) ∧ RepV P (S ++ [.row [z] e]) ρ' A (w.alloc (.cells u.cells e)) (.ref S.length 0 0) (.pointer (some ⟨w.heap.size, 0, none⟩)) := by
 obtain ⟨hzw, k, hk, hk1, hk2⟩ := wZ hf hz
 have hzc := jJ hzw
 obtain ⟨g1, g2⟩ := hI.push (o := .row [z] e) (w' := w.alloc (.cells u.cells e)) rfl (by simp) (fun b hb => kN _ hb) rfl rfl rfl (fun hs hA => by
  simp only [ObOk]
  refine ⟨k, u.cells, u.cells.toList, [], hk, jK _, by simp, ?_⟩
  simp only [qS]
  exact ⟨u.cells.toList, [], by simp, by simpa using hk1, wA (fun _ h => h) hA hs _ _ hzc, rfl⟩)
 refine ⟨_, g1, g2, zV ((zM rfl).2 ?_)⟩
 simp only [zU]
 refine ⟨_, rfl, ?_⟩
 unfold RefPl
 simp [hk]
theorem Inv.fresh (h : Inv P S ρ A w) (hsz : w'.heap.size = w.heap.size + 1) (hold : ∀ b, b < w.heap.size → w'.heap[b]? = w.heap[b]?) (h1 : w'.os = w.os) (h2 : w'.tape = w.tape) (h3 : w'.output = w.output) :
  Inv P S ρ (fun b => A b ∨ b = w.heap.size) w' ∧ Step S ρ A w S ρ (fun b => A b ∨ b = w.heap.size) w' := by
 obtain ⟨g1, g2⟩ := h.world (w' := w') (by omega) hold h1 h2 h3
 refine ⟨⟨fun id o ho => (g1.ok id o ho).mono (fun _ h => .inl h) (fun _ _ => rfl) (Step.refl (A := A)).sle (fun _ => rfl), h.inj, fun i o ho hl hA => ?_, fun b hb => ?_, h.gl.step (fun _ h => .inl h) g2.keepA⟩, ⟨h1, h2, h3, by omega, g2.keep, g2.keepA, fun _ h => .inl h, fun b hb => ?_, fun _ h => .inl h, g2.sle⟩⟩
 ·rcases hA with hA | hA
  ·exact h.own i o ho hl hA
  ·have := (h.ok i o ho).lt (by rintro rfl; cases hl) (by rintro rfl; cases hl)
   omega
 ·rcases hb with hb | hb
  ·have := h.lt b hb; omega
  ·omega
 ·rcases hb with hb | rfl
  ·exact .inl hb
  ·exact .inr (.inr (Nat.le_refl _))
theorem zac {y dflt n : Nat} {v : Option V} {u : Option Value} (h : kC y v dflt = some n) (hv : ∀ x, v = some x → ∃ z, u = some z ∧ RepV P S ρ A w x z) (hn : v = none → u = none) :
  (v = none ∧ n = dflt) ∨ (∃ k i, u = some (.int k i) ∧ 0 ≤ i ∧ i ≤ y ∧ n = i.toNat ∧ v ≠ none) := by
 unfold kC at h
 cases v with
 | none => simp only [Option.some.injEq] at h; exact .inl ⟨rfl, h.symm⟩
 | some x =>
  simp only at h
  cases hi : intOf? x with
  | none => simp [hi] at h
  | some i =>
   simp only [hi] at h
   split at h
   ·rename_i hb
    simp only [Option.some.injEq] at h
    obtain ⟨z, rfl, hz⟩ := hv x rfl
    obtain ⟨k, rfl⟩ := z8e hi hz
    exact .inr ⟨k, i, rfl, hb.1, hb.2, h.symm, by simp⟩
   ·cases h
theorem z3e {lo hi : Option V} {ulo uhi : Option Value} {len cap h l : Nat} (hle : len ≤ cap) (isS : Bool) (hh : kC len hi len = some h) (hl : kC h lo 0 = some l)
  (vlo : ∀ x, lo = some x → ∃ z, ulo = some z ∧ RepV P S ρ A w x z) (nlo : lo = none → ulo = none) (vhi : ∀ x, hi = some x → ∃ z, uhi = some z ∧ RepV P S ρ A w x z) (nhi : hi = none → uhi = none) :
  (Instr.sliceBounds isS len cap ulo uhi none).run P w = .ok (l, h, cap) w ∧ l ≤ h ∧ h ≤ len := by
 have ch : (uhi = none ∧ h = len) ∨ ∃ k i, uhi = some (.int k i) ∧ 0 ≤ i ∧ i ≤ (len : Int) ∧ h = i.toNat := by
  rcases zac hh vhi nhi with ⟨h0, h1⟩ | ⟨k, i, h0, h1, h2, h3, _⟩
  ·exact .inl ⟨nhi h0, h1⟩
  ·exact .inr ⟨k, i, h0, h1, h2, h3⟩
 have cl : (ulo = none ∧ l = 0) ∨ ∃ k i, ulo = some (.int k i) ∧ 0 ≤ i ∧ i ≤ (h : Int) ∧ l = i.toNat := by
  rcases zac hl vlo nlo with ⟨h0, h1⟩ | ⟨k, i, h0, h1, h2, h3, _⟩
  ·exact .inl ⟨nlo h0, h1⟩
  ·exact .inr ⟨k, i, h0, h1, h2, h3⟩
 clear vlo nlo vhi nhi hh hl
 rcases ch with ⟨rfl, rfl⟩ | ⟨k, i, rfl, h1, h2, h3⟩
 ·rcases cl with ⟨rfl, rfl⟩ | ⟨k', j, rfl, h4, h5, h6⟩
  ·refine ⟨?_, by omega, by omega⟩
   simp [Instr.sliceBounds]
  ·refine ⟨?_, by omega, by omega⟩
   subst h6
   simp [Instr.sliceBounds, Instr.sliceBound, asIntOf, h4, h5]
 ·have hc : i ≤ (cap : Int) := by omega
  subst h3
  rcases cl with ⟨rfl, rfl⟩ | ⟨k', j, rfl, h4, h5, h6⟩
  ·refine ⟨?_, by omega, by omega⟩
   simp [Instr.sliceBounds, Instr.sliceBound, asIntOf, h1, hc]
  ·refine ⟨?_, by omega, by omega⟩
   subst h6
   have h5' : j ≤ i := by omega
   have h5'' : j ≤ max i 0 := by omega
   simp [Instr.sliceBounds, Instr.sliceBound, asIntOf, h1, hc, h4, h5', h5'']
end
section
variable {P : Program} {S : zB} {ρ : Nat → Nat} {A : Nat → Prop} {w w' : World}
theorem z6x (hI : Inv P S ρ A w) {t e : TypeId} {n : Nat} {x y : V} {lo hi : Option V} {u : Value} {ulo uhi : Option Value} (h : wJ P S n e x lo hi = some y) (hx : RepV P S ρ A w x u)
  (vlo : ∀ x, lo = some x → ∃ z, ulo = some z ∧ RepV P S ρ A w x z) (nlo : lo = none → ulo = none) (vhi : ∀ x, hi = some x → ∃ z, uhi = some z ∧ RepV P S ρ A w x z) (nhi : hi = none → uhi = none)
  (hs : ∀ a, sz P e = some 1 → ∀ l h, (Instr.sliceBounds false n n ulo uhi none).run P w = .ok (l, h, n) w → (Instr.sliceAt t (.pointer (some a)) ulo uhi none).run P w = .ok (.slice (some (if n = l then a else a.add (l * 1))) (h - l) (n - l)) w) :
  ∃ r, (Instr.sliceAt t u ulo uhi none).run P w = .ok r w ∧ RepW P S ρ A w y r := by
 unfold wJ at h
 split at h
 ·rename_i hcond
  simp only [Bool.and_eq_true, beq_iff_eq, Bool.not_eq_eq_eq_not, Bool.not_true] at hcond
  split at h
  ·rename_i hb hhb
   split at h
   ·rename_i l hlb
    obtain ⟨e1, e2, e3⟩ := z3e (P := P) (S := S) (ρ := ρ) (A := A) (w := w) (Nat.le_refl n) false hhb hlb vlo nlo vhi nhi
    split at h
    ·rename_i id ix off
     have hx := (zM rfl).1 ((qD rfl).1 hx)
     simp only [zU, List.cons.injEq, and_true] at hx
     obtain ⟨a, rfl, hpl⟩ := hx
     split at h
     ·rename_i xs e' ho
      split at h
      ·rename_i k hk
       split at h
       ·rename_i hok
        simp only [Option.some.injEq] at h; subst h
        unfold RefPl at hpl
        simp only [ho] at hpl
        obtain ⟨k', hk', rfl, hlt⟩ := hpl
        rw [hk] at hk'; cases hk'
        refine ⟨_, hs _ hcond.1 _ _ e1, (zM rfl).2 ?_⟩
        simp only [zU]
        refine ⟨_, _, rfl, ?_⟩
        unfold CellPl
        simp only [ho]
        refine ⟨k, hk, ?_, hlt, by omega, by omega⟩
        by_cases hc : n = l
        ·right; omega
        ·left; simp [hc, Addr.add_lit, Nat.add_assoc]
       ·cases h
      ·cases h
     ·cases h
    ·rename_i z
     split at h
     ·rename_i hz
      simp only [Bool.and_eq_true, decide_eq_true_eq] at hz
      simp only [Option.some.injEq] at h; subst h
      have hx := (zF rfl).1 (jP.1 hx)
      simp only [RepC, List.cons.injEq, and_true] at hx
      obtain ⟨⟨b, off, sp⟩, us, rfl, hsp, hA, hc, hr⟩ := hx
      simp only at hsp; subst hsp
      have hl := jZ hr
      refine ⟨_, hs _ hcond.1 _ _ e1, jW.2 ((zF rfl).2 ?_)⟩
      have hlen : ((z.cells.take hb).drop l).length = hb - l := by simp; omega
      simp only [RepC, hlen]
      refine ⟨_, _, rfl, by omega, ?_⟩
      by_cases hcl : n = l
      ·left; exact List.length_eq_zero_iff.1 (by rw [hlen]; omega)
      ·right
       refine ⟨⟨b, off + l, none⟩, 1, (us.take hb).drop l, by simp [hcl, Addr.add_lit], rfl, hA, ?_, z2h (z2j l (z2f hb (wL hr)))⟩
       have := hc.take l (hb - l)
       rwa [← List.drop_take] at this
     ·cases h
    ·cases h
   ·cases h
  ·cases h
 ·cases h
theorem zl8 {xs : List D} {e : TypeId} (hf : xs.all (z18 P e) = true) {k : Nat} (hk : xs ≠ [] → sz P e = some k) {a : Option Addr} {cap l h : Nat} (hcap : xs.length ≤ cap) (hlh : l ≤ h) (hh : h ≤ xs.length)
  (hr : xs = [] ∨ ∃ b off k us, a = some ⟨b, off, none⟩ ∧ A b ∧ CellsAt w b off us ∧ RepE A w k xs us) :
  RepX A w (.sl ((xs.take h).drop l)) (.slice (if cap = l then a else a.map (·.add (l * k))) (h - l) (cap - l)) := by
 have hlen : ((xs.take h).drop l).length = h - l := by simp; omega
 refine (zF rfl).2 ?_
 simp only [RepC, hlen]
 refine ⟨_, _, rfl, by omega, ?_⟩
 by_cases hc : cap = l
 ·left; exact List.length_eq_zero_iff.1 (by rw [hlen]; omega)
 ·rcases hr with rfl | ⟨b, off, k', us, rfl, hA, hcat, hE⟩
  ·left; simp
  ·cases xs with
   | nil => left; simp
   | cons x r =>
    right
    have hk' : k' = k := by
     have h1 := hk (by simp)
     have h2 := (z69 (List.all_eq_true.1 hf x (by simp))).2
     simp only [RepE] at hE
     obtain ⟨u1, u2, _, h3, h4, _⟩ := hE
     have h5 := jZ h4
     rw [h1] at h2; simp at h2; omega
    subst hk'
    obtain ⟨g1, _⟩ := vN h hh hE
    obtain ⟨_, g2⟩ := vN l (by rw [List.length_take]; omega) g1
    refine ⟨⟨b, off + l * k', none⟩, k', _, by simp [hc, Addr.add_lit], rfl, hA, ?_, g2⟩
    have := hcat.take (l * k') ((h * k') - (l * k'))
    rwa [← List.drop_take] at this
theorem zj1 (hI : Inv P S ρ A w) {t : TypeId} {x y : V} {lo hi : Option V} {u : Value} {ulo uhi : Option Value} (h : wN P S t x lo hi = some y) (hx : RepV P S ρ A w x u)
  (vlo : ∀ x, lo = some x → ∃ z, ulo = some z ∧ RepV P S ρ A w x z) (nlo : lo = none → ulo = none) (vhi : ∀ x, hi = some x → ∃ z, uhi = some z ∧ RepV P S ρ A w x z) (nhi : hi = none → uhi = none) :
  ∃ r, (Instr.sliceAt t u ulo uhi none).run P w = .ok r w ∧ RepW P S ρ A w y r := by
 unfold wN at h
 split at h
 ·rename_i hu
  split at h
  ·rename_i s
   split at h
   ·rename_i hb hhb
    split at h
    ·rename_i l hlb
     simp only [Option.some.injEq] at h; subst h
     have hs : (⟨s.toArray⟩ : ByteArray).size = s.length := by simp [ByteArray.size]
     obtain ⟨e1, e2, e3⟩ := z3e (P := P) (S := S) (ρ := ρ) (A := A) (w := w) (Nat.le_refl s.length) false hhb hlb vlo nlo vhi nhi
     rw [z39 hx]
     refine ⟨.string ⟨((s.take hb).drop l).toArray⟩, ?_, zmr⟩
     have hex : (⟨s.toArray⟩ : ByteArray).extract l hb = ⟨((s.take hb).drop l).toArray⟩ := by
      ext1
      simp [List.drop_take]
     simp [Instr.sliceAt, Instr.slice, run_underlying hu, hs, e1, hex]
    ·cases h
   ·cases h
  ·cases h
 ·rename_i e hu
  have frozen : ∀ xs : List D, xs.all (z18 P e) = true → ∀ hb l, kC xs.length hi xs.length = some hb → kC hb lo 0 = some l → ∀ a cap, xs.length ≤ cap → u = .slice a xs.length cap →
    (xs = [] ∨ ∃ b off k us, a = some ⟨b, off, none⟩ ∧ A b ∧ CellsAt w b off us ∧ RepE A w k xs us) → (sz P e).isSome = true →
    ∃ a', (Instr.sliceAt t u ulo uhi none).run P w = .ok (.slice a' (hb - l) (cap - l)) w ∧ RepX A w (.sl ((xs.take hb).drop l)) (.slice a' (hb - l) (cap - l)) ∧ l ≤ hb ∧ hb ≤ xs.length := by
   intro xs hf hb l hhb hlb a cap hcap hua hr hsz
   obtain ⟨k, hk⟩ := Option.isSome_iff_exists.1 hsz
   obtain ⟨e1, e2, e3⟩ := z3e (P := P) (S := S) (ρ := ρ) (A := A) (w := w) hcap true hhb hlb vlo nlo vhi nhi
   subst hua
   refine ⟨_, ?_, zl8 hf (fun _ => hk) hcap e2 e3 hr, e2, e3⟩
   simp [Instr.sliceAt, Instr.slice, run_underlying hu, e1, run_sizeOf hk]
  split at h
  ·rename_i xs
   split at h
   ·rename_i hb hhb
    split at h
    ·rename_i l hlb
     split at h
     ·rename_i hf
      simp only [Option.some.injEq] at h; subst h
      obtain ⟨a, cap, hua, hcap, hr⟩ := z92 (jP.1 hx)
      simp only [Bool.and_eq_true] at hf
      obtain ⟨a', e1, e2, _, _⟩ := frozen xs hf.1 hb l hhb hlb a cap hcap hua hr hf.2
      exact ⟨_, e1, jW.2 e2⟩
     ·cases h
    ·cases h
   ·cases h
  ·rename_i xs
   split at h
   ·rename_i hb hhb
    split at h
    ·rename_i l hlb
     split at h
     ·rename_i hf
      obtain ⟨a, hua, hx'⟩ := zcu hx
      obtain ⟨a2, cap, hua2, hcap, hr⟩ := z92 hx'
      rw [hua] at hua2
      simp only [Value.slice.injEq] at hua2
      obtain ⟨rfl, _, rfl⟩ := hua2
      simp only [Bool.and_eq_true] at hf
      obtain ⟨a', e1, e2, e3, e4⟩ := frozen xs hf.1 hb l hhb hlb a _ (Nat.le_refl _) hua hr hf.2
      refine ⟨_, e1, ?_⟩
      simp only [Option.some.injEq] at h; subst h
      by_cases hx2 : hb = xs.length
      ·subst hx2
       simp only [if_true]
       refine (zM rfl).2 ?_
       simp only [zU]
       have e2' := (zF rfl).1 e2
       rw [List.take_length] at e2'
       exact ⟨a', by simp, e2'⟩
      ·rw [if_neg hx2]
       exact jW.2 e2
     ·cases h
    ·cases h
   ·cases h
  ·rename_i id off len
   split at h
   ·rename_i hb hhb
    split at h
    ·rename_i l hlb
     split at h
     ·rename_i hrow
      simp only [Bool.and_eq_true] at hrow
      simp only [Option.some.injEq] at h; subst h
      obtain ⟨k, hk⟩ := Option.isSome_iff_exists.1 hrow.2
      have hx := (zM rfl).1 ((qD rfl).1 hx)
      simp only [zU, List.cons.injEq, and_true] at hx
      obtain ⟨a, cap, rfl, hpl⟩ := hx
      have hrow1 := hrow.1
      unfold RowPl at hpl
      unfold rowT at hrow1
      have fin : ∀ n, (∃ k, sz P e = some k ∧ (a = some ⟨ρ id, off * k, none⟩ ∨ cap = 0) ∧ off + len ≤ n ∧ len ≤ cap ∧ ∃ c e' f, w.heap[ρ id]? = some (.cells c e' f) ∧ (off + cap) * k ≤ c.size) →
        ∃ a', (Instr.sliceAt t (.slice a len cap) ulo uhi none).run P w = .ok (.slice a' (hb - l) (cap - l)) w ∧ (∃ k, sz P e = some k ∧ (a' = some ⟨ρ id, (off + l) * k, none⟩ ∨ cap - l = 0) ∧ off + l + (hb - l) ≤ n ∧ hb - l ≤ cap - l ∧ ∃ c e' f, w.heap[ρ id]? = some (.cells c e' f) ∧ (off + l + (cap - l)) * k ≤ c.size) := by
       rintro n ⟨k', hk', ha, h3, h4, c, e', f, h5, h6⟩
       rw [hk] at hk'; cases hk'
       obtain ⟨e1, e2, e3⟩ := z3e (P := P) (S := S) (ρ := ρ) (A := A) (w := w) h4 true hhb hlb vlo nlo vhi nhi
       refine ⟨(if cap = l then a else a.map (·.add (l * k))), by simp [Instr.sliceAt, Instr.slice, run_underlying hu, e1, run_sizeOf hk], k, hk, ?_, by omega, by omega, c, e', f, h5, by rw [show off + l + (cap - l) = off + cap by omega]; exact h6⟩
       by_cases hc : cap = l
       ·right; omega
       ·left
        rcases ha with rfl | ha
        ·simp [hc, Addr.add_lit, Nat.add_mul]
        ·omega
      cases ho : S[id]? with
      | none => simp [ho] at hpl
      | some o =>
       simp only [ho] at hpl hrow1
       cases o with
       | row xs e' =>
        simp only [beq_iff_eq] at hrow1; subst hrow1
        obtain ⟨a', e1, e2⟩ := fin _ hpl
        refine ⟨_, e1, (zM rfl).2 ?_⟩
        simp only [zU]
        exact ⟨_, _, rfl, by unfold RowPl; simp only [ho]; exact e2⟩
       | fz xs e' =>
        simp only [beq_iff_eq] at hrow1; subst hrow1
        obtain ⟨a', e1, e2⟩ := fin _ hpl
        refine ⟨_, e1, (zM rfl).2 ?_⟩
        simp only [zU]
        exact ⟨_, _, rfl, by unfold RowPl; simp only [ho]; exact e2⟩
       | _ => simp at hrow1
     ·cases h
    ·cases h
   ·cases h
  ·cases h
 ·rename_i arr hu
  split at h
  ·rename_i n e hua
   exact z6x hI h hx vlo nlo vhi nhi (fun a hk l h' e1 => by simp [Instr.sliceAt, Instr.slice, run_underlying hu, run_underlying hua, asAddr, e1, run_sizeOf hk])
  ·cases h
 ·rename_i n e hu
  exact z6x hI h hx vlo nlo vhi nhi (fun a hk l h' e1 => by simp [Instr.sliceAt, Instr.sureAddr, run_underlying hu, e1, run_sizeOf hk])
 ·cases h
end
section
variable {P : Program} {S : zB} {ρ : Nat → Nat} {A : Nat → Prop} {w w' : World}
theorem zag (hI : Inv P S ρ A w) {x : V} {ys : List V} {u : Value} (h : kK S x = some ys) (hx : RepV P S ρ A w x u) :
  (∃ s, x = .d (.str s) ∧ u = .string ⟨s.toArray⟩ ∧ ys = s.map fun b => .d (.int .u8 b.toNat)) ∨
  (∃ a cap k us, u = .slice a ys.length cap ∧ ys.length ≤ cap ∧ qS P S ρ A w k ys us ∧ (ys = [] ∨ ∃ b off, a = some ⟨b, off, none⟩ ∧ CellsAt w b off us)) := by
 have frozen : ∀ xs : List D, RepX A w (.sl xs) u → ∃ a cap k us, u = .slice a (xs.map V.d).length cap ∧ (xs.map V.d).length ≤ cap ∧ qS P S ρ A w k (xs.map V.d) us ∧ (xs.map V.d = [] ∨ ∃ b off, a = some ⟨b, off, none⟩ ∧ CellsAt w b off us) := by
  intro xs hx
  obtain ⟨a, cap, rfl, h1, h2⟩ := z92 hx
  rcases h2 with rfl | ⟨b, off, k, us, rfl, _, h3, h4⟩
  ·exact ⟨a, cap, 0, [], by simp, by simp, by simp [qS], .inl rfl⟩
  ·exact ⟨_, cap, k, us, by simp, by simpa using h1, z5s h4, .inr ⟨b, off, rfl, h3⟩⟩
 unfold kK at h
 split at h
 ·simp only [Option.some.injEq] at h; subst h
  exact .inr (frozen _ (jP.1 hx))
 ·simp only [Option.some.injEq] at h; subst h
  obtain ⟨_, _, hx'⟩ := zcu hx
  exact .inr (frozen _ hx')
 ·rename_i id off len
  right
  have hx := (zM rfl).1 ((qD rfl).1 hx)
  simp only [zU, List.cons.injEq, and_true] at hx
  obtain ⟨a, cap, rfl, hpl⟩ := hx
  unfold RowPl at hpl
  cases ho : S[id]? with
  | none => simp [ho] at h
  | some o =>
   have hok := hI.ok id o ho
   simp only [ho] at hpl h
   cases o with
   | row xs e =>
    simp only at h hpl
    split at h
    ·rename_i hle
     simp only [Option.some.injEq] at h; subst h
     obtain ⟨k, hk, ha, h3, h4, _⟩ := hpl
     simp only [ObOk] at hok
     obtain ⟨k', c, us, rest, hk', hh, hcl, hre⟩ := hok
     rw [hk] at hk'; cases hk'
     have hlen : ((xs.drop off).take len).length = len := by simp; omega
     refine ⟨a, cap, k, (us.drop (off * k)).take (len * k), by rw [hlen], by omega, (kS len (by simp; omega) (kS off (by omega) hre).2).1, ?_⟩
     rcases ha with rfl | ha
     ·exact .inr ⟨_, _, rfl, qP hh hcl _ _⟩
     ·exact .inl (List.length_eq_zero_iff.1 (by rw [hlen]; omega))
    ·cases h
   | fz xs e =>
    simp only at h hpl
    split at h
    ·rename_i hle
     simp only [Option.some.injEq] at h; subst h
     obtain ⟨k, hk, ha, h3, h4, _⟩ := hpl
     simp only [ObOk] at hok
     obtain ⟨k', c, f, us, rest, hk', _, hh, hcl, hre⟩ := hok
     rw [hk] at hk'; cases hk'
     have hlen : (((xs.drop off).take len).map V.d).length = len := by simp; omega
     refine ⟨a, cap, k, (us.drop (off * k)).take (len * k), by rw [hlen], by omega, z5s (vN len (by simp; omega) (vN off (by omega) hre).2).1, ?_⟩
     rcases ha with rfl | ha
     ·exact .inr ⟨_, _, rfl, qP hh hcl _ _⟩
     ·exact .inl (List.length_eq_zero_iff.1 (by rw [hlen]; omega))
    ·cases h
   | _ => simp at h
 ·rename_i id ix off len
  right
  have hx := (zM rfl).1 ((qD rfl).1 hx)
  simp only [zU, List.cons.injEq, and_true] at hx
  obtain ⟨a, cap, rfl, hpl⟩ := hx
  unfold CellPl at hpl
  cases ho : S[id]? with
  | none => simp [ho] at h
  | some o =>
   have hok := hI.ok id o ho
   simp only [ho] at hpl h
   cases o with
   | row xs e =>
    simp only at h hpl
    cases hxi : xs[ix]? with
    | none => simp [hxi] at h
    | some z =>
     simp only [hxi] at h
     split at h
     ·rename_i hle
      simp only [Bool.and_eq_true, decide_eq_true_eq] at hle
      simp only [Option.some.injEq] at h; subst h
      obtain ⟨k, hk, ha, h3, h4, h5⟩ := hpl
      simp only [ObOk] at hok
      obtain ⟨k', c, us, rest, hk', hh, hcl, hre⟩ := hok
      rw [hk] at hk'; cases hk'
      obtain ⟨g1, g2⟩ := z1k hre ix z hxi
      have gl := jE g1
      simp only [List.length_take, List.length_drop] at gl
      have hlen : ((z.cells.drop off).take len).length = len := by simp; omega
      have g3 := z9a (z0g len (z0f off (kV g1)))
      refine ⟨a, cap, 1, _, by rw [hlen], by omega, g3, ?_⟩
      rcases ha with rfl | ha
      ·refine .inr ⟨_, _, rfl, ?_⟩
       have := qP hh hcl (ix * k + off) len
       rw [List.drop_take, List.take_take, List.drop_drop, show min len (k - off) = len by omega]
       exact this
      ·exact .inl (List.length_eq_zero_iff.1 (by rw [hlen]; omega))
     ·cases h
   | fz xs e =>
    simp only at h hpl
    cases hxi : xs[ix]? with
    | none => simp [hxi] at h
    | some z =>
     simp only [hxi] at h
     split at h
     ·rename_i hle
      simp only [Bool.and_eq_true, decide_eq_true_eq] at hle
      simp only [Option.some.injEq] at h; subst h
      obtain ⟨k, hk, ha, h3, h4, h5⟩ := hpl
      simp only [ObOk] at hok
      obtain ⟨k', c, f, us, rest, hk', _, hh, hcl, hre⟩ := hok
      rw [hk] at hk'; cases hk'
      obtain ⟨g1, g2⟩ := z3q hre ix z hxi
      have gl := jZ g1
      simp only [List.length_take, List.length_drop] at gl
      have hlen : (((z.cells.drop off).take len).map V.d).length = len := by simp; omega
      have g3 := z5s (P := P) (S := S) (ρ := ρ) (z2h (z2f len (z2j off (wL g1))))
      refine ⟨a, cap, 1, _, by rw [hlen], by omega, g3, ?_⟩
      rcases ha with rfl | ha
      ·refine .inr ⟨_, _, rfl, ?_⟩
       have := qP hh hcl (ix * k + off) len
       rw [List.drop_take, List.take_take, List.drop_drop, show min len (k - off) = len by omega]
       exact this
      ·exact .inl (List.length_eq_zero_iff.1 (by rw [hlen]; omega))
     ·cases h
   | _ => simp at h
 ·rename_i s
  simp only [Option.some.injEq] at h; subst h
  exact .inl ⟨s, rfl, z39 hx, rfl⟩
 ·cases h
theorem z99 : ∀ (s : List UInt8), qS P S ρ A w 1 (s.map fun b => .d (.int .u8 b.toNat)) (s.map fun b => .int .u8 b.toNat)
 | [] => by simp [qS]
 | b :: r => by
  simp only [List.map_cons, qS]
  exact ⟨[.int .u8 b.toNat], _, rfl, rfl, by simp [zU, RepC], z99 r⟩
theorem z2z {k : Nat} {z : V} {us : Array Value} (hz : zU P S ρ A w z us.toList) (hk : us.size = k) : ∀ n, qS P S ρ A w k (List.replicate n z) ((Array.range (n * k)).map (fun i => us[i % k]!)).toList
 | 0 => by simp [qS]
 | n + 1 => by
  have ih := z2z hz hk n
  simp only [List.replicate_succ, qS]
  rcases Nat.eq_zero_or_pos k with h0 | hp
  ·subst h0
   refine ⟨us.toList, [], ?_, by simpa using hk, hz, by simpa using ih⟩
   have : us.toList = [] := List.length_eq_zero_iff.1 (by simpa using hk)
   simp [this]
  ·refine ⟨us.toList, _, ?_, by simpa using hk, hz, ih⟩
   have e : (n + 1) * k = k + n * k := by rw [Nat.succ_mul, Nat.add_comm]
   apply List.ext_getElem?
   intro i
   rw [e]
   by_cases hi : i < k
   ·rw [List.getElem?_append_left (by simpa [hk] using hi)]
    have hi2 : i < k + n * k := by omega
    have hius : i < us.size := by omega
    simp [hi2, Nat.mod_eq_of_lt hi, hius, getElem!_pos us i hius]
   ·rw [List.getElem?_append_right (by simp [hk]; omega)]
    simp only [Array.length_toList, hk, Array.toList_map, Array.toList_range, List.getElem?_map, List.getElem?_range']
    by_cases hj : i < k + n * k
    ·have hj2 : i - k < n * k := by omega
     have hm : i % k = (i - k) % k := by
      conv => lhs; rw [show i = (i - k) + k by omega, Nat.add_mod_right]
     simp [hj, hj2, hm]
    ·have hj2 : ¬ i - k < n * k := by omega
     simp [hj, hj2]
def SrcG (P : Program) (e : TypeId) (k : Nat) (tx : TypeId) (u : Value) (n : Nat) (us : List Value) (w : World) : Prop :=
 Src P k tx u n us w ∨ (P.underlying tx = some (.int .i64) ∧ u = .int .i64 (n : Int) ∧ 1 ≤ n ∧ n ≤ 1000000 ∧ k ≠ 0 ∧ (∀ v ∈ us, v.oneCell' = true) ∧ us.length = n * k ∧ ∃ i z, P.info? e = some i ∧ i.size = k ∧ i.zero = some z ∧ z.cells.size = k ∧ us = (Builtin.zeroCells z.cells n).toList)
theorem SrcG.src {e : TypeId} {k : Nat} {tx : TypeId} {u : Value} {us : List Value} (h : SrcG P e k tx u 0 us w) : Src P k tx u 0 us w := by
 rcases h with h | ⟨_, _, h1, _⟩
 ·exact h
 ·omega
theorem zk6 (hI : Inv P S ρ A w) {e tx : TypeId} {x : V} {ys : List V} {u : Value} (hu : P.underlying tx = some (.int .i64)) (h : zkl P e x = some ys) (hx : RepV P S ρ A w x u) :
  ∃ k us, sz P e = some k ∧ qS P S ρ A w k ys us ∧ SrcG P e k tx u ys.length us w := by
 unfold zkl at h
 split at h
 ·rename_i n
  split at h
  ·rename_i hn
   split at h
   ·rename_i z hz
    split at h
    ·rename_i hf
     simp only [Bool.and_eq_true] at hf
     simp only [Option.some.injEq] at h; subst h
     rw [vM hx]
     obtain ⟨k, hk⟩ := Option.isSome_iff_exists.1 hf.1.2
     have hk0 : k ≠ 0 := by
      rintro rfl
      have := hf.2
      simp [hk] at this
     obtain ⟨i, d, hi, hik, hd⟩ := z38 hk
     unfold zeroV at hz
     simp only [hi, Option.bind_some] at hz
     cases hzz : i.zero with
     | none => simp [hzz] at hz
     | some z0 =>
      simp only [hzz, Option.bind_some] at hz
      have hzr := z0j (P := P) (S := S) (ρ := ρ) (A := A) (w := w) hz
      have hzc := jJ hzr
      have h3 := (z1f hf.1.1).2.2
      have hzl : z0.cells.size = k := by
       have := jE hzc
       simp only [Array.length_toList] at this
       rw [hk] at h3
       simp only [Option.some.injEq] at h3
       omega
      have hrow := z2z hzc hzl n.toNat
      have e1 : ((Array.range (n.toNat * k)).map fun i => z0.cells[i % k]!) = Builtin.zeroCells z0.cells n.toNat := by
       unfold Builtin.zeroCells
       rw [hzl]
      rw [e1] at hrow
      refine ⟨k, _, hk, hrow, .inr ⟨hu, ?_, ?_, ?_, hk0, z3h hrow, qZ hrow, i, z0, hi, hik, hzz, hzl, ?_⟩⟩
      ·rw [List.length_replicate, Int.toNat_of_nonneg (by omega)]
      ·rw [List.length_replicate]; omega
      ·rw [List.length_replicate]; omega
      ·rw [List.length_replicate]
    ·cases h
   ·cases h
  ·cases h
 ·cases h
theorem zh9 (hI : Inv P S ρ A w) {e tx : TypeId} {x : V} {ys : List V} {u : Value} (h : srcV P S e tx x = some ys) (hx : RepV P S ρ A w x u) :
  ∃ k us, sz P e = some k ∧ qS P S ρ A w k ys us ∧ SrcG P e k tx u ys.length us w ∧ (intT P tx = false → Src P k tx u ys.length us w ∧ ∀ m, m ≤ ys.length → (Builtin.firstCells k m u).run P w = .ok (us.take (m * k)).toArray w) := by
 suffices hh : (∃ k us, sz P e = some k ∧ qS P S ρ A w k ys us ∧ Src P k tx u ys.length us w ∧ ∀ m, m ≤ ys.length → (Builtin.firstCells k m u).run P w = .ok (us.take (m * k)).toArray w) ∨ (intT P tx = true ∧ ∃ k us, sz P e = some k ∧ qS P S ρ A w k ys us ∧ SrcG P e k tx u ys.length us w) by
  rcases hh with ⟨k, us, h1, h2, h3, h4⟩ | ⟨hi, k, us, h1, h2, h3⟩
  ·exact ⟨k, us, h1, h2, .inl h3, fun _ => ⟨h3, h4⟩⟩
  ·exact ⟨k, us, h1, h2, h3, fun h => by rw [hi] at h; cases h⟩
 unfold srcV at h
 split at h
 ·rename_i s
  split at h
  ·rename_i hu
   split at h
   ·rename_i hk
    simp only [Option.some.injEq] at h; subst h
    rw [z39 hx]
    have := Src.ofString w hu (⟨s.toArray⟩ : ByteArray)
    have hs : (⟨s.toArray⟩ : ByteArray).size = s.length := by simp [ByteArray.size]
    have hb : byteCells (⟨s.toArray⟩ : ByteArray) = s.map fun b => Value.int .u8 b.toNat := by simp [byteCells]
    rw [hs, hb] at this
    refine .inl ⟨1, _, hk, z99 s, by simpa using this, fun m hm => ?_⟩
    simp only [Builtin.firstCells, Sem.run_pure, Result.ok.injEq, and_true, Nat.mul_one]
    apply Array.ext'
    simp [List.map_take]
   ·cases h
  ·cases h
 ·rename_i hns
  split at h
  ·rename_i e' hu
   cases hel : kK S x with
   | none => simp [hel] at h
   | some zs =>
    simp only [hel] at h
    split at h
    ·rename_i hf
     simp only [Bool.and_eq_true] at hf
     simp only [Option.some.injEq] at h; subst h
     obtain ⟨k, hk⟩ := Option.isSome_iff_exists.1 hf.2
     rcases zag hI hel hx with ⟨s, rfl, _⟩ | ⟨a, cap, k', us, rfl, hcap, hE, hc⟩
     ·exact absurd rfl (hns s)
     ·cases zs with
      | nil =>
       simp only [qS] at hE; subst hE
       refine .inl ⟨k, [], hk, by simp [qS], ?_⟩
       have nocells : ∀ w' : World, (Builtin.firstCells k 0 (.slice a 0 cap)).run P w' = .ok #[] w' := fun w' => by
        cases a with
        | none => simp [Builtin.firstCells]
        | some a => simp [Builtin.firstCells, loadCells, loadCellsFrom]
       exact ⟨⟨.inl ⟨e', hu⟩, fun _ => rfl, nocells w, nocells w.drew, by simp, by simp⟩, fun m hm => by
        have : m = 0 := by simpa using hm
        subst this
        simpa using nocells w⟩
      | cons z r =>
       have hkk : k' = k := by
        have h2 := (z1f (List.all_eq_true.1 hf.1 z (by simp))).2.2
        simp only [qS] at hE
        obtain ⟨u1, u2, _, h3, h4, _⟩ := hE
        have h5 := jE h4
        rw [hk] at h2; simp at h2; omega
       subst hkk
       rcases hc with hc | ⟨b, off, rfl, hc⟩
       ·cases hc
       ·refine .inl ⟨k', us, hk, hE, Src.ofSlice w hu _ _ _ us (by rw [qZ hE]) (fun j v hv => hc.cell hv) (z3h hE), fun m hm => ?_⟩
        have hl := qZ hE
        refine run_firstCells_some w k' m _ _ _ _ (by rw [List.length_take, hl]; exact Nat.min_eq_left (Nat.mul_le_mul_right _ hm)) (fun j v hv => ?_)
        rw [List.getElem?_take] at hv
        split at hv
        ·exact hc.cell hv
        ·cases hv
    ·cases h
  ·rename_i hu
   exact .inr ⟨by simp [intT, hu], zk6 hI hu h hx⟩
  ·cases h
theorem z34 {t tx ty e : TypeId} {i : TypeInfo} {z : Value} (ht : P.underlying t = some (.slice e)) (hi : P.info? e = some i) (hk : P.underlying tx = some (.int .i64)) (hz : i.zero = some z) {b sLen sCap n : Nat} {news : List Value} (hn1 : 1 ≤ n) (hn2 : n ≤ 1000000) (hs0 : i.size ≠ 0) (h48 : n * i.bytes ≤ 281474976710656) (hnews : news = (Builtin.zeroCells z.cells n).toList) (hone : ∀ u ∈ news, u.oneCell' = true)
  (hroom : sLen + n ≤ sCap) {c : Array Value} {e' : TypeId} (hh : w.heap[b]? = some (.cells c e' (0, 0))) (hfit : sLen * i.size + news.length ≤ c.size) :
  (Builtin.append_ #[t, tx] ty #[.slice (some ⟨b, 0, none⟩) sLen sCap, .int .i64 (n : Int)]).run P w = .ok (.slice (some ⟨b, 0, none⟩) (sLen + n) sCap) (w.setRow b (c.toList.take (sLen * i.size) ++ news ++ c.toList.drop (sLen * i.size + news.length)).toArray) := by
 have hst := run_storeCells_at P b (sLen * i.size) e' news 0 c w hh (by simpa using hfit) hone
 simp only [Nat.add_zero] at hst
 have wn : IntKind.i64.wrap (n : Int) = (n : Int) := IntWalk.i64_in _ (by omega)
 have h1 : ¬ ((n : Int) < 0) := by omega
 have h2 : ¬ (281474976710656 < (n : Int) * (i.bytes : Int)) := by
  have : (n : Int) * (i.bytes : Int) = ((n * i.bytes : Nat) : Int) := by rw [Int.natCast_mul]
  rw [this]; omega
 have h3 : ¬ n * i.size = 0 := by
  intro h
  rcases Nat.mul_eq_zero.1 h with h | h <;> omega
 have h4 : ¬ (n = 0 ∨ i.size = 0) := by omega
 subst hnews
 simp [Builtin.append_, run_underlying ht, run_underlying hk, sizeOf, typeInfo, zeroValue, hi, hz, asInt, asIntOf, wn, h1, h2, h3, h4, hroom, Addr.add_lit, hst]
theorem z4h {t tx ty e : TypeId} {i : TypeInfo} (ht : P.underlying t = some (.slice e)) (hi : P.info? e = some i) {b sLen sCap n : Nat} {x : Value} {news : List Value} (hs : Src P i.size tx x n news w)
  (hroom : sLen + n ≤ sCap) {c : Array Value} {e' : TypeId} (hh : w.heap[b]? = some (.cells c e' (0, 0))) (hfit : sLen * i.size + news.length ≤ c.size) :
  (Builtin.append_ #[t, tx] ty #[.slice (some ⟨b, 0, none⟩) sLen sCap, x]).run P w = .ok (.slice (some ⟨b, 0, none⟩) (sLen + n) sCap) (w.setRow b (c.toList.take (sLen * i.size) ++ news ++ c.toList.drop (sLen * i.size + news.length)).toArray) := by
 have hst := run_storeCells_at P b (sLen * i.size) e' news 0 c w hh (by simpa using hfit) hs.one
 simp only [Nat.add_zero] at hst
 rcases hs.kind with ⟨e2, hk⟩ | hk <;> simp [Builtin.append_, run_underlying ht, run_underlying hk, sizeOf, typeInfo, hi, hs.len, hroom, hs.cells, Addr.add_lit, hst]
theorem z2u {t tx ty e : TypeId} {i : TypeInfo} {z : Value} (ht : P.underlying t = some (.slice e)) (hi : P.info? e = some i) (hk : P.underlying tx = some (.int .i64)) (hz : i.zero = some z) (base : Option Addr) (sLen sCap : Nat) (olds : List Value)
  (hold : (Builtin.firstCells i.size sLen (.slice base sLen sCap)).run P w.drew = .ok olds.toArray w.drew) (n : Nat) (news : List Value) (hn1 : 1 ≤ n) (hn2 : n ≤ 1000000) (hs0 : i.size ≠ 0) (h48 : n * i.bytes ≤ 281474976710656) (hnews : news = (Builtin.zeroCells z.cells n).toList)
  (hg : sCap < sLen + n) (h63 : ((sLen + n : Nat) : Int) ≤ 9223372036854775807) (hfit : Builtin.nextslicecap (sLen + n) sCap * i.bytes ≤ 281474976710656) :
  (Builtin.append_ #[t, tx] ty #[.slice base sLen sCap, .int .i64 (n : Int)]).run P w =
   .ok (.slice (some ⟨w.heap.size, 0, none⟩) (sLen + n) (grownCap w (sLen + n) sCap e))
    (w.drew.alloc (.cells ((olds ++ news).toArray ++ Builtin.zeroCells z.cells (grownCap w (sLen + n) sCap e - (sLen + n))) e)) := by
 have hn : ¬ (sLen + n ≤ sCap) := by omega
 have h63' : ¬ (9223372036854775807 < ((sLen : Int) + (n : Int))) := by omega
 have h48' : ¬ (281474976710656 < Builtin.nextslicecap (sLen + n) sCap * i.bytes) := by omega
 have wn : IntKind.i64.wrap (n : Int) = (n : Int) := IntWalk.i64_in _ (by omega)
 have h1 : ¬ ((n : Int) < 0) := by omega
 have h2 : ¬ (281474976710656 < (n : Int) * (i.bytes : Int)) := by
  have : (n : Int) * (i.bytes : Int) = ((n * i.bytes : Nat) : Int) := by rw [Int.natCast_mul]
  rw [this]; omega
 have h4 : ¬ (n = 0 ∨ i.size = 0) := by omega
 subst hnews
 simp [Builtin.append_, run_underlying ht, run_underlying hk, sizeOf, typeInfo, zeroValue, hi, hz, asInt, asIntOf, wn, h1, h2, h4, hn, h63', h48', Question.forced, hold, newRow, grownCap]
 have h5 : ¬ n * i.size = 0 := by
  intro h
  rcases Nat.mul_eq_zero.1 h with h | h <;> omega
 have e5 : ∀ q : Array Value, olds.toArray ++ (Builtin.zeroCells z.cells n ++ q) = (olds ++ (Builtin.zeroCells z.cells n).toList).toArray ++ q := by
  intro q
  apply Array.ext'
  simp [List.append_assoc]
 rw [if_neg h5, e5]
theorem z6s {t tx ty e : TypeId} {i : TypeInfo} (ht : P.underlying t = some (.slice e)) (hi : P.info? e = some i) {b sLen sCap n : Nat} {x : Value} {news : List Value} (hs : SrcG P e i.size tx x n news w) (h48 : n * i.bytes ≤ 281474976710656)
  (hroom : sLen + n ≤ sCap) {c : Array Value} {e' : TypeId} (hh : w.heap[b]? = some (.cells c e' (0, 0))) (hfit : sLen * i.size + news.length ≤ c.size) :
  (Builtin.append_ #[t, tx] ty #[.slice (some ⟨b, 0, none⟩) sLen sCap, x]).run P w = .ok (.slice (some ⟨b, 0, none⟩) (sLen + n) sCap) (w.setRow b (c.toList.take (sLen * i.size) ++ news ++ c.toList.drop (sLen * i.size + news.length)).toArray) := by
 rcases hs with hs | ⟨hk, rfl, hn1, hn2, hk0, hone, hl, i', z, hi', hik, hz, hzs, hnews⟩
 ·exact z4h ht hi hs hroom hh hfit
 ·rw [hi] at hi'; cases hi'
  exact z34 ht hi hk hz hn1 hn2 hk0 h48 hnews hone hroom hh hfit
theorem z66 {t tx ty e : TypeId} {i : TypeInfo} {z : Value} (ht : P.underlying t = some (.slice e)) (hi : P.info? e = some i) (hz : i.zero = some z) (base : Option Addr) (sLen sCap : Nat) (olds : List Value)
  (hold : (Builtin.firstCells i.size sLen (.slice base sLen sCap)).run P w.drew = .ok olds.toArray w.drew) (x : Value) (n : Nat) (news : List Value) (hs : SrcG P e i.size tx x n news w) (h48 : n * i.bytes ≤ 281474976710656)
  (hg : sCap < sLen + n) (h63 : ((sLen + n : Nat) : Int) ≤ 9223372036854775807) (hfit : Builtin.nextslicecap (sLen + n) sCap * i.bytes ≤ 281474976710656) :
  (Builtin.append_ #[t, tx] ty #[.slice base sLen sCap, x]).run P w =
   .ok (.slice (some ⟨w.heap.size, 0, none⟩) (sLen + n) (grownCap w (sLen + n) sCap e))
    (w.drew.alloc (.cells ((olds ++ news).toArray ++ Builtin.zeroCells z.cells (grownCap w (sLen + n) sCap e - (sLen + n))) e)) := by
 rcases hs with hs | ⟨hk, rfl, hn1, hn2, hk0, hone, hl, i', z', hi', hik, hz', hzs, hnews⟩
 ·exact run_append_grow_src w t tx ty e i z ht hi hz base sLen sCap olds hold x n news hs hg h63 hfit
 ·rw [hi] at hi'; cases hi'
  rw [hz] at hz'; cases hz'
  exact z2u ht hi hk hz base sLen sCap olds hold n news hn1 hn2 hk0 h48 hnews hg h63 hfit
theorem z5e {e : TypeId} {n : Nat} {i : TypeInfo} (h : room P e n = true) (hi : P.info? e = some i) : n * i.bytes ≤ 140737488355328 ∧ n ≤ 9223372036854775807 := by
 simpa [room, bytesOf, hi] using h
theorem zqr {e : TypeId} {i : TypeInfo} (h : zOk P e = true) (hi : P.info? e = some i) : ∃ z, i.zero = some z ∧ z.cells.size = i.size := by
 unfold zOk at h
 cases hz : zeroV P e with
 | none => simp [hz] at h
 | some v =>
  simp only [hz] at h
  unfold zeroV at hz
  simp only [hi, Option.bind_some] at hz
  cases hzz : i.zero with
  | none => simp [hzz] at hz
  | some z =>
   simp only [hzz, Option.bind_some] at hz
   obtain ⟨_, k, hk, h1, _⟩ := wZ (P := P) (S := []) (ρ := fun _ => 0) (A := fun _ => False) (w := default) h (zV (z0j hz))
   obtain ⟨i', _, hi', hk', _⟩ := z38 hk
   rw [hi] at hi'; cases hi'
   exact ⟨z, rfl, by omega⟩
theorem zen (hI : Inv P S ρ A w) {t tx ty : TypeId} {s x y : V} {S' : zB} {c : Nat} {us ux : Value} (h : qN P S t tx s x = some (y, S', c)) (hs : RepV P S ρ A w s us) (hx : RepV P S ρ A w x ux) :
  ∃ v w' ρ', (Builtin.append_ #[t, tx] ty #[us, ux]).run P w = .ok v w' ∧ Inv P S' ρ' A w' ∧ Step S ρ A w S' ρ' A w' ∧ RepW P S' ρ' A w' y v := by
 unfold qN at h
 split at h
 ·rename_i e hu
  cases hsrc : srcV P S e tx x with
  | none => simp [hsrc] at h
  | some ys =>
   obtain ⟨k, news, hk, hE, hsr, _⟩ := zh9 hI hsrc hx
   obtain ⟨i, d, hi, hik, hd⟩ := z38 hk
   subst hik
   simp only [hsrc] at h
   cases ys with
   | nil =>
    simp only at h
    simp only [qS] at hE; subst hE
    have nothing : ∀ a n cap, n ≤ cap → us = .slice a n cap → (Builtin.append_ #[t, tx] ty #[us, ux]).run P w = .ok us w := fun a n cap hle he => by
     subst he; exact run_append_nothing w t tx ty e i hu hi a n cap hle ux (SrcG.src (by simpa using hsr))
    split at h <;> simp only [Option.some.injEq, Prod.mk.injEq, reduceCtorEq] at h
    ·rename_i xs
     obtain ⟨rfl, rfl, rfl⟩ := h
     obtain ⟨a, he, _⟩ := zcu hs
     exact ⟨us, w, ρ, nothing a _ _ (Nat.le_refl _) he, hI, .refl, (qD rfl).1 hs⟩
    ·rename_i id off len
     obtain ⟨rfl, rfl, rfl⟩ := h
     have hs' := (qD rfl).1 hs
     have hs2 := (zM rfl).1 hs'
     simp only [zU, List.cons.injEq, and_true] at hs2
     obtain ⟨a, cap, he, hpl⟩ := hs2
     have hle : len ≤ cap := by
      unfold RowPl at hpl
      cases ho : S[id]? with
      | none => simp [ho] at hpl
      | some o =>
       simp only [ho] at hpl
       cases o <;> first | exact hpl.elim | exact hpl | (obtain ⟨_, _, _, _, h4, _⟩ := hpl; exact h4)
     exact ⟨us, w, ρ, nothing a _ _ hle he, hI, .refl, hs'⟩
    ·rename_i xs
     obtain ⟨rfl, rfl, rfl⟩ := h
     obtain ⟨a, cap, he, hle, _⟩ := z92 (jP.1 hs)
     exact ⟨us, w, ρ, nothing a _ _ hle he, hI, .refl, (qD rfl).1 hs⟩
   | cons y0 r =>
    simp only at h
    split at h
    ·rename_i hz
     obtain ⟨z0, hz0, hzc⟩ := zqr hz hi
     have grow : ∀ (S1 : zB) (ρ1 : Nat → Nat) (old : List V) (base : Option Addr) (cap : Nat) (olds : List Value), Inv P S1 ρ1 A w → qS P S1 ρ1 A w i.size old olds → qS P S1 ρ1 A w i.size (y0 :: r) news → us = .slice base old.length cap → cap < old.length + (r.length + 1) → room P e (old.length + (r.length + 1)) = true →
       (base = none ∧ old = [] ∨ ∃ a, base = some a ∧ ∀ j u, olds[j]? = some u → w.cell? (a.add j) = some u) →
       ∃ v w', (Builtin.append_ #[t, tx] ty #[us, ux]).run P w = .ok v w' ∧ ∃ ρ', Inv P (S1 ++ [.row (old ++ y0 :: r) e]) ρ' A w' ∧ Step S1 ρ1 A w (S1 ++ [.row (old ++ y0 :: r) e]) ρ' A w' ∧ RepW P (S1 ++ [.row (old ++ y0 :: r) e]) ρ' A w' (.rs S1.length 0 (old.length + (r.length + 1))) v := by
      intro S1 ρ1 old base cap olds hI1 hold hnew he hcap hroom hb
      obtain ⟨r1, r2⟩ := z5e hroom hi
      have hol := qZ hold
      have hld : (Builtin.firstCells i.size old.length (.slice base old.length cap)).run P w.drew = .ok olds.toArray w.drew := by
       rcases hb with ⟨rfl, rfl⟩ | ⟨a, rfl, ha⟩
       ·simp only [qS] at hold; subst hold
        exact run_firstCells_none w.drew i.size 0 0 cap
       ·exact run_firstCells_some w.drew i.size old.length a old.length cap olds hol (by simpa using ha)
      have hrun := z66 (ty := ty) hu hi hz0 base old.length cap olds hld ux (r.length + 1) news (by simpa using hsr) (by rw [Nat.add_mul] at r1; omega) hcap (by omega) (growslice_fits hcap r1)
      rw [← he] at hrun
      refine ⟨_, _, hrun, ?_⟩
      obtain ⟨g1, g2⟩ := hI1.push (o := .row (old ++ y0 :: r) e) (w' := w.drew.alloc (.cells ((olds ++ news).toArray ++ Builtin.zeroCells z0.cells (grownCap w (old.length + (r.length + 1)) cap e - (old.length + (r.length + 1)))) e)) rfl (by simp) (fun b hb => kN _ hb) rfl rfl rfl (fun hss hA => by
       simp only [ObOk]
       refine ⟨i.size, _, olds ++ news, (Builtin.zeroCells z0.cells (grownCap w (old.length + (r.length + 1)) cap e - (old.length + (r.length + 1)))).toList, hk, jK (w := w.drew) _, by simp, ?_⟩
       exact vV (jI (fun _ h => h) hA hss _ _ _ hold) (jI (fun _ h => h) hA hss _ _ _ hnew))
      refine ⟨_, g1, g2, (zM rfl).2 ?_⟩
      simp only [zU]
      refine ⟨_, _, rfl, ?_⟩
      unfold RowPl
      simp only [List.getElem?_concat_length]
      have hg := grownCap_ge w (old.length + (r.length + 1)) cap e
      have hnl := qZ hnew
      refine ⟨i.size, hk, .inl ?_, by simp, hg, _, e, (0, 0), by simp only [if_true]; exact jK (w := w.drew) _, ?_⟩
      ·simp
      ·simp only [Array.size_append, List.size_toArray, List.length_append, size_zeroCells, hol, hnl, List.length_cons]
       rw [hzc]
       have : grownCap w (old.length + (r.length + 1)) cap e = (old.length + (r.length + 1)) + (grownCap w (old.length + (r.length + 1)) cap e - (old.length + (r.length + 1))) := by omega
       generalize grownCap w (old.length + (r.length + 1)) cap e - (old.length + (r.length + 1)) = q at *
       rw [this]
       simp only [Nat.zero_add, Nat.add_mul]
       omega
     split at h
     ·rename_i xs
      split at h
      ·rename_i hf
       simp only [Bool.and_eq_true] at hf
       simp only [Option.some.injEq, Prod.mk.injEq] at h
       obtain ⟨rfl, rfl, rfl⟩ := h
       obtain ⟨a, he, hxs⟩ := zcu hs
       obtain ⟨a2, cap2, he2, _, hr⟩ := z92 hxs
       rw [he] at he2
       simp only [Value.slice.injEq] at he2
       obtain ⟨rfl, _, rfl⟩ := he2
       have hl : (xs.map V.d).length = xs.length := by simp
       rcases hr with rfl | ⟨b, off, k', olds, rfl, _, hc, hE0⟩
       ·obtain ⟨v, w', e1, ρ', e2, e3, e4⟩ := grow S ρ [] a 0 [] hI (by simp [qS]) hE (by simpa using he) (by simp) (by simpa using hf.2) (by
         cases a with
         | none => exact .inl ⟨rfl, rfl⟩
         | some a => exact .inr ⟨a, rfl, by simp⟩)
        exact ⟨v, w', ρ', e1, by simpa using e2, by simpa using e3, by simpa using e4⟩
       ·cases xs with
        | nil =>
         simp only [RepE] at hE0; subst hE0
         obtain ⟨v, w', e1, ρ', e2, e3, e4⟩ := grow S ρ [] _ 0 [] hI (by simp [qS]) hE (by simpa using he) (by simp) (by simpa using hf.2) (.inr ⟨_, rfl, by simp⟩)
         exact ⟨v, w', ρ', e1, by simpa using e2, by simpa using e3, by simpa using e4⟩
        | cons x0 r0 =>
         have hkk : k' = i.size := by
          have h2 := (z69 (List.all_eq_true.1 hf.1 x0 (by simp))).2
          simp only [RepE] at hE0
          obtain ⟨u1, u2, _, h3, h4, _⟩ := hE0
          have h5 := jZ h4
          rw [hk] at h2; simp at h2; omega
         subst hkk
         obtain ⟨v, w', e1, ρ', e2, e3, e4⟩ := grow S ρ ((x0 :: r0).map V.d) _ _ olds hI (z5s hE0) hE (by rw [hl]; exact he) (by simp) (by rw [hl]; exact hf.2) (.inr ⟨_, rfl, fun j u hu => hc.cell hu⟩)
         rw [hl] at e4
         exact ⟨v, w', ρ', e1, e2, e3, e4⟩
      ·cases h
     ·rename_i id off len
      cases ho : S[id]? with
      | none => simp [ho] at h
      | some o =>
       simp only [ho] at h
       cases o with
       | row xs e' =>
        simp only at h
        split at h
        ·rename_i hf
         simp only [Bool.and_eq_true, decide_eq_true_eq] at hf
         obtain ⟨⟨⟨rfl, hee⟩, hle⟩, hroom⟩ := hf
         subst hee
         simp only [Option.some.injEq, Prod.mk.injEq] at h
         obtain ⟨rfl, rfl, rfl⟩ := h
         have hok := hI.ok id _ ho
         have hs2 := (zM rfl).1 ((qD rfl).1 hs)
         simp only [zU, List.cons.injEq, and_true] at hs2
         obtain ⟨a, cap, he, hpl⟩ := hs2
         unfold RowPl at hpl
         simp only [ho] at hpl
         obtain ⟨k2, hk2, ha, h3, h4, c2, e2, f2, h5, h6⟩ := hpl
         rw [hk] at hk2; cases hk2
         simp only [ObOk] at hok
         obtain ⟨k3, c, olds, rest, hk3, hh, hcl, hre⟩ := hok
         rw [hk] at hk3; cases hk3
         rw [hh] at h5
         simp only [Option.some.injEq, Obj.cells.injEq] at h5
         rw [← h5.1] at h6
         have hol := qZ hre
         have hcs : c.size = olds.length + rest.length := by rw [← Array.length_toList, hcl, List.length_append]
         have hnl := qZ hE
         have hpre := (kS len hle hre).1
         by_cases hcap : len + (r.length + 1) ≤ cap
         ·
          have ha' : a = some ⟨ρ id, 0, none⟩ := by
           rcases ha with ha | ha
           ·simpa using ha
           ·omega
          subst ha'
          subst he
          have hfit : len * i.size + news.length ≤ c.size := by
           rw [hnl]
           have : (len + (r.length + 1)) * i.size ≤ cap * i.size := Nat.mul_le_mul_right _ hcap
           simp only [List.length_cons, Nat.zero_add] at h6 ⊢
           rw [Nat.add_mul] at this
           omega
          have hrun := z6s (ty := ty) hu hi (by simpa using hsr) (by have r1 := (z5e hroom hi).1; rw [Nat.add_mul] at r1; omega) hcap hh hfit
          obtain ⟨g1, g2⟩ := hI.move (o' := .row (xs.take len ++ y0 :: r) e') (w' := w.setRow (ρ id) (c.toList.take (len * i.size) ++ news ++ c.toList.drop (len * i.size + news.length)).toArray) ho rfl (by simp) (fun b hb => setRow_other w _ b _ hb) rfl rfl rfl rfl (fun hss hA => by
           simp only [ObOk]
           refine ⟨i.size, _, olds.take (len * i.size) ++ news, c.toList.drop (len * i.size + news.length), hk, setRow_heap w _ _ _ _ _ hh, ?_, ?_⟩
           ·rw [List.toList_toArray, hcl, List.take_append_of_le_length (by rw [hol]; exact Nat.mul_le_mul_right _ hle)]
           ·exact vV (jI (fun _ h => h) hA hss _ _ _ hpre) (jI (fun _ h => h) hA hss _ _ _ hE))
          refine ⟨_, _, _, hrun, g1, g2, (zM rfl).2 ?_⟩
          simp only [zU]
          refine ⟨_, _, rfl, ?_⟩
          unfold RowPl
          rw [List.getElem?_append_right (by simp)]
          simp only [List.length_set, Nat.sub_self, List.getElem?_cons_zero]
          refine ⟨i.size, hk, .inl (by simp), by simp; omega, hcap, _, _, _, by simp only [if_true]; exact setRow_heap w _ _ _ _ _ hh, ?_⟩
          simp only [List.size_toArray, List.length_append, List.length_take, List.length_drop, Array.length_toList]
          have := hfit
          simp only [Nat.zero_add] at h6 ⊢
          omega
         ·
          obtain ⟨g1, g2⟩ := hI.turn (o' := .dead) (w' := w) ho rfl (by simp [Ob.le]) rfl (fun _ _ => rfl) (.inl rfl) rfl rfl rfl (.inr rfl) (fun _ _ => trivial)
          have hlen : (xs.take len).length = len := by simp; omega
          have hb : a = none ∧ xs.take len = [] ∨ ∃ a', a = some a' ∧ ∀ j u, (olds.take (len * i.size))[j]? = some u → w.cell? (a'.add j) = some u := by
           rcases ha with rfl | ha
           ·refine .inr ⟨_, rfl, fun j u hu => ?_⟩
            have := qP hh hcl 0 (len * i.size)
            simp only [List.drop_zero] at this
            simpa using this.cell hu
           ·have : len = 0 := by omega
            subst this
            cases a with
            | none => exact .inl ⟨rfl, by simp⟩
            | some a => exact .inr ⟨a, rfl, by simp⟩
          obtain ⟨v, w', e1, ρ', e2, e3, e4⟩ := grow (S.set id .dead) ρ (xs.take len) a cap (olds.take (len * i.size)) g1 (jI (fun _ h => h) (fun _ _ => rfl) g2.sle _ _ _ hpre) (jI (fun _ h => h) (fun _ _ => rfl) g2.sle _ _ _ hE) (by rw [hlen]; exact he) (by rw [hlen]; omega) (by rw [hlen]; exact hroom) hb
          rw [hlen, List.length_set] at e4
          exact ⟨v, w', ρ', e1, e2, g2.trans e3, e4⟩
        ·cases h
       | _ => simp at h
     ·cases h
    ·cases h
 ·cases h
theorem zno (hI : Inv P S ρ A w) {t tx ty : TypeId} {s x y : V} {S' : zB} {us ux : Value} (h : copyV P S t tx s x = some (y, S')) (hs : RepV P S ρ A w s us) (hx : RepV P S ρ A w x ux) :
  ∃ v w', (Builtin.copy_ #[t, tx] ty #[us, ux]).run P w = .ok v w' ∧ Inv P S' ρ A w' ∧ Step S ρ A w S' ρ A w' ∧ RepW P S' ρ A w' y v := by
 unfold copyV at h
 split at h
 ·rename_i e hu
  split at h
  ·cases h
  rename_i hni
  have hni : intT P tx = false := by simpa using hni
  cases hsrc : srcV P S e tx x with
  | none => simp [hsrc] at h
  | some ys =>
   obtain ⟨k, news, hk, hE, _, hG⟩ := zh9 hI hsrc hx
   obtain ⟨hsr, hfirst⟩ := hG hni
   simp only [hsrc] at h
   split at h
   ·rename_i id off len
    cases ho : S[id]? with
    | none => simp [ho] at h
    | some o =>
     simp only [ho] at h
     cases o with
     | row xs e' =>
      simp only at h
      split at h
      ·rename_i hf
       simp only [Bool.and_eq_true, decide_eq_true_eq] at hf
       obtain ⟨hee, hle⟩ := hf
       subst hee
       simp only [Option.some.injEq, Prod.mk.injEq] at h
       obtain ⟨rfl, rfl⟩ := h
       have hok := hI.ok id _ ho
       have hs2 := (zM rfl).1 ((qD rfl).1 hs)
       simp only [zU, List.cons.injEq, and_true] at hs2
       obtain ⟨a, cap, rfl, hpl⟩ := hs2
       unfold RowPl at hpl
       simp only [ho] at hpl
       obtain ⟨k2, hk2, ha, h3, h4, c2, e2, f2, h5, h6⟩ := hpl
       rw [hk] at hk2; cases hk2
       simp only [ObOk] at hok
       obtain ⟨k3, c, olds, rest, hk3, hh, hcl, hre⟩ := hok
       rw [hk] at hk3; cases hk3
       have hol := qZ hre
       have hcs : c.size = olds.length + rest.length := by rw [← Array.length_toList, hcl, List.length_append]
       have hnl := qZ hE
       generalize hm : min ys.length len = m
       have hm1 : m ≤ ys.length := by omega
       have hm2 : m ≤ len := by omega
       obtain ⟨hE1, _⟩ := kS m hm1 hE
       have hE1l : (news.take (m * k)).length = m * k := by
        rw [List.length_take, hnl]; exact Nat.min_eq_left (Nat.mul_le_mul_right _ hm1)
       have hlen : (Builtin.lenOf ux).run P w = .ok ys.length w := hsr.len w
       have hfc := hfirst m hm1
       have hone := z3h hE1
       by_cases hc0 : a = some ⟨ρ id, off * k, none⟩
       ·subst hc0
        have hmk : (off + m) * k ≤ xs.length * k := Nat.mul_le_mul_right _ (by omega)
        rw [Nat.add_mul] at hmk
        have hst := run_storeCells_at P (ρ id) (off * k) e' (news.take (m * k)) 0 c w hh (by rw [hE1l]; omega) hone
        simp only [Nat.add_zero, hE1l] at hst
        refine ⟨goInt m, w.setRow (ρ id) (c.toList.take (off * k) ++ news.take (m * k) ++ c.toList.drop (off * k + m * k)).toArray, ?_, ?_⟩
        ·have hmin : Nat.min ys.length len = m := hm
         simp [Builtin.copy_, run_underlying hu, hlen, run_sizeOf hk, hmin, hfc, hst]
        ·obtain ⟨g1, g2⟩ := hI.turn (o' := .row (xs.take off ++ ys.take m ++ xs.drop (off + m)) e') (w' := w.setRow (ρ id) (c.toList.take (off * k) ++ news.take (m * k) ++ c.toList.drop (off * k + m * k)).toArray) ho rfl ⟨by simp; omega, rfl⟩ (by simp) (fun b hb => setRow_other w _ b _ hb) (.inr fun c0 e0 f0 hc0 => by
           rw [hh] at hc0; cases hc0
           refine ⟨_, _, _, setRow_heap w _ _ _ _ _ hh, ?_⟩
           simp only [List.size_toArray, List.length_append, List.length_drop, Array.length_toList, hE1l]
           rw [List.length_take, Array.length_toList]
           omega) rfl rfl rfl (.inl rfl) (fun hss hA => by
           simp only [ObOk]
           refine ⟨k, _, olds.take (off * k) ++ news.take (m * k) ++ olds.drop (off * k + m * k), rest, hk, setRow_heap w _ _ _ _ _ hh, ?_, ?_⟩
           ·rw [List.toList_toArray, hcl, List.take_append_of_le_length (by omega), List.drop_append_of_le_length (by omega)]
            simp [List.append_assoc]
           ·have e1 := (kS off (by omega) hre).1
            have e2 := (kS (off + m) (by omega) hre).2
            rw [Nat.add_mul] at e2
            exact vV (vV (jI (fun _ h => h) hA hss _ _ _ e1) (jI (fun _ h => h) hA hss _ _ _ hE1)) (jI (fun _ h => h) hA hss _ _ _ e2))
         exact ⟨g1, g2, z8s⟩
       ·have hcap0 : cap = 0 := by
         rcases ha with ha | ha
         ·exact absurd ha hc0
         ·exact ha
        have hm0 : m = 0 := by omega
        subst hm0
        have hsame : S.set id (Ob.row (xs.take off ++ ys.take 0 ++ xs.drop (off + 0)) e') = S := by
         simp only [List.take_zero, List.append_nil, Nat.add_zero, List.take_append_drop]
         apply List.ext_getElem?
         intro j
         rw [List.getElem?_set]
         by_cases hj : id = j
         ·subst hj
          have hlt : id < S.length := by
           rcases Nat.lt_or_ge id S.length with h' | h'
           ·exact h'
           ·simp [List.getElem?_eq_none h'] at ho
          rw [if_pos rfl, if_pos hlt, ho]
         ·simp [hj]
        rw [hsame]
        refine ⟨goInt (0 : Nat), w, ?_, hI, .refl, z8s⟩
        have hmin : Nat.min ys.length len = 0 := hm
        simp only [Nat.zero_mul, List.take_zero] at hfc
        cases a with
        | none => simp [Builtin.copy_, run_underlying hu, hlen, run_sizeOf hk, hmin, hfc]
        | some a => simp [Builtin.copy_, run_underlying hu, hlen, run_sizeOf hk, hmin, hfc, storeCells]
      ·cases h
     | _ => simp at h
   ·cases h
 ·cases h
end
end Go.Vm
end
