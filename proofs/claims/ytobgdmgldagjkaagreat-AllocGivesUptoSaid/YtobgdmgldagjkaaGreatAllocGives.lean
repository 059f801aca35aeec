/- AllocGives, where what it reads is of bulk at most 1048576: behind any steps, Give makes the change that it should, tells what let go of the block, and all is there behind a sync. -/
import Derived.Test.YtobgdmgldagjkaaGreatRows
import Derived.Test.YtobgdmgldagjkaaGreatV11
import Derived.JoinedCond
namespace Go.Proofs.YtobgdmgldagjkaaGreat
open Go.ChangeShapes Go.WideShapes Go.ChangeAt Go.RowKit Go.Vm
theorem Tryz.own : ownKnob Tryz.prog.godebug = Option.none := by kernel_rfl
theorem Tryz.laidOut : laidOutB Tryz.prog = true := by kernel_rfl
def layTy : Ty := .agg [.int .i64, .int .i64, .int .u64]
theorem lay_ty {x : D} (h : HasTy layTy x) : ∃ l : Lay, x = encLay l ∧ InB l.blocks ∧ InB l.inodes ∧ 0 ≤ l.merge ∧ l.merge < 18446744073709551616 := by
  unfold layTy at h
  simp only [HasTy, HasL] at h
  obtain ⟨_, rfl, _, _, rfl, ⟨a, rfl, a1, a2⟩, _, _, rfl, ⟨b, rfl, b1, b2⟩, _, _, rfl, ⟨c, rfl, c1, c2⟩, rfl⟩ := h
  have c2 : c ≤ 18446744073709551615 := c2
  exact ⟨⟨a, b, c⟩, rfl, ⟨a1, a2⟩, ⟨b1, b2⟩, c1, (by show c < 18446744073709551616; omega)⟩
theorem ints_ty : ∀ {xs : List D}, (∀ y ∈ xs, HasTy (.int .i64) y) → ∃ b : List Int, xs = b.map (.int .i64)
  | [], _ => ⟨[], rfl⟩
  | x :: r, h => by
    obtain ⟨b, rfl⟩ := ints_ty (xs := r) fun y hy => h y (List.mem_cons_of_mem _ hy)
    have hx := h x List.mem_cons_self
    simp only [HasTy] at hx
    obtain ⟨n, rfl, n0, n1⟩ := hx
    exact ⟨n :: b, rfl⟩
theorem byte_ty {n : Int} (n0 : 0 ≤ n) (n1 : n ≤ 255) : ∃ b : UInt8, D.int .u8 n = byD b := by
  refine ⟨UInt8.ofNat n.toNat, ?_⟩
  have : ((UInt8.ofNat n.toNat).toNat : Int) = n := by rw [UInt8.toNat_ofNat']; omega
  unfold byD
  rw [this]
def stpATy : Ty := .agg [.int .i64, .int .i64, .int .u8, .sl (.int .i64)]
theorem stpA_ty {x : D} (h : HasTy stpATy x) : ∃ s : StpA, x = encStpA s := by
  unfold stpATy at h
  simp only [HasTy, HasL] at h
  obtain ⟨_, rfl, _, _, rfl, ⟨a, rfl, _, _⟩, _, _, rfl, ⟨b, rfl, _, _⟩, _, _, rfl, ⟨c, rfl, c1, c2⟩, _, _, rfl, ⟨g, rfl, _, hg⟩, rfl⟩ := h
  obtain ⟨gi, rfl⟩ := ints_ty (xs := g) (fun y hy => by simp only [HasTy]; exact hg y hy)
  obtain ⟨cb, hcb⟩ := byte_ty c1 c2
  rw [hcb]
  exact ⟨⟨a, b, cb, gi⟩, rfl⟩
theorem stpsA_ty : ∀ {xs : List D}, (∀ y ∈ xs, HasTy stpATy y) → ∃ l : List StpA, xs = l.map encStpA
  | [], _ => ⟨[], rfl⟩
  | x :: r, h => by
    obtain ⟨l, rfl⟩ := stpsA_ty (xs := r) fun y hy => h y (List.mem_cons_of_mem _ hy)
    obtain ⟨s, rfl⟩ := stpA_ty (h x List.mem_cons_self)
    exact ⟨s :: l, rfl⟩
theorem len2' {α : Type} {l : List α} (h : l.length = 2) : ∃ a b, l = [a, b] := by
  match l, h with
  | [a, b], _ => exact ⟨a, b, rfl⟩
theorem len3' {α : Type} {l : List α} (h : l.length = 3) : ∃ a b c, l = [a, b, c] := by
  match l, h with
  | [a, b, c], _ => exact ⟨a, b, c, rfl⟩
theorem repL_cons {A : Nat → Prop} {w : World} {x : D} {r : List D} {cs : List Value} (h : RepL A w (x :: r) cs) : ∃ v us, cs = v :: us ∧ x.isAgg = false ∧ RepC A w x [v] ∧ RepL A w r us := by simpa only [RepL] using h
theorem repL4 {A : Nat → Prop} {w : World} {x0 x1 x2 x3 : D} {cs : List Value} (h : RepL A w [x0, x1, x2, x3] cs) : cs.length = 4 := by
  simp only [RepL] at h
  obtain ⟨_, _, rfl, _, _, _, _, rfl, _, _, _, _, rfl, _, _, _, _, rfl, _, _, rfl⟩ := h
  rfl
theorem repS_cons {A : Nat → Prop} {w : World} {x : D} {r : List D} {v : Value} {us : List Value} (h : RepS A w (x :: r) (v :: us)) : ((x.isAgg = true ∧ ∃ us, v = .agg us ∧ RepC A w x us.toList) ∨ (x.isAgg = false ∧ RepC A w x [v])) ∧ RepS A w r us := by
  simp only [RepS] at h
  obtain ⟨v', us', e, h1, h2⟩ := h
  cases e
  exact ⟨h1, h2⟩
section
variable {H : Type} {enc : TypeId × Value → H} {w : World} {base : Nat} {spare : Nat → Bool} {held : Bool}
theorem one_bulk (d : DataW H) : 1 ≤ Rows.uptoBulk d := by
  cases d with
  | lit l => cases l <;> simp [Rows.uptoBulk]
  | _ => simp [Rows.uptoBulk]
theorem part_bulk {d : DataW H} {l : List (DataW H)} (h : d ∈ l) : Rows.uptoBulk d ≤ Rows.uptoBulkAll l := by
  induction l with
  | nil => cases h
  | cons x r ih =>
    simp only [Rows.uptoBulkAll]
    rcases List.mem_cons.1 h with e | e
    · subst e; omega
    · have := ih e; omega
theorem len_bulk (l : List (DataW H)) : l.length ≤ Rows.uptoBulkAll l := by
  induction l with
  | nil => simp [Rows.uptoBulkAll]
  | cons x r ih => have := one_bulk x; simp only [Rows.uptoBulkAll, List.length_cons]; omega
theorem ints_bulk {fuel : Nat} {c : Value} {z : DataW H × List MemPlace} {xs : List Int} (h : DataW.trod enc Tryz.prog w base spare held fuel 22 [c] = some z) (hr : RepC (Old w) w (encI xs) [c]) : xs.length ≤ Rows.uptoBulk z.1 := by
  unfold encI at hr
  simp only [RepC] at hr
  obtain ⟨a, cap, e, _, _⟩ := hr
  rw [List.length_map] at e
  rcases Go.Deep.open_slice Tryz.underlying22 h with ⟨h1, _⟩ | ⟨ad, len, cap', m, n, D, Pl, h1, _, _, _, _, rfl, _⟩
  · rw [h1] at e
    simp only [List.cons.injEq, Value.slice.injEq, and_true] at e
    omega
  · rw [h1] at e
    simp only [List.cons.injEq, Value.slice.injEq, and_true] at e
    have := len_bulk ((List.range len).map D)
    rw [List.length_map, List.length_range] at this
    simp only [Rows.uptoBulk]
    omega
set_option maxRecDepth 100000 in
theorem stp_bulk {fuel : Nat} {cs : List Value} {z : DataW H × List MemPlace} {s : StpA} (h : DataW.trod enc Tryz.prog w base spare held fuel 39 cs = some z) (hr : RepC (Old w) w (encStpA s) cs) : s.needs.length ≤ Rows.uptoBulk z.1 := by
  unfold encStpA at hr
  have hr : RepL (Old w) w [.int .i64 s.do_, .int .i64 s.no, byD s.byte, encI s.needs] cs := by simpa only [RepC] using hr
  obtain ⟨v0, r0, e0, _, _, hr⟩ := repL_cons hr
  obtain ⟨v1, r1, e1, _, _, hr⟩ := repL_cons hr
  obtain ⟨v2, r2, e2, _, _, hr⟩ := repL_cons hr
  obtain ⟨v3, r3, e3, _, h3, hr⟩ := repL_cons hr
  subst e3 e2 e1 e0
  obtain ⟨xs, n, _, rfl, hl, hlen, hf⟩ := DataW.trod_struct Tryz.underlying39 h
  have hx := hf 3 _ rfl
  cases hg : xs[3]? with
  | none => rw [List.getElem?_eq_none_iff] at hg; rw [hlen] at hg; exact absurd hg (by decide)
  | some z3 =>
    rw [hg] at hx
    have hx : DataW.trod enc Tryz.prog w base spare held n 22 [v3] = some z3 := hx
    have h4 := ints_bulk hx h3
    have h5 := part_bulk (List.mem_map_of_mem (f := (·.1)) (List.mem_of_getElem? hg))
    simp only [Rows.uptoBulk]
    omega
theorem stps_bulk {fuel : Nat} {c : Value} {z : DataW H × List MemPlace} {steps : List StpA} (h : DataW.trod enc Tryz.prog w base spare held fuel 33 [c] = some z) (hr : RepC (Old w) w (.sl (steps.map encStpA)) [c]) : ∀ s ∈ steps, s.needs.length ≤ Rows.uptoBulk z.1 := by
  intro s hs
  simp only [RepC] at hr
  obtain ⟨a, cap, e, _, hor⟩ := hr
  rw [List.length_map] at e
  have hne : steps ≠ [] := List.ne_nil_of_mem hs
  have hpos : 0 < steps.length := List.length_pos_iff.2 hne
  rcases hor with h0 | ⟨ad, k, us, rfl, hsp, _, hcl, hre⟩
  · exact absurd (List.map_eq_nil_iff.1 h0) hne
  rcases Go.Deep.open_slice Tryz.underlying33 h with ⟨h1, _⟩ | ⟨ad', len, cap', m, n, D, Pl, h1, _, hle, _, hm, rfl, hel⟩
  · rw [h1] at e
    simp only [List.cons.injEq, Value.slice.injEq, and_true] at e
    omega
  · rw [h1] at e
    simp only [List.cons.injEq, Value.slice.injEq, and_true, Option.some.injEq] at e
    obtain ⟨rfl, rfl, rfl⟩ := e
    obtain ⟨i, hi⟩ := List.getElem?_of_mem hs
    have hil : i < steps.length := (List.getElem?_eq_some_iff.1 hi).1
    have hlm : steps.length ≤ m := by rw [hm]; split <;> omega
    obtain ⟨cs', g1, g2⟩ := hel i (by omega)
    have hc4 : Tryz.prog.cellsOf 39 = 4 := by kernel_rfl
    rw [hc4] at g1
    obtain ⟨k1, k2⟩ := cells?_spec g1
    obtain ⟨f1, f2⟩ := repE_get hre i (encStpA s) (by rw [List.getElem?_map, hi]; rfl)
    have hk : k = 4 := by
      have hlen : ((us.drop (i * k)).take k).length = 4 := repL4 (by unfold encStpA at f1; simpa only [RepC] using f1)
      rw [List.length_take, List.length_drop] at hlen
      omega
    subst hk
    have hcs : (us.drop (i * 4)).take 4 = cs' := by
      refine List.ext_getElem? fun j => ?_
      by_cases hj : j < 4
      · rw [List.getElem?_take_of_lt hj, List.getElem?_drop]
        have hul : i * 4 + j < us.length := by omega
        have hv := k2 j _ (List.getElem?_eq_getElem (by omega : j < cs'.length))
        obtain ⟨cc, ee, ff, hb, hat⟩ := hcl
        have := hat _ _ (List.getElem?_eq_getElem hul)
        rw [List.getElem?_eq_getElem hul, List.getElem?_eq_getElem (by omega : j < cs'.length)]
        rw [addr_add_add] at hv
        unfold World.cell? at hv
        have hbl : (ad'.add (i * 4 + j)).block = ad'.block := by unfold Addr.add; split <;> rfl
        have hoff : (ad'.add (i * 4 + j)).off = ad'.off + (i * 4 + j) := by unfold Addr.add; split <;> simp_all
        have hspo : (ad'.add (i * 4 + j)).spot = none := by unfold Addr.add; split <;> simp_all
        simp only [hbl, hb, hspo, hoff, this] at hv
        simpa using hv
      · rw [List.getElem?_eq_none (by rw [List.length_take]; omega), List.getElem?_eq_none (by omega)]
    rw [hcs] at f1
    have h4 := stp_bulk g2 f1
    have h5 := part_bulk (List.mem_map_of_mem (f := D) (List.mem_range.2 hil))
    simp only [Rows.uptoBulk]
    have h6 : (D i, Pl i).1 = D i := rfl
    rw [h6] at h4
    omega
end
set_option maxRecDepth 100000 in
theorem allocGives_contract (H : Type) (enc : TypeId × Value → H) (W : World) (base : Nat) (args : Array Value) (ds gs : List (DataW H)) (before : List MemPlace)
    (hval0 : ∀ (j : Nat) t v, Tryz.f7.params[j]? = some t → args[j]? = some v → Value.okWide Tryz.prog W .any base t v)
    (hW : DataW.Whole enc Tryz.prog Tryz.f7.params.toList Rows.allocGivesSpec.vars false W args.toList ds gs before) (hk : Rows.uptoSmall H (ds ++ gs) = true) :
    Calls Tryz.prog 7 args W fun e W' => ∃ v, e = .returned v ∧ Rows.allocGivesSpec.post enc Tryz.prog Tryz.f7 false true false false W args v W' := by
  have hval : ∀ (j : Nat) t v, Tryz.f7.params[j]? = some t → args[j]? = some v → Value.okWide Tryz.prog W .any base t v := hval0
  have hW2 := hW
  obtain ⟨p, q, hA, hV, rfl, hfz, hnd⟩ := hW
  obtain ⟨zs, hz, hr⟩ := open_all (n := 8) (Ts := [layTy, .sl stpATy, .int .i64]) hA (by kernel_rfl) (fun j t v hj hv => hval j t v (by simpa using hj) (by simpa using hv))
  have hz : ∃ y r, zs = y :: r ∧ HasTy layTy y ∧ ∃ y2 r2, r = y2 :: r2 ∧ HasTy (.sl stpATy) y2 ∧ ∃ y3 r3, r2 = y3 :: r3 ∧ HasTy (.int .i64) y3 ∧ r3 = [] := by simpa only [HasL] using hz
  obtain ⟨y, r, rfl, hy, y2, r2, rfl, hy2, y3, r3, rfl, hy3, rfl⟩ := hz
  obtain ⟨l, rfl, hb, hi, hm1, hm2⟩ := lay_ty hy
  unfold HasTy at hy2 hy3
  obtain ⟨xs, rfl, _, hxs⟩ := hy2
  obtain ⟨steps, rfl⟩ := stpsA_ty hxs
  obtain ⟨no, rfl, _, _⟩ := hy3
  have hbk : Rows.uptoBulkAll (ds ++ gs) ≤ 1048576 := of_decide_eq_true hk
  have hsn : ∀ s ∈ steps, s.needs.length ≤ 1048576 := by
    have hA' : DataW.TrodAll enc Tryz.prog W 0 (fun _ => true) true [32, 33, 3] args.toList ds p := hA
    obtain ⟨v0, vs0, d0, ds0, p0, q0, ha0, rfl, rfl, t0, hA1⟩ := trodAll_cons hA'
    obtain ⟨v1, vs1, d1, ds1, p1, q1, ha1, rfl, rfl, t1, hA2⟩ := trodAll_cons hA1
    subst ha1
    rw [ha0] at hr
    have hr1 := (repS_cons (repS_cons hr).2).1
    obtain ⟨fu, t1⟩ := t1
    have hc1 : v1.cells.toList = [v1] ∧ RepC (Old W) W (.sl (steps.map encStpA)) [v1] := by
      rcases hr1 with ⟨h, _⟩ | ⟨_, h⟩
      · cases h
      · refine ⟨?_, h⟩
        simp only [RepC] at h
        obtain ⟨a, cap, e, _⟩ := h
        simp only [List.cons.injEq, and_true] at e
        subst e
        rfl
    rw [hc1.1] at t1
    intro s hs
    have := stps_bulk t1 hc1.2 s hs
    have h2 : Rows.uptoBulk d1 ≤ Rows.uptoBulkAll (d0 :: d1 :: ds1 ++ gs) := part_bulk (by simp)
    have h3 := Nat.le_trans h2 hbk
    exact Nat.le_trans this h3
  obtain ⟨d1, d2, d3, rfl⟩ := len3' (trodAll_len hA)
  have hgs : gs = [] := trodVars_nil rfl hV
  subst hgs
  obtain ⟨m, hn⟩ := gives_ok l hb hi ⟨hm1, hm2⟩ steps no 1048576 (by omega) hsn
  refine (law_calls extZ_ok catchZ_ok hn hr (GlobOk.no (by kernel_rfl))).mono fun e W' ⟨he, hb⟩ => ?_
  subst he
  exact ⟨_, rfl, law_post (t := 4) Tryz.laidOut (by kernel_rfl) hW2 rfl (by kernel_rfl) Tryz.underlying4 rfl hb⟩
set_option maxRecDepth 100000 in
theorem allocGives_lifted (os : Os) (started : os.Started) (H : Type) (enc : TypeId × Value → H) (F : Stop.Interp) :
    ReturnsInHanded {} Tryz.checked os 7 .any ((Rows.OpenSpec.upto Rows.allocGivesSpec).pre6 enc Tryz.prog Tryz.f7 Rows.allocGivesUptoRow.domain false) (((Rows.OpenSpec.upto Rows.allocGivesSpec).at F).post enc Tryz.prog Tryz.f7 false true false false) := by
  refine returnsInHanded_of_cond (C := Tryz.checked) (s := Rows.OpenSpec.upto Rows.allocGivesSpec) (k := Rows.uptoSmall) rfl Tryz.own started (by kernel_rfl) Tryz.func7
    (OpenSpec.witness (enc := enc) (C := Tryz.checked) (s := Rows.OpenSpec.upto Rows.allocGivesSpec) (k := Rows.uptoSmall) rfl false ⟨#[], #[.agg #[.int .i64 0, .int .i64 0, .int .u64 0], .slice Option.none 0 0, .int .i64 0], []⟩ 8 (by kernel_rfl) (by kernel_rfl) (by kernel_rfl)
      (x := ([.agg [.lit (.int .i64 0), .lit (.int .i64 0), .lit (.int .u64 0)], .nil, .lit (.int .i64 0)], [], [])) (by kernel_rfl) rfl (by kernel_rfl)) ?_
  intro W base args ds gs before hval hW _ hk _
  exact allocGives_contract H enc W base args ds gs before hval hW hk
theorem allocGivesUpto_holds : Rows.AllocGivesUptoSaid :=
  OpenClaim.holds_of_cond 7 Tryz.f7 rfl rfl rfl rfl rfl rfl rfl ⟨rfl, rfl, rfl, rfl, rfl⟩ rfl rfl rfl rfl rfl (by kernel_rfl) Tryz.func7 (by kernel_rfl)
    (of_decide_eq_true (by kernel_rfl)) (by unfold Func.isWrapper; first | (rw [if_pos (by decide +kernel)]; kernel_rfl) | (rw [if_neg (by decide +kernel)]; exact ⟨rfl, rfl⟩))
    (fun os started H enc _ F => allocGives_lifted os started H enc F)
end Go.Proofs.YtobgdmgldagjkaaGreat
