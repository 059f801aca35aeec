/- The value machine: regions that draw their order: what may be swapped. -/
import Derived.Test.YtljefklfoieecaaVmV
import Derived.Test.YtljefklfoieecaaVmHc
import Derived.Orders
set_option linter.unusedVariables false
set_option linter.unusedSimpArgs false
namespace Go.Vm
section
variable {P : Program} {S : Store}

theorem opV_congr {T T' : List V} {o : Oper} (h : ∀ x ∈ o.op.operands.toList, evalO T x = evalO T' x) : opV P S T o = opV P S T' o := by
  obtain ⟨dst, op, type, pos, after, guard⟩ := o
  have pairs : ∀ ps : Array (Nat × Operand), (∀ x ∈ ps.toList.map (·.2), evalO T x = evalO T' x) → ps.toList.map (fun p => (p.1, evalO T p.2)) = ps.toList.map fun p => (p.1, evalO T' p.2) := fun ps hp =>
    List.map_congr_left fun p hm => by rw [hp p.2 (List.mem_map.2 ⟨p, hm, rfl⟩)]
  have many : ∀ xs : Array Operand, (∀ x ∈ xs.toList, evalO T x = evalO T' x) → xs.toList.map (evalO T) = xs.toList.map (evalO T') := fun xs hx => List.map_congr_left hx
  cases op <;> simp only [Op.operands] at h <;> simp only [opV]
  case build t ps => rw [pairs ps fun x hx => h x (by simpa using hx)]
  case buildSlice t n ps =>
    have hp := pairs ps fun x hx => h x (by simpa using hx)
    have ha : (ps.toList.all fun p => decide (p.1 < n) && fitsT P (match P.underlying t with | some (.slice e) => e | _ => 0) (evalO T p.2)) = (ps.toList.all fun p => decide (p.1 < n) && fitsT P (match P.underlying t with | some (.slice e) => e | _ => 0) (evalO T' p.2)) := by
      have := congrArg (fun l => l.all fun (p : Nat × V) => decide (p.1 < n) && fitsT P (match P.underlying t with | some (.slice e) => e | _ => 0) p.2) hp
      simpa [List.all_map] using this
    cases hu : P.underlying t with
    | none => rfl
    | some td =>
      cases td <;> simp only
      rename_i e
      simp only [hu] at ha
      rw [hp, ha]
  case makeFunc fn first captured =>
    rw [many first fun x hx => h x (by simp at hx ⊢; exact .inl hx), many captured fun x hx => h x (by simp at hx ⊢; exact .inr hx)]
  case call c =>
    have h2 := many c.args fun x hx => h x (by simp [Call.operands] at hx ⊢; exact .inr hx)
    cases hc : c.callee with
    | value f => simp only; rw [h f (by simp [Call.operands, hc]), h2]
    | invoke r m => rfl
    | builtin b => simp only [h2]
  case defer c =>
    have h2 := many c.args fun x hx => h x (by simp [Call.operands] at hx ⊢; exact .inr hx)
    cases hc : c.callee with
    | value f => simp only; rw [h f (by simp [Call.operands, hc]), h2]
    | invoke r m => rfl
    | builtin b => rfl
  case slice t x lo hi mx =>
    cases mx with
    | some m => rfl
    | none => cases lo <;> cases hi <;> simp_all
  case next it b => cases b <;> simp_all
  all_goals (first | rfl | (simp_all; done))

theorem addO_congr {T T' : List V} {o : Oper} (h : ∀ x ∈ o.op.operands.toList, evalO T x = evalO T' x) : addO P T o = addO P T' o := by
  obtain ⟨dst, op, type, pos, after, guard⟩ := o
  cases op <;> simp only [Op.operands] at h <;> simp only [addO]
  all_goals (first | rfl | (simp_all; done))
theorem mem_tmpsOf {xs : List Operand} {t : Tmp} (h : .tmp t ∈ xs) : t ∈ tmpsOf xs := List.mem_filterMap.2 ⟨_, h, rfl⟩
theorem effC_congr {C : Cfg} {call : CallF} {ops : Array Oper} {i : Nat} {o : Oper} {T T' : List V} (h : ∀ t ∈ looks ops o, T[t]? = T'[t]?) (S : Store) : effC C call ops i o T S = effC C call ops i o T' S := by
  have h0 : ∀ x ∈ o.op.operands.toList, evalO T x = evalO T' x := fun x hx => by
    cases x with
    | tmp t =>
      have := h t (List.mem_append_left _ (mem_tmpsOf hx))
      simp [evalO, List.getD_eq_getElem?_getD, this]
    | _ => rfl
  have h1 : opV C.P S T o = opV C.P S T' o := opV_congr h0
  have h3 : addO C.P T o = addO C.P T' o := addO_congr h0
  have h2 : wantedT ops T o = wantedT ops T' o := by
    unfold wantedT
    cases hg : o.guard with
    | none => rfl
    | some g =>
      obtain ⟨j, want⟩ := g
      simp only
      unfold yieldT
      cases hd : (ops[j]?).bind (·.dst) with
      | none => rfl
      | some d =>
        have : T[d]? = T'[d]? := h d (List.mem_append_right _ (by simp [hg, hd]))
        simp only [this]
  unfold effC
  rw [h1, h2, h3]
theorem callV_num {C : Cfg} {call : CallF} {f : FuncId} {args : List V} {o : Out} {S' : Store} {c : Nat} (h : callV C call f args S = some (o, S', c)) : c = 3 ∨ (c = 1 ∧ S' = S) := by
  unfold callV at h
  split at h
  · obtain ⟨⟨o', S2⟩, h1, h2⟩ := Option.map_eq_some_iff.1 h
    simp only [Prod.mk.injEq] at h2
    exact .inl h2.2.2.symm
  · split at h
    · cases h
    · rename_i ds hds
      cases ha : answer C call f ds with
      | none => simp [ha] at h
      | some out =>
        simp only [ha] at h
        split at h
        · simp only [Option.some.injEq, Prod.mk.injEq] at h
          exact .inr ⟨h.2.2.symm, h.2.1.symm⟩
        · split at h
          · simp only [Option.some.injEq, Prod.mk.injEq] at h
            exact .inr ⟨h.2.2.symm, h.2.1.symm⟩
          · split at h
            · simp only [Option.some.injEq, Prod.mk.injEq] at h
              exact .inl h.2.2.symm
            · cases h
/-- What the number of an operation tells. -/
theorem effC_num {C : Cfg} {call : CallF} {ops : Array Oper} {i : Nat} {o : Oper} {T : List V} {v : V} {S' : Store} {c : Nat} (h : effC C call ops i o T S = some (v, S', c)) :
    (c = 0 → S' = S ∧ ∀ S2, effC C call ops i o T S2 = some (v, S2, 0)) ∧ (c = 1 → S' = S) ∧ (c = 2 → ∃ ob, S[i]? = some .hole ∧ S' = S.set i ob ∧ ∀ S2, S2[i]? = some Ob.hole → effC C call ops i o T S2 = some (v, S2.set i ob, 2)) := by
  have hcls := opV_cls (P := C.P) (S := S) T o
  obtain ⟨k0, k1, k2, k3, k4⟩ := hcls
  unfold effC at h
  cases hw : wantedT ops T o with
  | none => simp [hw] at h
  | some b =>
    cases b with
    | false =>
      simp only [hw, Option.some.injEq, Prod.mk.injEq] at h
      obtain ⟨rfl, rfl, rfl⟩ := h
      exact ⟨fun _ => ⟨rfl, fun S2 => by simp [effC, hw]⟩, fun h => by omega, fun h => by omega⟩
    | true =>
      simp only [hw] at h
      split at h
      · rename_i hk
        cases hadd : addO C.P T o with
        | none => simp [hadd] at h
        | some q =>
          obtain ⟨ob, f⟩ := q
          simp only [hadd] at h
          split at h
          · rename_i hh
            simp only [Option.some.injEq, Prod.mk.injEq] at h
            obtain ⟨rfl, rfl, rfl⟩ := h
            refine ⟨fun h => by omega, fun h => by omega, fun _ => ⟨ob, hh, rfl, fun S2 h2 => ?_⟩⟩
            simp [effC, hw, hk, hadd, h2]
          · cases h
      · rename_i hk
        cases ho : opV C.P S T o with
        | none => simp [ho] at h
        | some r =>
          simp only [ho] at h
          cases r with
          | val v1 S1 c1 =>
            simp only [Option.some.injEq, Prod.mk.injEq] at h
            obtain ⟨rfl, rfl, rfl⟩ := h
            refine ⟨fun h => ?_, fun h => ?_, fun h => ?_⟩
            · have hc : c1 = 0 := by unfold num2 at h; split at h <;> omega
              subst hc
              obtain ⟨e1, e2⟩ := k0 _ _ ho
              exact ⟨e1, fun S2 => by have := e2 S2; simp only at this; simp [effC, hw, hk, this, num2]⟩
            · have hc : c1 = 1 := by unfold num2 at h; split at h <;> omega
              subst hc
              exact (k1 _ _ ho).1
            · unfold num2 at h; split at h <;> omega
          | skip S1 c1 =>
            simp only [Option.some.injEq, Prod.mk.injEq] at h
            obtain ⟨rfl, rfl, rfl⟩ := h
            exact ⟨fun h => by omega, fun h => by omega, fun h => by omega⟩
          | enter f args =>
            have e4 := k4 _ _ ho
            simp only at h e4
            cases hc : callV C call f args S with
            | none => simp [hc] at h
            | some q =>
              obtain ⟨out, S1, c1⟩ := q
              cases out with
              | ret v1 =>
                simp only [hc, Option.some.injEq, Prod.mk.injEq] at h
                obtain ⟨rfl, rfl, rfl⟩ := h
                rcases callV_num hc with rfl | ⟨rfl, e1⟩
                · exact ⟨fun h => by simp [num2] at h, fun h => by simp [num2] at h, fun h => by simp [num2] at h⟩
                · exact ⟨fun h => by simp [num2] at h, fun _ => e1, fun h => by simp [num2] at h⟩
              | pan v1 => simp [hc] at h
          | dfr f args => simp at h
          | pan v1 => simp at h
theorem putT_get {T : List V} {d : Option Tmp} {v : V} {t : Tmp} (h : d ≠ some t) : (putT T d v)[t]? = T[t]? := by
  cases d with
  | none => rfl
  | some d =>
    simp only [putT]
    rw [List.getElem?_set_ne]
    rintro rfl; exact h rfl
theorem putT_comm {T : List V} {x y : Option Tmp} {v u : V} (h : ∀ d, x = some d → y ≠ some d) : putT (putT T x v) y u = putT (putT T y u) x v := by
  cases x with
  | none => rfl
  | some d =>
    cases y with
    | none => rfl
    | some e =>
      have hne : d ≠ e := fun he => h d rfl (he ▸ rfl)
      simp only [putT]
      exact List.set_comm _ _ hne
theorem tmpsApart_spec {ops : Array Oper} {a b : Oper} (h : tmpsApart ops a b = true) : (∀ d, a.dst = some d → d ∉ looks ops b) ∧ (∀ d, a.dst = some d → b.dst ≠ some d) ∧ (∀ d, b.dst = some d → d ∉ looks ops a) := by
  unfold tmpsApart at h
  refine ⟨fun d hd => ?_, fun d hd => ?_, fun d hd => ?_⟩ <;> simp [hd] at h
  · exact h.1.1
  · exact h.1.2
  · exact h.2
theorem sameLeaf_eq {x y : D} (h : sameLeaf x y = true) : x = y := by
  cases x <;> cases y <;> simp only [sameLeaf, Bool.false_eq_true, Bool.and_eq_true, beq_iff_eq] at h <;> first | (subst h; rfl) | (obtain ⟨rfl, rfl⟩ := h; rfl)
theorem sameAll_eq : ∀ {xs ys : List D}, sameAll xs ys = true → xs = ys
  | [], [], _ => rfl
  | [], _ :: _, h => by simp [sameAll] at h
  | _ :: _, [], h => by simp [sameAll] at h
  | x :: xs, y :: ys, h => by
    simp only [sameAll, Bool.and_eq_true] at h
    rw [sameLeaf_eq h.1, sameAll_eq h.2]
theorem sameD_eq {x y : D} (h : sameD x y = true) : x = y := by
  unfold sameD at h
  split at h
  · rw [sameAll_eq h]
  · exact sameLeaf_eq h
theorem sameCell_eq {x y : V} (h : sameCell x y = true) : x = y := by
  unfold sameCell at h
  split at h
  · rw [sameD_eq h]
  · simp only [Bool.and_eq_true, beq_iff_eq] at h
    obtain ⟨⟨rfl, rfl⟩, rfl⟩ := h; rfl
  · simp only [beq_iff_eq] at h; subst h; rfl
  · rw [sameAll_eq h]
  · simp only [Bool.and_eq_true, beq_iff_eq] at h
    obtain ⟨⟨rfl, rfl⟩, rfl⟩ := h; rfl
  · cases h
theorem sameCells_eq : ∀ {xs ys : List V}, sameCells xs ys = true → xs = ys
  | [], [], _ => rfl
  | [], _ :: _, h => by simp [sameCells] at h
  | _ :: _, [], h => by simp [sameCells] at h
  | x :: xs, y :: ys, h => by
    simp only [sameCells, Bool.and_eq_true] at h
    rw [sameCell_eq h.1, sameCells_eq h.2]
theorem sameV_eq {x y : V} (h : sameV x y = true) : x = y := by
  unfold sameV at h
  split at h
  · rw [sameCells_eq h]
  · exact sameCell_eq h
/-- Two that stand one behind the other may be swapped. -/
theorem effC_swap {C : Cfg} {call : CallF} (hcall : CallHole call) {ops : Array Oper} {i j : Nat} {o1 o2 : Oper} {T : List V} {S1 S2 : Store} {v1 v2 : V} {c1 c2 : Nat} (hij : i ≠ j) (h1 : effC C call ops i o1 T S = some (v1, S1, c1)) (h2 : effC C call ops j o2 (putT T o1.dst v1) S1 = some (v2, S2, c2)) (hap : tmpsApart ops o1 o2 = true) (hcl : clsApart c1 c2 = true)
    (hh : c2 = 2 → S[j]? = some .hole) (hw : c1 = 1 → 2 < c2 → effC C call ops i o1 T S2 = some (v1, S2, 1)) :
    ∃ S', effC C call ops j o2 T S = some (v2, S', c2) ∧ effC C call ops i o1 (putT T o2.dst v2) S' = some (v1, S2, c1) ∧ putT (putT T o1.dst v1) o2.dst v2 = putT (putT T o2.dst v2) o1.dst v1 := by
  obtain ⟨a1, a2, a3⟩ := tmpsApart_spec hap
  have e2 : effC C call ops j o2 T S1 = some (v2, S2, c2) := by
    rw [← h2]
    exact effC_congr (fun t ht => (putT_get (fun h => a1 t h ht)).symm) S1
  have back : ∀ S', effC C call ops i o1 (putT T o2.dst v2) S' = effC C call ops i o1 T S' := fun S' =>
    effC_congr (fun t ht => putT_get (fun h => a3 t h ht)) S'
  have hcomm : putT (putT T o1.dst v1) o2.dst v2 = putT (putT T o2.dst v2) o1.dst v1 := putT_comm a2
  obtain ⟨k0, k1, k2⟩ := effC_num h1
  obtain ⟨m0, m1, m2⟩ := effC_num e2
  have fin : ∀ S', effC C call ops j o2 T S = some (v2, S', c2) → effC C call ops i o1 T S' = some (v1, S2, c1) → ∃ S', effC C call ops j o2 T S = some (v2, S', c2) ∧ effC C call ops i o1 (putT T o2.dst v2) S' = some (v1, S2, c1) ∧ putT (putT T o1.dst v1) o2.dst v2 = putT (putT T o2.dst v2) o1.dst v1 := fun S' g1 g2 =>
    ⟨S', g1, by rw [back]; exact g2, hcomm⟩
  by_cases z1 : c1 = 0
  · subst z1
    obtain ⟨rfl, f1⟩ := k0 rfl
    exact fin _ e2 (f1 _)
  by_cases z2 : c2 = 0
  · subst z2
    obtain ⟨rfl, f1⟩ := m0 rfl
    exact fin _ (f1 S) h1
  by_cases z3 : c2 = 2
  · subst z3
    obtain ⟨ob, g1, rfl, g2⟩ := m2 rfl
    have hS := hh rfl
    exact fin _ (g2 S hS) (effC_hole hcall ob hS hij h1).1
  have z4 : c1 = 1 := by
    unfold clsApart at hcl
    simp only [Bool.or_eq_true, beq_iff_eq] at hcl
    omega
  subst z4
  have := k1 rfl
  subst this
  by_cases z5 : c2 = 1
  · subst z5
    have := m1 rfl
    subst this
    exact fin _ e2 h1
  exact fin _ e2 (hw rfl (by omega))
end
end Go.Vm
