/- The value machine: regions that draw their order, whatever the tape says. -/
import Derived.Test.YtljefklfoieecaaVmXd
set_option linter.unusedVariables false
set_option linter.unusedSimpArgs false
namespace Go.Vm
section
variable {P : Program}

/-- What is still to be filled lies open. -/
def HolesAt (base : Nat) (rem : List (Nat × Nat)) (S : Store) : Prop := ∀ p ∈ rem, p.2 = 2 → S[base + p.1]? = some .hole
def ApartW (ops : Array Oper) (b : List Nat) (p q : Nat × Nat) : Prop := p.1 ≠ q.1 ∧ (b.getD q.1 0).testBit p.1 = false ∧ ∃ x y, ops[p.1]? = some x ∧ ops[q.1]? = some y ∧ tmpsApart ops x y = true ∧ clsApart p.2 q.2 = true
theorem closed_add {C : Cfg} {call : CallF} (hcall : CallHole call) {ops : Array Oper} {base : Nat} {ws : Watches} {p : Nat × Nat} {o : Oper} {T : List V} {v : V} (h : Closed base ws) : Closed base (fun x => ws x ∨ (p.2 = 1 ∧ x = (p.1, predOf C call ops (base + p.1) o T v))) := by
  intro x hx S j ob hj hS hp
  rcases hx with hx | ⟨_, rfl⟩
  · exact h x hx S j ob hj hS hp
  · exact predOf_closed hcall hj hS hp
theorem runsW_bubble {C : Cfg} {call : CallF} (hcall : CallHole call) {ops : Array Oper} {b : List Nat} {base : Nat} {p : Nat × Nat} {l2 : List (Nat × Nat)} {T' : List V} {S' : Store} : ∀ {l1 : List (Nat × Nat)} {ws : Watches} {T : List V} {S : Store}, Closed base ws → (∀ x, ws x → x.1 ≠ p.1) → (p.2 = 2 → S[base + p.1]? = some .hole) → RunsW C call ops b base ws (l1 ++ p :: l2) T S T' S' → (∀ q ∈ l1, ApartW ops b q p) → RunsW C call ops b base ws (p :: (l1 ++ l2)) T S T' S'
  | [], ws, T, S, _, _, _, h, _ => h
  | q :: l1, ws, T, S, hcl, hws, hh, h, ha => by
    obtain ⟨o1, v1, S1, h1, h2, h3, h4⟩ := h
    obtain ⟨hne, hbit, x, y, hx, hy, e1, e2⟩ := ha q (by simp)
    have g := runsW_bubble hcall (closed_add hcall hcl) (fun z hz => by
      rcases hz with hz | ⟨_, rfl⟩
      · exact hws z hz
      · exact hne) (fun h2' => (effC_hole hcall .hole (hh h2') (by omega) h2).2) h4 (fun q' hq => ha q' (by simp [hq]))
    exact runsW_swap hcall hcl hws hne hx hy e1 e2 hbit hh ⟨o1, v1, S1, h1, h2, h3, g⟩
theorem runsW_lt {C : Cfg} {call : CallF} {ops : Array Oper} {b : List Nat} {base : Nat} {T' : List V} {S' : Store} : ∀ {l : List (Nat × Nat)} {ws : Watches} {T : List V} {S : Store}, RunsW C call ops b base ws l T S T' S' → ∀ p ∈ l, p.1 < ops.size
  | [], _, _, _, _, p, hp => by simp at hp
  | q :: l, ws, T, S, h, p, hp => by
    obtain ⟨o, v, S1, h1, _, _, h3⟩ := h
    rcases List.mem_cons.1 hp with rfl | hp
    · rcases Nat.lt_or_ge p.1 ops.size with h' | h'
      · exact h'
      · simp [h'] at h1
    · exact runsW_lt h3 p hp
theorem effC_adds {C : Cfg} {call : CallF} {ops : Array Oper} {i : Nat} {o : Oper} {T : List V} {S S' : Store} {v : V} (h : effC C call ops i o T S = some (v, S', 2)) : addsK o = true := by
  cases hk : addsK o with
  | true => rfl
  | false =>
    exfalso
    unfold effC at h
    split at h
    · cases h
    · simp at h
    · rw [if_neg (by simp [hk])] at h
      have n2 : ∀ c, num2 c ≠ 2 := fun c => by unfold num2; split <;> omega
      split at h
      · simp only [Option.some.injEq, Prod.mk.injEq] at h; exact n2 _ h.2.2
      · simp at h
      · split at h
        · simp only [Option.some.injEq, Prod.mk.injEq] at h; exact n2 _ h.2.2
        · cases h
      · cases h
theorem runsW_adds {C : Cfg} {call : CallF} {ops : Array Oper} {b : List Nat} {base : Nat} {T' : List V} {S' : Store} : ∀ {l : List (Nat × Nat)} {ws : Watches} {T : List V} {S : Store}, RunsW C call ops b base ws l T S T' S' → ∀ p ∈ l, p.2 = 2 → holesN ops = ops.size
  | [], _, _, _, _, p, hp, _ => by simp at hp
  | q :: l, ws, T, S, h, p, hp, h2 => by
    obtain ⟨o, v, S1, h1, h4, _, h3⟩ := h
    rcases List.mem_cons.1 hp with rfl | hp
    · rw [h2] at h4
      have hk := effC_adds h4
      unfold holesN
      rw [if_pos]
      rw [Array.any_eq_true']
      exact ⟨o, Array.mem_of_getElem? h1, hk⟩
    · exact runsW_adds h3 p hp h2

theorem befBits_spec {acc : List Nat} {j : Nat} : ∀ {es : List Edge} {s : Nat}, (befBits acc es s).testBit j = true → s.testBit j = true ∨ ∃ e ∈ es, Region.binds .any e = true ∧ (e.on = j ∨ (acc.getD e.on 0).testBit j = true)
  | [], s, h => .inl h
  | e :: r, s, h => by
    simp only [befBits] at h
    rcases befBits_spec h with h | ⟨e', h1, h2⟩
    · split at h
      · rename_i hb
        rw [Nat.testBit_or, Nat.testBit_or, Bool.or_eq_true, Bool.or_eq_true] at h
        rcases h with (h | h) | h
        · exact .inl h
        · rw [Nat.testBit_two_pow] at h
          exact .inr ⟨e, by simp, hb, .inl (by simpa using h)⟩
        · exact .inr ⟨e, by simp, hb, .inr h⟩
      · exact .inl h
    · exact .inr ⟨e', by simp [h1], h2⟩
theorem befGo_spec : ∀ {l : List Oper} {acc : List Nat}, (∃ X, befGo acc l = acc ++ X ∧ X.length = l.length) ∧ ∀ k o, l[k]? = some o → (befGo acc l).getD (acc.length + k) 0 = befBits ((befGo acc l).take (acc.length + k)) o.after.toList 0
  | [], acc => ⟨⟨[], by simp [befGo], rfl⟩, fun k o h => by simp at h⟩
  | o :: r, acc => by
    obtain ⟨⟨X, hX, hl⟩, ih⟩ := befGo_spec (l := r) (acc := acc ++ [befBits acc o.after.toList 0])
    refine ⟨⟨befBits acc o.after.toList 0 :: X, by simp [befGo, hX], by simp [hl]⟩, fun k o' h => ?_⟩
    cases k with
    | zero =>
      simp at h; subst h
      simp only [befGo, hX, Nat.add_zero]
      simp [List.getD_eq_getElem?_getD]
    | succ k =>
      simp at h
      have := ih k o' h
      simp only [List.length_append, List.length_cons, List.length_nil, Nat.zero_add] at this
      simp only [befGo]
      rw [show acc.length + (k + 1) = acc.length + 1 + k by omega]
      exact this
theorem befs_spec {ops : Array Oper} {k j : Nat} (h : ((befs ops).getD k 0).testBit j = true) : ∃ o, ops[k]? = some o ∧ ∃ e ∈ o.after.toList, Region.binds .any e = true ∧ (e.on = j ∨ ((befs ops).getD e.on 0).testBit j = true) := by
  obtain ⟨⟨X, hX, hl⟩, hs⟩ := befGo_spec (l := ops.toList) (acc := [])
  have hlen : (befs ops).length = ops.size := by simp [befs, hX, hl]
  cases ho : ops[k]? with
  | none =>
    have : (befs ops).getD k 0 = 0 := by
      have hk : ops.size ≤ k := by simpa using ho
      simp [List.getD_eq_getElem?_getD, List.getElem?_eq_none (by omega : (befs ops).length ≤ k)]
    rw [this] at h; simp at h
  | some o =>
    refine ⟨o, rfl, ?_⟩
    have := hs k o (by simpa using ho)
    simp only [List.length_nil, Nat.zero_add] at this
    rw [befs, this] at h
    rcases befBits_spec h with h | ⟨e, h1, h2, h3⟩
    · simp at h
    · refine ⟨e, h1, h2, h3.imp id fun h3 => ?_⟩
      simp only [List.getD_eq_getElem?_getD, List.getElem?_take] at h3 ⊢
      split at h3
      · exact h3
      · simp at h3
theorem edgesOk_spec : ∀ {l : List Oper} {i : Nat}, edgesOk l i = true → ∀ k o, l[k]? = some o → ∀ e ∈ o.after.toList, Region.binds .any e = true → e.on < i + k
  | [], i, _, k, o, h => by simp at h
  | x :: r, i, hk, k, o, h => by
    simp only [edgesOk, Bool.and_eq_true] at hk
    cases k with
    | zero =>
      simp at h; subst h
      intro e he hb
      have := hk.1
      rw [Array.all_eq_true'] at this
      have := this e (by simpa using he)
      rw [hb] at this
      simpa using this
    | succ k =>
      simp at h
      intro e he hb
      have := edgesOk_spec hk.2 k o h e he hb
      omega

/-- One operation of a region. -/
theorem effC_ok {C : Cfg} {call : CallF} (hext : ExtOk C) (hrun : RunOk C.P call) {ops : Array Oper} {i id : Nat} {o : Oper} {S S1 : Store} {T : List V} {v : V} {c : Nat} (hget : ops[i]? = some o) (h : effC C call ops id o T S = some (v, S1, c))
    {ρ : Nat → Nat} {A : Nat → Prop} {w : World} {a : Act} {F : Dfs} {Q : Exit → Act → World → Prop} {K : Act → World → Prop} (hI : Inv C.P S ρ A w) (hT : RepT C.P S ρ A w T a.tmps.toList) (hF : DfOk C.P S ρ A w F a.defers)
    (hK : ∀ ρ' A' w' a', Inv C.P S1 ρ' A' w' → Step S ρ A w S1 ρ' A' w' → RepT C.P S1 ρ' A' w' (putT T o.dst v) a'.tmps.toList → DfOk C.P S1 ρ' A' w' F a'.defers → K a' w') : wpOp C.P ops Q i K a w := by
  unfold wpOp
  simp only [hget]
  unfold effC at h
  cases hw : wantedT ops T o with
  | none => simp [hw] at h
  | some b =>
    rw [wantedT_spec hw hT]
    simp only [hw] at h
    cases b with
    | false =>
      simp only [Bool.false_eq_true, if_false]
      simp only [Option.some.injEq, Prod.mk.injEq] at h
      obtain ⟨rfl, rfl, rfl⟩ := h
      exact hK ρ A w _ hI .refl (repT_put hT repV_undef) (by rw [put_defers]; exact hF)
    | true =>
      simp only [if_true]
      refine .inl ?_
      cases hk : addsK o with
      | true =>
        simp only [hk, if_true] at h
        cases hadd : addO C.P T o with
        | none => simp [hadd] at h
        | some q =>
          obtain ⟨ob, f⟩ := q
          simp only [hadd] at h
          split at h
          · rename_i hh
            simp only [Option.some.injEq, Prod.mk.injEq] at h
            obtain ⟨rfl, rfl, rfl⟩ := h
            obtain ⟨u, w', g1, g2, g3, g4, g5, g6, g7, g8, g9⟩ := addO_run hI hT hadd
            obtain ⟨k1, k2⟩ := hI.fill (w' := w') hh g2 g3 g4 g5 g6 g7 (fun hs hA => g8 _ _ hs hA)
            unfold Oper.wp
            rw [g1]
            refine hK _ _ _ _ k1 k2 (repT_put (repT_mono k2.amono k2.keepA k2.sle _ _ hT) (g9 _ _ id (by simp [lt_of_get hh]) (by simp))) (by rw [put_defers]; exact dfOk_step k2 hF)
          · cases h
      | false =>
        simp only [hk, Bool.false_eq_true, if_false] at h
        cases ho : opV C.P S T o with
        | none => simp [ho] at h
        | some rs =>
          refine oper_wp hI hT ho ?_
          cases rs with
          | val v S2 c2 =>
            simp only [ho, Option.some.injEq, Prod.mk.injEq] at h
            obtain ⟨rfl, rfl, rfl⟩ := h
            intro ρ1 A1 w1 u h1 h2 h3
            exact hK _ _ _ _ h1 h2 (repT_put (repT_mono h2.amono h2.keepA h2.sle _ _ hT) h3) (by rw [put_defers]; exact dfOk_step h2 hF)
          | skip S2 c2 =>
            simp only [ho, Option.some.injEq, Prod.mk.injEq] at h
            obtain ⟨rfl, rfl, rfl⟩ := h
            intro ρ1 A1 w1 h1 h2
            exact hK _ _ _ _ h1 h2 (repT_put (repT_mono h2.amono h2.keepA h2.sle _ _ hT) repV_undef) (by rw [put_defers]; exact dfOk_step h2 hF)
          | enter f args =>
            simp only [ho] at h
            intro us hus
            cases hc : callV C call f args S with
            | none => simp [hc] at h
            | some q =>
              obtain ⟨out, S2, c2⟩ := q
              cases out with
              | pan v => simp [hc] at h
              | ret v =>
                simp only [hc, Option.some.injEq, Prod.mk.injEq] at h
                obtain ⟨rfl, rfl, rfl⟩ := h
                refine (callV_ok hext hrun hc hI hus).mono fun e w1 he => ?_
                cases e with
                | returned u =>
                  obtain ⟨y, hy, ρ1, A1, h1, h2, h3⟩ := he
                  cases hy
                  exact hK _ _ _ _ h1 h2 (repT_put (repT_mono h2.amono h2.keepA h2.sle _ _ hT) h3) (by rw [put_defers]; exact dfOk_step h2 hF)
                | panicked chain =>
                  obtain ⟨y, v, hy, _⟩ := he
                  cases hy
                | outgrown => exact he.elim
          | dfr f args => simp [ho] at h
          | pan v => simp [ho] at h

theorem pairsOk_mid {ops : Array Oper} {b : List Nat} {p : Nat × Nat} {l2 : List (Nat × Nat)} : ∀ {l1 : List (Nat × Nat)}, pairsOk ops b (l1 ++ p :: l2) = true → (∀ q ∈ l1, pairOk ops b q p = true) ∧ (∀ q ∈ l2, pairOk ops b p q = true) ∧ pairsOk ops b (l1 ++ l2) = true
  | [], h => by
    simp only [List.nil_append, pairsOk, Bool.and_eq_true, List.all_eq_true] at h
    exact ⟨fun q hq => by simp at hq, h.1, h.2⟩
  | x :: l1, h => by
    simp only [List.cons_append, pairsOk, Bool.and_eq_true, List.all_eq_true] at h
    obtain ⟨g1, g2, g3⟩ := pairsOk_mid h.2
    refine ⟨fun q hq => ?_, g2, ?_⟩
    · rcases List.mem_cons.1 hq with rfl | hq
      · exact h.1 p (by simp)
      · exact g1 q hq
    · simp only [List.cons_append, pairsOk, Bool.and_eq_true, List.all_eq_true]
      exact ⟨fun q hq => h.1 q (by rcases List.mem_append.1 hq with hq | hq <;> simp [hq]), g3⟩
theorem any_ok {C : Cfg} {call : CallF} (hext : ExtOk C) (hrun : RunOk C.P call) (hcall : CallHole call) {ops : Array Oper} {base : Nat} (hedge : edgesOk ops.toList 0 = true) {T' : List V} {S' : Store} {F : Dfs} : ∀ (fuel : Nat) {rem : List (Nat × Nat)} {listed : Array Bool} {S : Store} {T : List V} {ws : Watches}, rem.length = fuel → RunsW C call ops (befs ops) base ws rem T S T' S' → Closed base ws → (∀ x, ws x → ∀ p ∈ rem, x.1 ≠ p.1) → HolesAt base rem S → pairsOk ops (befs ops) rem = true →
    listed.size = ops.size → (∀ i, i < ops.size → (listed[i]? = some false ↔ ∃ c, (i, c) ∈ rem)) → (∀ k j, listed[k]? = some true → ((befs ops).getD k 0).testBit j = true → listed[j]? = some true) →
    ∀ {ρ : Nat → Nat} {A : Nat → Prop} {w : World} {a : Act} {Q : Exit → Act → World → Prop}, Inv C.P S ρ A w → RepT C.P S ρ A w T a.tmps.toList → DfOk C.P S ρ A w F a.defers → (∀ a' w', St C.P S ρ A w T' S' F a' w' → Q .normal a' w') →
    wpAny C.P .any ops Q fuel listed a w := by
  intro fuel
  induction fuel with
  | zero =>
    intro rem listed S T ws hlen hruns hclo hwsn hhol hpair hsz hrem hcl ρ A w a Q hI hT hF hQ
    have : rem = [] := by simpa using hlen
    subst this
    obtain ⟨rfl, rfl⟩ := hruns
    refine ⟨?_, hQ _ _ ⟨ρ, A, hI, .refl, hT, hF⟩⟩
    unfold Region.ready
    rw [List.filter_eq_nil_iff]
    intro i hi hc
    simp only [List.mem_range] at hi
    simp only [Bool.and_eq_true, Bool.not_eq_true'] at hc
    have hl : listed[i]? = some false := by
      have hlt : i < listed.size := by omega
      have := hc.1
      simp [Array.getD, hlt] at this
      simp [hlt, this]
    obtain ⟨c, hc⟩ := (hrem i hi).1 hl
    simp at hc
  | succ fuel ih =>
    intro rem listed S T ws hlen hruns hclo hwsn hhol hpair hsz hrem hcl ρ A w a Q hI hT hF hQ
    have getD_l : ∀ j, listed.getD j false = true ↔ listed[j]? = some true := fun j => by
      rcases Nat.lt_or_ge j listed.size with h | h
      · simp [Array.getD, h]
      · simp [Array.getD, h, Nat.not_lt.2 h]
    have ready_spec : ∀ i, i ∈ Region.ready .any ops listed ↔ (i < ops.size ∧ listed[i]? = some false ∧ ∃ o, ops[i]? = some o ∧ ∀ e ∈ o.after.toList, Region.binds .any e = true → listed[e.on]? = some true) := fun i => by
      unfold Region.ready
      rw [List.mem_filter, List.mem_range]
      constructor
      · rintro ⟨h1, h2⟩
        simp only [Bool.and_eq_true, Bool.not_eq_true'] at h2
        have hlt : i < listed.size := by omega
        have ho : ops[i]? = some ops[i] := by simp [h1]
        refine ⟨h1, ?_, ops[i], ho, fun e he hb => ?_⟩
        · have := h2.1
          simp [Array.getD, hlt] at this
          simp [hlt, this]
        · have := h2.2
          rw [ho] at this
          simp only [Option.map_some, Option.getD_some] at this
          rw [Array.all_eq_true'] at this
          have := this e (by simpa using he)
          rw [hb] at this
          exact (getD_l _).1 (by simpa using this)
      · rintro ⟨h1, h2, o, ho, h3⟩
        refine ⟨h1, ?_⟩
        have hlt : i < listed.size := by omega
        have h2' : listed[i] = false := by simpa [hlt] using h2
        simp only [Bool.and_eq_true, Bool.not_eq_true']
        refine ⟨by simp [Array.getD, hlt, h2'], ?_⟩
        rw [ho]
        simp only [Option.map_some, Option.getD_some]
        rw [Array.all_eq_true']
        intro e he
        cases hb : Region.binds .any e with
        | false => simp
        | true => simp [(getD_l _).2 (h3 e (by simpa using he) hb)]
    refine ⟨fun hnil => ?_, fun i hi => ?_⟩
    · -- some operation is ready
      exfalso
      obtain ⟨p, hp⟩ : ∃ p, p ∈ rem := by
        cases rem with
        | nil => simp at hlen
        | cons p r => exact ⟨p, by simp⟩
      have hpl : p.1 < ops.size := runsW_lt hruns p hp
      have key : ∀ n, ∀ i, i ≤ n → i < ops.size → listed[i]? = some false → False := by
        intro n
        induction n with
        | zero =>
          intro i hi0 hi hl
          have : i ∈ Region.ready .any ops listed := (ready_spec i).2 ⟨hi, hl, ops[i], by simp [hi], fun e he hb => by
            have := edgesOk_spec hedge i ops[i] (by simp [hi]) e he hb
            omega⟩
          rw [hnil] at this; simp at this
        | succ n ihn =>
          intro i hi0 hi hl
          have : i ∈ Region.ready .any ops listed := (ready_spec i).2 ⟨hi, hl, ops[i], by simp [hi], fun e he hb => by
            have hlt := edgesOk_spec hedge i ops[i] (by simp [hi]) e he hb
            simp only [Nat.zero_add] at hlt
            have he' : e.on < listed.size := by omega
            cases hv : listed[e.on] with
            | true => simp [he', hv]
            | false => exact (ihn e.on (by omega) (by omega) (by simp [he', hv])).elim⟩
          rw [hnil] at this; simp at this
      obtain ⟨pi, pc⟩ := p
      exact key pi pi (Nat.le_refl _) hpl ((hrem pi hpl).2 ⟨pc, hp⟩)
    · obtain ⟨hi1, hi2, o, ho, hi3⟩ := (ready_spec i).1 hi
      obtain ⟨c, hc⟩ := (hrem i hi1).1 hi2
      obtain ⟨l1, l2, rfl⟩ := List.append_of_mem hc
      obtain ⟨g1, g2, g3⟩ := pairsOk_mid hpair
      have hbits : ∀ j, ((befs ops).getD i 0).testBit j = true → listed[j]? = some true := fun j hj => by
        obtain ⟨o', ho', e, he, hb, h3⟩ := befs_spec hj
        rw [ho] at ho'; cases ho'
        have := hi3 e he hb
        rcases h3 with rfl | h3
        · exact this
        · exact hcl _ _ this h3
      have hun : ∀ q ∈ l1 ++ l2, q.1 < ops.size → listed[q.1]? = some false := fun q hq hlt => (hrem q.1 hlt).2 ⟨q.2, by
        rcases List.mem_append.1 hq with h | h <;> simp [h]⟩
      have hap : ∀ q ∈ l1, ApartW ops (befs ops) q (i, c) := fun q hq => by
        have hp := g1 q hq
        have hnb : ((befs ops).getD i 0).testBit q.1 = false := by
          cases hb : ((befs ops).getD i 0).testBit q.1 with
          | false => rfl
          | true =>
            have := hbits _ hb
            have hlt : q.1 < ops.size := by
              rcases Nat.lt_or_ge q.1 listed.size with h' | h'
              · omega
              · simp [h'] at this
            have h2 := hun q (by simp [hq]) hlt
            rw [h2] at this; simp at this
        simp only [pairOk, Bool.and_eq_true, Bool.or_eq_true] at hp
        refine ⟨by simpa using hp.1, hnb, ?_⟩
        rcases hp.2 with hb | hp
        · rw [hnb] at hb; cases hb
        · split at hp
          · rename_i x y hx hy
            simp only [Bool.and_eq_true] at hp
            exact ⟨x, y, hx, hy, hp.1, hp.2⟩
          · cases hp
      obtain ⟨o', v1, S1, h1, h2, _, h3⟩ := runsW_bubble hcall hclo (fun x hx => hwsn x hx (i, c) (by simp)) (hhol (i, c) (by simp)) hruns hap
      simp only at h1 h2
      rw [ho] at h1; cases h1
      have hne : ∀ q ∈ l1 ++ l2, q.1 ≠ i := fun q hq => by
        rcases List.mem_append.1 hq with h | h
        · have := g1 _ h; simp only [pairOk, Bool.and_eq_true] at this; simpa using this.1
        · have := g2 _ h; simp only [pairOk, Bool.and_eq_true] at this; have := this.1; simp at this; exact fun h => this h.symm
      refine effC_ok hext hrun ho h2 hI hT hF fun ρ1 A1 w1 a1 j1 j2 j3 j4 => ?_
      refine ih (rem := l1 ++ l2) (by simp at hlen ⊢; omega) h3 (closed_add hcall hclo) (fun x hx p hp => ?_) (fun p hp h22 => ?_) g3 (by simpa using hsz) (fun k hk => ?_) (fun k j hk hj => ?_) j1 j3 j4 (fun a' w' hs => hQ a' w' (hs.step j2))
      · rcases hx with hx | ⟨_, rfl⟩
        · exact hwsn x hx p (by rcases List.mem_append.1 hp with h | h <;> simp [h])
        · exact fun h => hne p hp h.symm
      · exact (effC_hole hcall .hole (hhol p (by rcases List.mem_append.1 hp with h | h <;> simp [h]) h22) (by have := hne p hp; omega) h2).2
      · rw [Array.getElem?_setIfInBounds]
        by_cases hik : i = k
        · subst hik
          simp only [if_true]
          have hlt : i < listed.size := by omega
          simp only [hlt, if_true]
          constructor
          · intro h; simp at h
          · rintro ⟨c', hc'⟩
            exfalso
            rcases List.mem_append.1 hc' with h | h
            · have := g1 _ h; simp [pairOk] at this
            · have := g2 _ h; simp [pairOk] at this
        · rw [if_neg hik, hrem k hk]
          constructor
          · rintro ⟨c', hc'⟩
            refine ⟨c', ?_⟩
            rcases List.mem_append.1 hc' with h | h
            · simp [h]
            · rcases List.mem_cons.1 h with h | h
              · simp only [Prod.mk.injEq] at h; exact absurd h.1.symm hik
              · simp [h]
          · rintro ⟨c', hc'⟩
            refine ⟨c', ?_⟩
            rcases List.mem_append.1 hc' with h | h <;> simp [h]
      · have hset : ∀ m, listed[m]? = some true → (listed.setIfInBounds i true)[m]? = some true := fun m hm => by
          rw [Array.getElem?_setIfInBounds]
          by_cases him : i = m
          · subst him
            have hlt : i < listed.size := by omega
            simp [hlt]
          · rw [if_neg him]; exact hm
        rw [Array.getElem?_setIfInBounds] at hk
        by_cases hik : i = k
        · subst hik
          exact hset j (hbits j hj)
        · rw [if_neg hik] at hk
          exact hset j (hcl k j hk hj)

theorem draw_ok {C : Cfg} {call : CallF} (hext : ExtOk C) (hrun : RunOk C.P call) (hcall : CallHole call) {ops : Array Oper} {id : Nat} {order : List Nat} {cs : List (Nat × Nat)} {S S' : Store} {T T' : List V} {F : Dfs} (h : seqC C call ops (befs ops) S.length [] order T (S ++ List.replicate (holesN ops) .hole) = some (T', S', cs)) (hd : drawOk ops cs = true)
    {ρ : Nat → Nat} {A : Nat → Prop} {w : World} {a : Act} {Q : Exit → Act → World → Prop} (hI : Inv C.P S ρ A w) (hT : RepT C.P S ρ A w T a.tmps.toList) (hF : DfOk C.P S ρ A w F a.defers) (hQ : ∀ a' w', St C.P S ρ A w T' S' F a' w' → Q .normal a' w') :
    (Code.region id ops true).wp C.P Q a w := by
  simp only [drawOk, Bool.and_eq_true] at hd
  obtain ⟨⟨⟨_, hedge⟩, hall⟩, hpairs⟩ := hd
  obtain ⟨g1, g2⟩ := hI.world (w' := { w with drawn := w.drawn + 1 }) (Nat.le_refl _) (fun _ _ => rfl) rfl rfl rfl
  refine wp_region_any C.mixed ?_
  have hruns := runsW_of_seqC (W := fun _ => False) (fun x hx => hx.elim) h
  have hsize : ∀ p ∈ cs, p.1 < ops.size := runsW_lt hruns
  obtain ⟨g3, g4⟩ := g1.holes (holesN ops)
  have hT1 := repT_mono g2.amono g2.keepA g2.sle _ _ hT
  have hF1 := dfOk_step g2 hF
  have hnod : ∀ {l : List (Nat × Nat)}, pairsOk ops (befs ops) l = true → (l.map (·.1)).Nodup := by
    intro l
    induction l with
    | nil => intro _; simp
    | cons p r ih =>
      intro hp
      simp only [pairsOk, Bool.and_eq_true, List.all_eq_true] at hp
      rw [List.map_cons, List.nodup_cons]
      refine ⟨fun hm => ?_, ih hp.2⟩
      obtain ⟨q, hq, he⟩ := List.mem_map.1 hm
      have := hp.1 q hq
      simp [pairOk, he] at this
  have hlen : cs.length = ops.size := by
    have h1 : (cs.map (·.1)).length ≤ (List.range ops.size).length := (hnod hpairs).length_le_of_subset (fun x hx => by
      obtain ⟨p, hp, rfl⟩ := List.mem_map.1 hx
      simpa using hsize p hp)
    have h2 : (List.range ops.size).length ≤ (cs.map (·.1)).length := List.nodup_range.length_le_of_subset (fun x hx => by
      rw [List.all_eq_true] at hall
      have := hall x hx
      rw [List.any_eq_true] at this
      obtain ⟨p, hp, he⟩ := this
      exact List.mem_map.2 ⟨p, hp, by simpa using he⟩)
    simp at h1 h2
    omega
  refine any_ok hext hrun hcall hedge ops.size hlen hruns (fun x hx => hx.elim) (fun x hx => hx.elim) (fun p hp h2 => ?_) hpairs (by simp) (fun i hi => ?_) (fun k j hk _ => ?_) g3 (repT_mono g4.amono g4.keepA g4.sle _ _ hT1) (dfOk_step g4 hF1) (fun a' w' hs => hQ a' w' ((hs.step g4).step g2))
  · have h1 := runsW_adds hruns p hp h2
    have := hsize p hp
    rw [h1, List.getElem?_append_right (by omega), List.getElem?_replicate]
    simp; omega
  · constructor
    · intro _
      rw [List.all_eq_true] at hall
      have := hall i (by simpa using hi)
      rw [List.any_eq_true] at this
      obtain ⟨p, hp, he⟩ := this
      have : p.1 = i := by simpa using he
      exact ⟨p.2, by rw [← this]; exact hp⟩
    · intro _; simp [hi]
  · exfalso
    rw [Array.getElem?_replicate] at hk
    split at hk <;> simp at hk
end
end Go.Vm
