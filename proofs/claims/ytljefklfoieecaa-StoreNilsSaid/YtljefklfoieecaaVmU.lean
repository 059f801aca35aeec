/- The value machine: operations one behind the other. -/
import Derived.Test.YtljefklfoieecaaVmT
set_option linter.unusedVariables false
set_option linter.unusedSimpArgs false
namespace Go.Vm
section
variable {P : Program} {S S' : Store} {ρ ρ' : Nat → Nat} {A A' : Nat → Prop} {w w' : World}

theorem yieldT_spec {ops : Array Oper} {T : List V} {j : Nat} {r : Option Bool} {tm : Array Value} (h : yieldT ops T j = some r) (hT : RepT P S ρ A w T tm.toList) : yielded ops tm j = r := by
  unfold yieldT at h
  unfold yielded
  cases hd : (ops[j]?).bind (·.dst) with
  | none => simp only [hd, Option.some.injEq] at h; subst h; rfl
  | some d =>
    simp only [hd] at h
    simp only [Option.bind_some]
    cases ht : T[d]? with
    | none =>
      simp only [ht, Option.some.injEq] at h; subst h
      have hl := repT_length hT
      have : tm[d]? = none := by
        simp only [List.getElem?_eq_none_iff] at ht
        simp only [Array.length_toList] at hl
        simp [hl, ht]
      simp [this]
    | some v =>
      obtain ⟨u, hu, hr⟩ := repT_get hT d v ht
      have hu' : tm[d]? = some u := by simpa using hu
      simp only [ht] at h
      simp only [hu']
      split at h
      · rename_i heq; cases heq
      · rename_i b heq
        cases heq
        simp only [Option.some.injEq] at h; subst h
        rw [rep_bool hr]
      · rename_i xs heq
        cases heq
        simp only [Option.some.injEq] at h; subst h
        obtain ⟨us, rfl, _⟩ := hr
        rfl
      · cases h
theorem wantedT_spec {ops : Array Oper} {T : List V} {o : Oper} {b : Bool} {tm : Array Value} (h : wantedT ops T o = some b) (hT : RepT P S ρ A w T tm.toList) : Region.wanted o (yielded ops tm) = b := by
  unfold wantedT at h
  unfold Region.wanted
  cases hg : o.guard with
  | none => simp only [hg, Option.some.injEq] at h; simp [h]
  | some g =>
    obtain ⟨j, want⟩ := g
    simp only [hg] at h
    obtain ⟨r, hr, rfl⟩ := Option.map_eq_some_iff.1 h
    simp [yieldT_spec hr hT]
theorem repT_put {T : List V} {a : Act} {dst : Option Tmp} {v : V} {u : Value} (hT : RepT P S ρ A w T a.tmps.toList) (hv : RepV P S ρ A w v u) : RepT P S ρ A w (putT T dst v) (a.put dst u).tmps.toList := by
  cases dst with
  | none => exact hT
  | some d => simpa [putT, Act.put] using repT_set hT d v u hv
theorem put_defers (a : Act) (dst : Option Tmp) (u : Value) : (a.put dst u).defers = a.defers := by cases dst <;> rfl

/-- What was deferred. -/
def DefOk (P : Program) (S : Store) (ρ : Nat → Nat) (A : Nat → Prop) (w : World) (f : FuncId) (args : List V) (d : Deferred) : Prop :=
  ∃ fv cap us, d.target = .fn fv cap ∧ (∀ w2, (invoke d.target d.args).run P w2 = .ok (.enter f us) w2) ∧ RepWs P S ρ A w args us.toList
def DfOk (P : Program) (S : Store) (ρ : Nat → Nat) (A : Nat → Prop) (w : World) : Dfs → List Deferred → Prop
  | [], ds => ds = []
  | x :: r, ds => ∃ d ds', ds = d :: ds' ∧ DefOk P S ρ A w x.1 x.2 d ∧ DfOk P S ρ A w r ds'
theorem dfOk_step (h : Step S ρ A w S' ρ' A' w') : ∀ {F : Dfs} {ds : List Deferred}, DfOk P S ρ A w F ds → DfOk P S' ρ' A' w' F ds
  | [], ds, hd => hd
  | x :: r, ds, hd => by
    obtain ⟨d, ds', rfl, ⟨fv, cap, us, h1, h2, h3⟩, h4⟩ := hd
    exact ⟨d, ds', rfl, ⟨fv, cap, us, h1, h2, repWs_mono h.amono h.keepA h.sle _ _ h3⟩, dfOk_step h h4⟩

def St (P : Program) (S : Store) (ρ : Nat → Nat) (A : Nat → Prop) (w : World) (T' : List V) (S' : Store) (F' : Dfs) (a' : Act) (w' : World) : Prop :=
  ∃ ρ' A', Inv P S' ρ' A' w' ∧ Step S ρ A w S' ρ' A' w' ∧ RepT P S' ρ' A' w' T' a'.tmps.toList ∧ DfOk P S' ρ' A' w' F' a'.defers
def ExPost (P : Program) (S : Store) (ρ : Nat → Nat) (A : Nat → Prop) (w : World) (x : Ex) (T' : List V) (S' : Store) (F' : Dfs) : Exit → Act → World → Prop
  | .normal, a', w' => x = .norm ∧ St P S ρ A w T' S' F' a' w'
  | .exit k, a', w' => x = .exit k ∧ St P S ρ A w T' S' F' a' w'
  | .ret, a', w' => x = .ret ∧ St P S ρ A w T' S' F' a' w'
  | .panic chain, a', w' => ∃ y v, x = .pan y ∧ chain = [{ v, recovered := false }] ∧ (F' = [] → a'.defers = []) ∧ ∃ ρ' A', Inv P S' ρ' A' w' ∧ Step S ρ A w S' ρ' A' w' ∧ RepW P S' ρ' A' w' y v
  | .goto _, _, _ => False
  | .outgrown, _, _ => False
theorem St.step {S2 : Store} {T2 : List V} {F2 : Dfs} {a : Act} {w2 : World} (h : Step S ρ A w S' ρ' A' w') (hs : St P S' ρ' A' w' T2 S2 F2 a w2) : St P S ρ A w T2 S2 F2 a w2 := by
  obtain ⟨ρ2, A2, h1, h2, h3, h4⟩ := hs
  exact ⟨ρ2, A2, h1, h.trans h2, h3, h4⟩
theorem ExPost.step {S2 : Store} {T2 : List V} {F2 : Dfs} {x : Ex} (h : Step S ρ A w S' ρ' A' w') {e : Exit} {a : Act} {w2 : World} (hs : ExPost P S' ρ' A' w' x T2 S2 F2 e a w2) : ExPost P S ρ A w x T2 S2 F2 e a w2 := by
  cases e with
  | normal => exact ⟨hs.1, hs.2.step h⟩
  | exit k => exact ⟨hs.1, hs.2.step h⟩
  | ret => exact ⟨hs.1, hs.2.step h⟩
  | panic c =>
    obtain ⟨y, v, h1, h2, h3, ρ2, A2, h4, h5, h6⟩ := hs
    exact ⟨y, v, h1, h2, h3, ρ2, A2, h4, h.trans h5, h6⟩
  | goto l => exact hs
  | outgrown => exact hs

/-- What must be shown behind an operation. -/
def After (P : Program) (S : Store) (ρ : Nat → Nat) (A : Nat → Prop) (w : World) (o : Oper) (a : Act) (K : Act → World → Prop) (Q : Exit → Act → World → Prop) : Rs → Prop
  | .val v S' _ => ∀ ρ' A' w' u, Inv P S' ρ' A' w' → Step S ρ A w S' ρ' A' w' → RepV P S' ρ' A' w' v u → K (a.put o.dst u) w'
  | .skip S' _ => ∀ ρ' A' w', Inv P S' ρ' A' w' → Step S ρ A w S' ρ' A' w' → K (a.put o.dst undef) w'
  | .enter f args => ∀ us : Array Value, RepWs P S ρ A w args us.toList → Calls P f us w fun
      | .returned v, w'' => K (a.put o.dst v) w''
      | .panicked chain, w'' => Q (.panic chain) a w''
      | .outgrown, _ => LetsOut Q
  | .dfr f args => ∀ d, DefOk P S ρ A w f args d → K ({ a with defers := d :: a.defers }.put o.dst undef) w
  | .pan v => ∀ u, RepW P S ρ A w v u → Q (.panic [{ v := u, recovered := false }]) a w
theorem oper_wp (hI : Inv P S ρ A w) {T : List V} {a : Act} (hT : RepT P S ρ A w T a.tmps.toList) {o : Oper} {r : Rs} (h : opV P S T o = some r) {K : Act → World → Prop} {Q : Exit → Act → World → Prop} (hK : After P S ρ A w o a K Q r) : o.wp P a w K Q := by
  have hs := opV_run hI hT h
  unfold Oper.wp
  cases r with
  | val v S' c =>
    obtain ⟨u, w', ρ', A', h1, h2, h3, h4⟩ := hs
    rw [h1]
    exact hK ρ' A' w' u h2 h3 h4
  | skip S' c =>
    obtain ⟨w', ρ', A', h1, h2, h3⟩ := hs
    rw [h1]
    exact hK ρ' A' w' h2 h3
  | enter f args =>
    obtain ⟨us, h1, h2⟩ := hs
    rw [h1]
    exact hK us h2
  | dfr f args =>
    obtain ⟨d, fv, cap, us, h1, h2, h3, h4⟩ := hs
    rw [h1]
    exact hK d ⟨fv, cap, us, h2, h3, h4⟩
  | pan v =>
    obtain ⟨u, h1, h2⟩ := hs
    rw [h1]
    exact hK u h2

theorem freeze_heap {w : World} {b : Nat} {c : Array Value} {e : TypeId} {f : Nat × Nat} (h : w.heap[b]? = some (.cells c e f)) (off n : Nat) : (w.freeze ⟨b, off, none⟩ n).heap.size = w.heap.size ∧ (∀ b', b' ≠ b → (w.freeze ⟨b, off, none⟩ n).heap[b']? = w.heap[b']?) ∧ (∃ f', (w.freeze ⟨b, off, none⟩ n).heap[b]? = some (.cells c e f')) ∧ (w.freeze ⟨b, off, none⟩ n).os = w.os ∧ (w.freeze ⟨b, off, none⟩ n).tape = w.tape ∧ (w.freeze ⟨b, off, none⟩ n).output = w.output := by
  unfold World.freeze
  split
  · exact ⟨rfl, fun _ _ => rfl, ⟨f, h⟩, rfl, rfl, rfl⟩
  · refine ⟨by simp, fun b' hb => ?_, ?_, rfl, rfl, rfl⟩
    · simp only [Array.getElem?_modify]
      rw [if_neg (Ne.symm hb)]
    · obtain ⟨lo, hi⟩ := f
      simp only [Array.getElem?_modify, if_true, h, Option.map_some]
      exact ⟨_, rfl⟩
/-- A literal of bytes, marked. -/
theorem litPair_ok (hI : Inv P S ρ A w) {T T' : List V} {a : Act} (hT : RepT P S ρ A w T a.tmps.toList) {o : Oper} {r : List Oper} (h : litPair P T o r = some T') :
    ∃ o2 r', r = o2 :: r' ∧ o.guard = none ∧ o2.guard = none ∧ ∃ (a1 : Act) (w1 : World), (∀ K Q, K a1 w1 → o.wp P a w K Q) ∧ ∃ (a2 : Act) (w2 : World), (∀ K Q, K a2 w2 → o2.wp P a1 w1 K Q) ∧ a2.defers = a.defers ∧
      ∃ A', Inv P S ρ A' w2 ∧ Step S ρ A w S ρ A' w2 ∧ RepT P S ρ A' w2 T' a2.tmps.toList := by
  unfold litPair at h
  cases r with
  | nil => simp at h
  | cons o2 r' =>
    simp only at h
    split at h
    · rename_i t len parts t1 t2 d d' hop hop2 hdst
      split at h
      · rename_i hc
        obtain ⟨hg, hg2, rfl, rfl, rfl, hlt⟩ := hc
        split at h
        · rename_i e hu
          split at h
          · rename_i z k hue hz hk
            split at h
            · rename_i hc
              simp only [Bool.and_eq_true, decide_eq_true_eq, ne_eq] at hc
              obtain ⟨⟨⟨c1, c2⟩, c3⟩, c4⟩ := hc
              split at h
              · rename_i ds hds
                simp only [Option.some.injEq] at h; subst h
                obtain ⟨cells', hrun, h1, h2, h3⟩ := litV_run (parts' := parts.map fun (i, x) => (i, a.eval x)) hI hu hz hk c1 (by simpa [List.all_map] using c2) c3 (by simpa using c4) hds (by simpa using repPts_map hT parts.toList)
                have hnew : (w.alloc (.cells cells' e)).heap[w.heap.size]? = some (.cells cells' e (0, 0)) := alloc_new _
                obtain ⟨f1, f2, ⟨f', f3⟩, f4, f5, f6⟩ := freeze_heap hnew cells'.size 1
                obtain ⟨A', g1, g2, g3⟩ := lit_ts (f := f') (w' := (w.alloc (.cells cells' e)).freeze ⟨w.heap.size, cells'.size, none⟩ 1) hI h1 h2 (by rw [f1]; simp) (fun b hb => by rw [f2 b (Nat.ne_of_lt hb)]; exact alloc_old _ hb) f3 f4 f5 f6
                have hl := repT_length hT
                simp only [Array.length_toList] at hl
                have hlt' := Nat.lt_of_lt_of_eq hlt hl.symm
                refine ⟨o2, r', rfl, by simpa using hg, by simpa using hg2, a.put (some d') (.slice (some ⟨w.heap.size, 0, none⟩) len len), w.alloc (.cells cells' e), fun K Q hK => ?_, (a.put (some d') (.slice (some ⟨w.heap.size, 0, none⟩) len len)).put o2.dst (.slice (some ⟨w.heap.size, 0, none⟩) len len), _, fun K Q hK => ?_, by rw [put_defers, put_defers], A', g1, g2, ?_⟩
                · unfold Oper.wp
                  have : (execOp a.eval o).run P w = .ok (.value (.slice (some ⟨w.heap.size, 0, none⟩) len len)) (w.alloc (.cells cells' e)) := by
                    unfold execOp
                    simp only [hop]
                    exact run_v _ hrun
                  rw [this, Oper.upon_value, hdst]
                  exact hK
                · unfold Oper.wp
                  have hev : (a.put (some d') (.slice (some ⟨w.heap.size, 0, none⟩) len len)).eval (.tmp d') = .slice (some ⟨w.heap.size, 0, none⟩) len len := by
                    simp [Act.eval, Act.put, Array.getD_eq_getD_getElem?, hlt']
                  have hsh : (w.alloc (.cells cells' e)).shape? w.heap.size = some (e, cells'.size) := by
                    unfold World.shape?; rw [hnew]
                  have : (execOp (a.put (some d') (.slice (some ⟨w.heap.size, 0, none⟩) len len)).eval o2).run P (w.alloc (.cells cells' e)) = .ok (.value (.slice (some ⟨w.heap.size, 0, none⟩) len len)) ((w.alloc (.cells cells' e)).freeze ⟨w.heap.size, cells'.size, none⟩ 1) := by
                    unfold execOp
                    simp only [hop2, hev]
                    refine run_v _ ?_
                    simp only [convert, Sem.run_bind, run_underlying hu, run_underlying hue, Result.andThen_ok, beq_self_eq_true, markStringish]
                    simp [shape, freeze, Sem.run, hsh]
                  rw [this, Oper.upon_value]
                  exact hK
                · refine repT_put ?_ g3
                  have := repT_set (repT_mono g2.amono g2.keepA g2.sle _ _ hT) d' .junk (.slice (some ⟨w.heap.size, 0, none⟩) len len) trivial
                  simpa [Act.put] using this
              · cases h
            · cases h
          · cases h
        · cases h
      · cases h
    · cases h
theorem dfOk_nil {F : Dfs} {ds : List Deferred} (h : DfOk P S ρ A w F ds) : F = [] → ds = [] := by rintro rfl; exact h
theorem seqV_ok {C : Cfg} {call : CallF} (hext : ExtOk C) (hrun : RunOk C.P call) {ops : Array Oper} : ∀ {rest : List Oper} {k : Nat} {S S' : Store} {T T' : List V} {F F' : Dfs} {x : Ex}, seqV C call ops rest T S F = some (x, T', S', F') → ops.toList.drop k = rest →
    ∀ {ρ : Nat → Nat} {A : Nat → Prop} {w : World} {a : Act} {Q : Exit → Act → World → Prop}, Inv C.P S ρ A w → RepT C.P S ρ A w T a.tmps.toList → DfOk C.P S ρ A w F a.defers → (∀ e a' w', ExPost C.P S ρ A w x T' S' F' e a' w' → Q e a' w') →
    wpOps C.P ops Q (List.range' k rest.length) a w
  | [], k, S, S', T, T', F, F', x, h, hk, ρ, A, w, a, Q, hI, hT, hF, hQ => by
    simp only [seqV, Option.some.injEq, Prod.mk.injEq] at h
    obtain ⟨rfl, rfl, rfl, rfl⟩ := h
    exact hQ _ _ _ ⟨rfl, ρ, A, hI, .refl, hT, hF⟩
  | o :: r, k, S, S', T, T', F, F', x, h, hk, ρ, A, w, a, Q, hI, hT, hF, hQ => by
    have hget : ops[k]? = some o := by
      have : (ops.toList.drop k)[0]? = some o := by rw [hk]; rfl
      simpa using this
    have hk' : ops.toList.drop (k + 1) = r := by
      rw [← List.drop_drop, hk]; rfl
    rw [seqV] at h
    cases hlp : litPair C.P T o r with
    | some T1 =>
      obtain ⟨o2, r', hr, hg1, hg2, a1, w1, k1, a2, w2, k2, hdf, A', g1, g2, g3⟩ := litPair_ok hI hT hlp
      have hlen : r'.length < r.length + 1 := by rw [hr]; simp; omega
      rw [hr] at hlp hk' ⊢
      simp only [hr, hlp] at h
      have hget2 : ops[k + 1]? = some o2 := by
        have : (ops.toList.drop (k + 1))[0]? = some o2 := by rw [hk']; rfl
        simpa using this
      have hk2 : ops.toList.drop (k + 1 + 1) = r' := by
        rw [← List.drop_drop, hk']; rfl
      have hw1 : ∀ y, Region.wanted o y = true := fun y => by simp [Region.wanted, hg1]
      have hw2 : ∀ y, Region.wanted o2 y = true := fun y => by simp [Region.wanted, hg2]
      simp only [List.length_cons, List.range'_succ, wpOps, hget, hget2, hw1, hw2, if_true]
      refine .inl (k1 _ _ (.inl (k2 _ _ ?_)))
      exact seqV_ok hext hrun h hk2 g1 g3 (by rw [hdf]; exact dfOk_step g2 hF) (fun e a' w' he => hQ e a' w' (he.step g2))
    | none =>
    simp only [hlp] at h
    simp only [List.length_cons, List.range'_succ, wpOps, hget]
    cases hw : wantedT ops T o with
    | none => simp [hw] at h
    | some b =>
      rw [wantedT_spec hw hT]
      simp only [hw] at h
      cases b with
      | false =>
        simp only [Bool.false_eq_true, if_false]
        exact seqV_ok hext hrun h hk' hI (repT_put hT repV_undef) (by rw [put_defers]; exact hF) hQ
      | true =>
        simp only [if_true]
        refine .inl ?_
        cases ho : opV C.P S T o with
        | none => simp [ho] at h
        | some rs =>
          refine oper_wp hI hT ho ?_
          cases rs with
          | val v S1 c =>
            simp only [ho] at h
            intro ρ1 A1 w1 u h1 h2 h3
            exact seqV_ok hext hrun h hk' h1 (repT_put (repT_mono h2.amono h2.keepA h2.sle _ _ hT) h3) (by rw [put_defers]; exact dfOk_step h2 hF) (fun e a' w' he => hQ e a' w' (he.step h2))
          | skip S1 c =>
            simp only [ho] at h
            intro ρ1 A1 w1 h1 h2
            exact seqV_ok hext hrun h hk' h1 (repT_put (repT_mono h2.amono h2.keepA h2.sle _ _ hT) repV_undef) (by rw [put_defers]; exact dfOk_step h2 hF) (fun e a' w' he => hQ e a' w' (he.step h2))
          | enter f args =>
            simp only [ho] at h
            intro us hus
            cases hc : callV C call f args S with
            | none => simp [hc] at h
            | some q =>
              obtain ⟨out, S1, c⟩ := q
              refine (callV_ok hext hrun hc hI hus).mono fun e w1 he => ?_
              cases e with
              | returned v =>
                obtain ⟨y, rfl, ρ1, A1, h1, h2, h3⟩ := he
                simp only [hc] at h
                exact seqV_ok hext hrun h hk' h1 (repT_put (repT_mono h2.amono h2.keepA h2.sle _ _ hT) h3) (by rw [put_defers]; exact dfOk_step h2 hF) (fun e a' w' he => hQ e a' w' (he.step h2))
              | panicked chain =>
                obtain ⟨y, v, rfl, rfl, ρ1, A1, h1, h2, h3⟩ := he
                simp only [hc, Option.some.injEq, Prod.mk.injEq] at h
                obtain ⟨rfl, rfl, rfl, rfl⟩ := h
                exact hQ _ _ _ ⟨y, v, rfl, rfl, dfOk_nil hF, ρ1, A1, h1, h2, h3⟩
              | outgrown => exact he.elim
          | dfr f args =>
            simp only [ho] at h
            intro d hd
            refine seqV_ok hext hrun h hk' hI (repT_put (a := { a with defers := d :: a.defers }) hT repV_undef) ?_ hQ
            rw [put_defers]
            exact ⟨d, a.defers, rfl, hd, hF⟩
          | pan v =>
            simp only [ho, Option.some.injEq, Prod.mk.injEq] at h
            obtain ⟨rfl, rfl, rfl, rfl⟩ := h
            intro u hu
            exact hQ _ _ _ ⟨v, u, rfl, rfl, dfOk_nil hF, ρ, A, hI, .refl, hu⟩
termination_by rest => rest.length
decreasing_by all_goals first | exact hlen | (simp_wf; omega) | (simp_wf; done)
end
end Go.Vm
