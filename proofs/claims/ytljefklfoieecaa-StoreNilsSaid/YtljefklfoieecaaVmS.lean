/- The value machine: every operation, in one. -/
import Derived.Test.YtljefklfoieecaaVmR
set_option linter.unusedVariables false
set_option linter.unusedSimpArgs false
namespace Go.Vm
section
variable {P : Program} {S : Store} {ρ : Nat → Nat} {A : Nat → Prop} {w w' : World}

theorem run_v (s : Sem Value) {u : Value} {w' : World} (h : s.run P w = .ok u w') : (do pure (Next.value (← s)) : Sem Next).run P w = .ok (.value u) w' := by simp [h]
theorem run_u (s : Sem Unit) {w' : World} (h : s.run P w = .ok () w') : (do s; pure Next.skip : Sem Next).run P w = .ok .skip w' := by simp [h]
theorem sound_v (hI : Inv P S ρ A w) {s : Sem Value} {u : Value} {v : V} {c : Nat} (h : s.run P w = .ok u w) (hv : RepW P S ρ A w v u) : Sound P S ρ A w ((do pure (Next.value (← s)) : Sem Next).run P w) (.val v S c) :=
  sound_same hI (run_v s h) (repV_of_repW hv)

theorem builtinV_run (hI : Inv P S ρ A w) {b : Builtin} {ts : List TypeId} {ty : TypeId} {cs : Array Bool} {xs : List V} {us : Array Value} {r : Rs} (h : builtinV P S b ts xs = some r) (hx : RepT P S ρ A w xs us.toList) :
    Sound P S ρ A w ((builtin b ts.toArray ty cs us).run P w) r := by
  have h0 := h
  unfold builtinV at h
  split at h
  · rename_i t ts' x
    simp only [RepT] at hx
    obtain ⟨u, us', hus, h1, rfl⟩ := hx
    have : us = #[u] := by rw [← Array.toList_inj]; exact hus
    subst this
    obtain ⟨n, c, rfl, g2⟩ := len_run (ty := ty) hI h0 h1
    exact sound_v hI (s := Builtin.len_ _ ty _) g2 (repW_d.2 ((repX_leaf rfl).2 (by simp [RepC, goInt])))
  · rename_i t tx s x
    obtain ⟨⟨y, S', c⟩, hr, rfl⟩ := Option.map_eq_some_iff.1 h
    simp only [RepT] at hx
    obtain ⟨u, us', hus, h1, u2, us2, rfl, h2, rfl⟩ := hx
    have : us = #[u, u2] := by rw [← Array.toList_inj]; exact hus
    subst this
    obtain ⟨v, w', ρ', g1, g2, g3, g4⟩ := appendV_run (ty := ty) hI hr h1 h2
    exact ⟨v, w', ρ', A, run_v _ g1, g2, g3, repV_of_repW g4⟩
  · rename_i t tx s x
    obtain ⟨⟨y, S'⟩, hr, rfl⟩ := Option.map_eq_some_iff.1 h
    simp only [RepT] at hx
    obtain ⟨u, us', hus, h1, u2, us2, rfl, h2, rfl⟩ := hx
    have : us = #[u, u2] := by rw [← Array.toList_inj]; exact hus
    subst this
    obtain ⟨v, w', g1, g2, g3, g4⟩ := copyV_run (ty := ty) hI hr h1 h2
    exact ⟨v, w', ρ, A, run_v _ g1, g2, g3, repV_of_repW g4⟩
  · rename_i t ts' s x
    obtain ⟨S', hr, rfl⟩ := Option.map_eq_some_iff.1 h
    simp only [RepT] at hx
    obtain ⟨u, us', hus, h1, u2, us2, rfl, h2, rfl⟩ := hx
    have : us = #[u, u2] := by rw [← Array.toList_inj]; exact hus
    subst this
    obtain ⟨w', g1, g2, g3⟩ := deleteV_run (ty := ty) (ts := ts') hI hr h1 h2
    exact ⟨_, w', ρ, A, run_v _ g1, g2, g3, repWs_tup (by simp [RepWs])⟩
  · rename_i x r'
    obtain ⟨z, hr, rfl⟩ := Option.map_eq_some_iff.1 h
    simp only [RepT] at hx
    obtain ⟨u, us', hus, h1, h2⟩ := hx
    obtain ⟨v, g1, g2⟩ := foldV_run (g := Builtin.max2) (fun a b c => max2V_run a b c) hr h1 h2
    refine sound_same hI (run_v _ ?_) g2
    simp only [Builtin.max_, hus, g1]
  · rename_i x r'
    obtain ⟨z, hr, rfl⟩ := Option.map_eq_some_iff.1 h
    simp only [RepT] at hx
    obtain ⟨u, us', hus, h1, h2⟩ := hx
    obtain ⟨v, g1, g2⟩ := foldV_run (g := Builtin.min2) (fun a b c => min2V_run a b c) hr h1 h2
    refine sound_same hI (run_v _ ?_) g2
    simp only [Builtin.min_, hus, g1]
  · cases h

theorem opV_run (hI : Inv P S ρ A w) {T : List V} {a : Act} (hT : RepT P S ρ A w T a.tmps.toList) {o : Oper} {r : Rs} (h : opV P S T o = some r) : Sound P S ρ A w ((execOp a.eval o).run P w) r := by
  have ev := fun x => evalO_rep hT x
  unfold opV at h
  unfold execOp
  split at h
  · rename_i x hop
    simp only [Option.some.injEq] at h; subst h
    simp only [hop]
    exact sound_same hI rfl (ev x)
  · rename_i x hop
    simp only [Option.some.injEq] at h; subst h
    simp only [hop]
    exact sound_same hI rfl (ev x)
  · rename_i c x y hop
    simp only [hop]
    have hc := ev c
    split at h
    · rename_i hcv
      rw [hcv] at hc
      have hb := rep_bool hc
      simp only [Option.some.injEq] at h; subst h
      refine sound_same hI (u := a.eval x) ?_ (ev x)
      simp [hb, asBool]
    · rename_i hcv
      rw [hcv] at hc
      have hb := rep_bool hc
      simp only [Option.some.injEq] at h; subst h
      refine sound_same hI (u := a.eval y) ?_ (ev y)
      simp [hb, asBool]
    · cases h
  · rename_i e hop
    simp only [hop]
    split at h
    · rename_i z hz
      split at h
      · rename_i hf
        simp only [Option.some.injEq] at h; subst h
        obtain ⟨zv, hz1, hz2⟩ := zeroV_run (S := S) (ρ := ρ) (A := A) (w := w) hz
        obtain ⟨ρ', g1, g2, g3⟩ := newBox hI hf (repV_of_repW hz2)
        refine ⟨_, _, ρ', A, run_v _ (u := .pointer (some ⟨w.heap.size, 0, none⟩)) ?_, g1, g2, g3⟩
        simp [Instr.alloc, hz1, newVar, newRow]
      · cases h
    · cases h
  · rename_i e x hop
    simp only [hop]
    split at h
    · rename_i hf
      simp only [Option.some.injEq] at h; subst h
      obtain ⟨ρ', g1, g2, g3⟩ := newBox hI hf (ev x)
      refine ⟨_, _, ρ', A, run_v _ (u := .pointer (some ⟨w.heap.size, 0, none⟩)) ?_, g1, g2, g3⟩
      simp [Instr.box, newVar, newRow]
    · cases h
  · rename_i t parts hop
    simp only [hop]
    obtain ⟨y, hy, rfl⟩ := Option.map_eq_some_iff.1 h
    obtain ⟨v, g1, g2⟩ := buildV_run (parts' := parts.map fun (i, x) => (i, a.eval x)) hy (by simpa using repPts_map hT parts.toList)
    exact sound_v hI g1 g2
  · rename_i t len parts hop
    simp only [hop]
    split at h
    · rename_i e hu
      split at h
      · rename_i z k hz hk
        split at h
        · rename_i hc
          simp only [Bool.and_eq_true, decide_eq_true_eq, ne_eq] at hc
          obtain ⟨⟨⟨c1, c2⟩, c3⟩, c4⟩ := hc
          split at h
          · rename_i ds hds
            simp only [Option.some.injEq] at h; subst h
            obtain ⟨v, w', A', g1, g2, g3, g4⟩ := litV_rep (parts' := parts.map fun (i, x) => (i, a.eval x)) hI hu hz hk c1 (by simpa [List.all_map] using c2) c3 (by simpa using c4) hds (by simpa using repPts_map hT parts.toList)
            exact ⟨v, w', ρ, A', run_v _ g1, g2, g3, g4⟩
          · simp only [Option.some.injEq] at h; subst h
            obtain ⟨v, w', ρ', g1, g2, g3, g4⟩ := litR_run (parts := parts.toList.map fun p => (p.1, evalO T p.2)) (parts' := parts.map fun (i, x) => (i, a.eval x)) hI hu hz hk c1 (by simpa [List.all_map] using c2) c3 (by simpa using c4) (by simpa using repPts_map hT parts.toList)
            exact ⟨v, w', ρ', A, run_v _ g1, g2, g3, g4⟩
        · cases h
      · cases h
    · cases h
  · rename_i t x hop
    simp only [hop]
    obtain ⟨y, hy, rfl⟩ := Option.map_eq_some_iff.1 h
    obtain ⟨v, g1, g2⟩ := loadV_run hI hy (ev x)
    exact sound_v hI g1 g2
  · rename_i t x y hop
    simp only [hop]
    obtain ⟨S', hy, rfl⟩ := Option.map_eq_some_iff.1 h
    obtain ⟨w', g1, g2, g3⟩ := storeV_run hI hy (ev x) (ev y)
    exact ⟨w', ρ, A, run_u _ g1, g2, g3⟩
  · rename_i x hop
    simp only [hop]
    have hx := ev x
    split at h
    · rename_i i ix off hxv
      simp only [Option.some.injEq] at h; subst h
      rw [hxv] at hx
      have hx' := (repW_leaf rfl).1 ((repV_one rfl).1 hx)
      simp only [RepVC, List.cons.injEq, and_true] at hx'
      obtain ⟨ad, he, _⟩ := hx'
      rw [he] at hx ⊢
      exact sound_same hI rfl hx
    · rename_i y hxv
      simp only [Option.some.injEq] at h; subst h
      rw [hxv] at hx
      have hx' := (repX_leaf rfl).1 (repV_d.1 hx)
      simp only [RepC, List.cons.injEq, and_true] at hx'
      obtain ⟨ad, us, he, _⟩ := hx'
      rw [he] at hx ⊢
      exact sound_same hI rfl hx
    · rename_i g f c hxv
      simp only [Option.some.injEq] at h; subst h
      rw [hxv] at hx
      obtain ⟨fa, ca, he, _⟩ := fn_rep hx
      rw [he] at hx ⊢
      exact sound_same hI rfl hx
    · cases h
  · rename_i op t x y g hop
    simp only [hop]
    obtain ⟨z, hz, rfl⟩ := Option.map_eq_some_iff.1 h
    obtain ⟨v, g1, g2⟩ := binV_run x y hz (ev x) (ev y)
    exact sound_v hI g1 g2
  · rename_i op t x hop
    simp only [hop]
    obtain ⟨z, hz, rfl⟩ := Option.map_eq_some_iff.1 h
    obtain ⟨v, g1, g2⟩ := unV_run hz (ev x)
    exact sound_v hI g1 g2
  · rename_i src dst x hop
    simp only [hop]
    obtain ⟨⟨z, c⟩, hz, rfl⟩ := Option.map_eq_some_iff.1 h
    obtain ⟨v, w', A', g1, g2, g3, g4⟩ := convertV_run hI hz (ev x)
    exact ⟨v, w', ρ, A', run_v _ g1, g2, g3, repV_of_repW g4⟩
  · rename_i t x hop
    simp only [hop]
    split at h
    · cases h
    · rename_i td hne hu
      split at h
      · rename_i hone
        simp only [Option.some.injEq] at h; subst h
        have hx := (repV_one hone).1 (ev x)
        refine sound_v hI (u := .iface t (a.eval x)) ?_ ((repW_leaf rfl).2 ?_)
        · cases td <;> first | (simp [Instr.makeInterface, run_underlying hu]; done) | exact (hne _ rfl).elim
        · simp only [RepVC]
          exact ⟨_, rfl, hx⟩
      · cases h
    · cases h
  · rename_i fn first caps hop
    simp only [hop]
    split at h
    · rename_i hc
      simp only [Bool.and_eq_true] at hc
      simp only [Option.some.injEq] at h; subst h
      refine sound_v hI (u := .func fn (first.map a.eval) (caps.map a.eval)) rfl ((repW_leaf rfl).2 ?_)
      simp only [RepVC]
      refine ⟨_, _, rfl, ?_, ?_⟩
      · simpa using repVS_of_Ws (repWs_map hT first.toList hc.1)
      · simpa using repVS_of_Ws (repWs_map hT caps.toList hc.2)
    · cases h
  · rename_i t r' hop
    simp only [hop]
    split at h
    · simp only [Option.some.injEq] at h; subst h
      obtain ⟨g1, g2⟩ := hI.push (o := .mp [] 0) (w' := w.alloc (.map #[] 0)) rfl (by simp) (fun b hb => alloc_old _ hb) rfl rfl rfl (fun hs hA => by
        simp only [ObOk]
        exact ⟨#[], alloc_new _, by simp [RepVM], by simp, by simp⟩)
      refine ⟨_, _, _, A, run_v _ (u := .map (some w.heap.size)) ?_, g1, g2, repV_of_repW ((repW_leaf rfl).2 ?_)⟩
      · simp [Instr.makeMap]
      · simp only [RepVC]
        exact ⟨_, rfl, by unfold MapPl; simp⟩
    · cases h
  · rename_i t l c hop
    simp only [hop]
    obtain ⟨⟨y, S'⟩, hy, rfl⟩ := Option.map_eq_some_iff.1 h
    obtain ⟨v, w', ρ', g1, g2, g3, g4⟩ := makeSliceV_run hI hy (ev l) (ev c)
    exact ⟨v, w', ρ', A, run_v _ g1, g2, g3, repV_of_repW g4⟩
  · rename_i t x lo hi hop
    simp only [hop]
    obtain ⟨y, hy, rfl⟩ := Option.map_eq_some_iff.1 h
    obtain ⟨v, g1, g2⟩ := sliceV_run (ulo := lo.map a.eval) (uhi := hi.map a.eval) hI hy (ev x)
      (fun z hz => by obtain ⟨q, rfl, rfl⟩ := Option.map_eq_some_iff.1 hz; exact ⟨_, rfl, ev q⟩) (fun hz => by simpa using hz)
      (fun z hz => by obtain ⟨q, rfl, rfl⟩ := Option.map_eq_some_iff.1 hz; exact ⟨_, rfl, ev q⟩) (fun hz => by simpa using hz)
    exact sound_v hI g1 g2
  · rename_i s x f hop
    simp only [hop]
    obtain ⟨y, hy, rfl⟩ := Option.map_eq_some_iff.1 h
    obtain ⟨v, g1, g2⟩ := fieldAddrV_run hI hy (ev x)
    exact sound_v hI g1 g2
  · rename_i t x ix hop
    simp only [hop]
    obtain ⟨y, hy, rfl⟩ := Option.map_eq_some_iff.1 h
    obtain ⟨v, g1, g2⟩ := indexAddrV_run hI hy (ev x) (ev ix)
    exact sound_v hI g1 g2
  · rename_i s x f hop
    simp only [hop]
    obtain ⟨y, hy, rfl⟩ := Option.map_eq_some_iff.1 h
    obtain ⟨v, g1, g2⟩ := fieldV_run hy (ev x)
    exact sound_v hI g1 g2
  · rename_i t x ix hop
    simp only [hop]
    obtain ⟨y, hy, rfl⟩ := Option.map_eq_some_iff.1 h
    obtain ⟨v, g1, g2⟩ := indexV_run hy (ev x) (ev ix)
    exact sound_v hI g1 g2
  · rename_i t x k ok hop
    simp only [hop]
    obtain ⟨y, hy, rfl⟩ := Option.map_eq_some_iff.1 h
    obtain ⟨v, g1, g2⟩ := lookupV_run hI hy (ev x) (ev k)
    exact sound_same hI (run_v _ g1) g2
  · rename_i t m k x hop
    simp only [hop]
    obtain ⟨S', hy, rfl⟩ := Option.map_eq_some_iff.1 h
    obtain ⟨w', g1, g2, g3⟩ := mapUpdateV_run hI hy (ev m) (ev k) (ev x)
    exact ⟨w', ρ, A, run_u _ g1, g2, g3⟩
  · rename_i t m k hop
    simp only [hop]
    obtain ⟨⟨y, S'⟩, hy, rfl⟩ := Option.map_eq_some_iff.1 h
    obtain ⟨v, w', g1, g2, g3, g4⟩ := mapEntryV_run hI hy (ev m) (ev k)
    exact ⟨v, w', ρ, A, run_v _ g1, g2, g3, g4⟩
  · rename_i t m st x hop
    simp only [hop]
    obtain ⟨S', hy, rfl⟩ := Option.map_eq_some_iff.1 h
    obtain ⟨w', g1, g2, g3⟩ := entryStoreV_run (t := t) hI hy (ev m) (ev st) (ev x)
    exact ⟨w', ρ, A, run_u _ g1, g2, g3⟩
  · rename_i t x hop
    simp only [hop]
    have hx := ev x
    split at h
    · rename_i hu
      split at h
      · rename_i s hxv
        simp only [Option.some.injEq] at h; subst h
        rw [hxv] at hx
        have hx' := (repX_leaf rfl).1 (repV_d.1 hx)
        simp only [RepC, List.cons.injEq, and_true] at hx'
        obtain ⟨g1, g2⟩ := hI.push (o := .iter s 0) (w' := w.alloc (.stringIter ⟨s.toArray⟩ 0)) rfl (by simp) (fun b hb => alloc_old _ hb) rfl rfl rfl (fun hs hA => by
          simp only [ObOk]
          exact alloc_new _)
        refine ⟨_, _, _, A, run_v _ (u := .pointer (some ⟨w.heap.size, 0, none⟩)) ?_, g1, g2, repV_of_repW ((repW_leaf rfl).2 ?_)⟩
        · simp [Instr.range, run_underlying hu, hx']
        · simp only [RepVC]
          exact ⟨_, rfl, by unfold ItPl; simp⟩
      · cases h
    · cases h
  · rename_i it hop
    simp only [hop]
    have hx := ev it
    split at h
    · rename_i id hxv
      rw [hxv] at hx
      cases ho : S[id]? with
      | none => simp [ho] at h
      | some ob =>
        cases ob with
        | iter s pos =>
          simp only [ho] at h
          have hn := next_run (ty := o.type) hI ho hx
          split at h
          · rename_i hlt
            rw [if_pos hlt] at hn
            simp only [Option.some.injEq] at h; subst h
            obtain ⟨w', g1, g2, g3⟩ := hn
            refine ⟨_, w', ρ, A, run_v _ g1, g2, g3, repWs_tup ?_⟩
            simp only [RepWs]
            exact ⟨_, _, rfl, repW_d.2 ((repX_leaf rfl).2 (by simp [RepC])), _, _, rfl, repW_d.2 ((repX_leaf rfl).2 (by simp [RepC, goInt])), _, _, rfl, repW_d.2 ((repX_leaf rfl).2 (by simp [RepC])), rfl⟩
          · rename_i hlt
            rw [if_neg hlt] at hn
            simp only [Option.some.injEq] at h; subst h
            refine sound_same hI (run_v _ hn) (repWs_tup ?_)
            simp only [RepWs]
            exact ⟨_, _, rfl, repW_d.2 ((repX_leaf rfl).2 (by simp [RepC])), rfl⟩
        | _ => simp [ho] at h
    · cases h
  · rename_i t ix hop
    simp only [hop]
    have hx := ev t
    split at h
    · rename_i vs hxv
      rw [hxv] at hx
      obtain ⟨us, hus, hr⟩ := hx
      split at h
      · rename_i v hv
        simp only [Option.some.injEq] at h; subst h
        obtain ⟨u, hu, hvr⟩ := repT_get (repWs_repT hr) ix v hv
        have hu' : us[ix]? = some u := by simpa using hu
        exact sound_same hI (run_v _ (u := u) (by simp [Instr.extract, hus, hu'])) hvr
      · cases h
    · cases h
  · rename_i c hop
    simp only [hop]
    split at h
    · rename_i b hcal
      have := fun cs => builtinV_run (ty := o.type) (cs := cs) (us := c.args.map a.eval) hI h (by simpa using repT_map hT c.args.toList)
      simp [resolve, hcal, invoke]
      exact this _
    · rename_i f hcal
      have hf := ev f
      split at h
      · rename_i g first caps hfv
        rw [hfv] at hf
        obtain ⟨fa, ca, he, h1, h2⟩ := fn_rep hf
        split at h
        · rename_i hc
          simp only [Bool.and_eq_true] at hc
          simp only [Option.some.injEq] at h; subst h
          refine ⟨fa ++ c.args.map a.eval ++ ca, ?_, ?_⟩
          · simp [resolve, hcal, Deferred.ofValue, he, invoke, run_callFunc hc.2]
          · simpa using repWs_append (repWs_append h1 (repWs_map hT c.args.toList hc.1)) h2
        · cases h
      · rename_i g first caps hfv
        rw [hfv] at hf
        obtain ⟨fa, ca, he, h1, h2⟩ := dfn_rep hf
        split at h
        · rename_i hc
          simp only [Bool.and_eq_true] at hc
          simp only [Option.some.injEq] at h; subst h
          refine ⟨fa ++ c.args.map a.eval ++ ca, ?_, ?_⟩
          · simp [resolve, hcal, Deferred.ofValue, he, invoke, run_callFunc hc.2]
          · simpa using repWs_append (repWs_append h1 (repWs_map hT c.args.toList hc.1)) h2
        · cases h
      · cases h
    · cases h
  · rename_i c hop
    simp only [hop]
    split at h
    · rename_i f hcal
      have hf := ev f
      split at h
      · rename_i g first caps hfv
        rw [hfv] at hf
        obtain ⟨fa, ca, he, h1, h2⟩ := fn_rep hf
        split at h
        · rename_i hc
          simp only [Bool.and_eq_true] at hc
          simp only [Option.some.injEq] at h; subst h
          refine ⟨⟨.fn (.func g) ca, fa ++ c.args.map a.eval⟩, .func g, ca, fa ++ c.args.map a.eval ++ ca, ?_, rfl, fun w2 => ?_, ?_⟩
          · simp [resolve, hcal, Deferred.ofValue, he]
          · simp [invoke, run_callFunc hc.2]
          · simpa using repWs_append (repWs_append h1 (repWs_map hT c.args.toList hc.1)) h2
        · cases h
      · cases h
    · cases h
  · rename_i x hop
    simp only [hop]
    have hx := ev x
    split at h
    · rename_i t v hxv
      simp only [Option.some.injEq] at h; subst h
      rw [hxv] at hx
      have hw := (repV_one rfl).1 hx
      have hx' := (repW_leaf rfl).1 hw
      simp only [RepVC, List.cons.injEq, and_true] at hx'
      obtain ⟨u, he, _⟩ := hx'
      refine ⟨a.eval x, ?_, hw⟩
      simp [he, Instr.panic, goPanic, Sem.run]
    · rename_i t v hxv
      simp only [Option.some.injEq] at h; subst h
      rw [hxv] at hx
      have hw := (repV_one rfl).1 hx
      have hx' := (repX_leaf rfl).1 (repW_d.1 hw)
      simp only [RepC, List.cons.injEq, and_true] at hx'
      obtain ⟨u, he, _⟩ := hx'
      refine ⟨a.eval x, ?_, hw⟩
      simp [he, Instr.panic, goPanic, Sem.run]
    · cases h
  · cases h
end
end Go.Vm
