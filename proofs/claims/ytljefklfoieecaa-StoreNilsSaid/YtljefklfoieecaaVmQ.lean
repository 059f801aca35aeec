/- The value machine: what single operations come to. Tenth part: writes to maps. -/
import Derived.Test.YtljefklfoieecaaVmP
set_option linter.unusedVariables false
set_option linter.unusedSimpArgs false
namespace Go.Vm
section
variable {P : Program} {S : Store} {ρ : Nat → Nat} {A : Nat → Prop} {w w' : World}

/-- The world with a block's object exchanged. -/
def setO (w : World) (b : Nat) (o : Obj) : World := { w with heap := w.heap.setIfInBounds b o }
theorem setO_size (w : World) (b : Nat) (o : Obj) : (setO w b o).heap.size = w.heap.size := by simp [setO]
theorem setO_other (w : World) {b c : Nat} (o : Obj) (h : c ≠ b) : (setO w b o).heap[c]? = w.heap[c]? := by
  simp [setO, Array.getElem?_setIfInBounds, Ne.symm h]
theorem setO_self {w : World} {b : Nat} {x : Obj} (o : Obj) (h : w.heap[b]? = some x) : (setO w b o).heap[b]? = some o := by
  have := lt_of_heap h
  simp [setO, this]
theorem run_setMap {b : Nat} {en : Array MapEntry} {c : Nat} (h : w.heap[b]? = some (.map en c)) (o : Obj) : (setObj b o).run P w = .ok () (setO w b o) := by
  simp [setObj, Sem.run, h, setO]
theorem run_getMap {b : Nat} {en : Array MapEntry} {c : Nat} (h : w.heap[b]? = some (.map en c)) : (getObj b).run P w = .ok (.map en c) w := by
  simp [getObj, Sem.run, h]
theorem run_setIter {b : Nat} {s : ByteArray} {c : Nat} (h : w.heap[b]? = some (.stringIter s c)) (o : Obj) : (setObj b o).run P w = .ok () (setO w b o) := by
  simp [setObj, Sem.run, h, setO]
theorem run_getIter {b : Nat} {s : ByteArray} {c : Nat} (h : w.heap[b]? = some (.stringIter s c)) : (getObj b).run P w = .ok (.stringIter s c) w := by
  simp [getObj, Sem.run, h]

/-- A map turns in its place. -/
theorem mapTurn (hI : Inv P S ρ A w) {id : Nat} {es es' : List (D × V × Nat)} {clock clock' : Nat} {en en' : Array MapEntry} (ho : S[id]? = some (.mp es clock)) (hh : w.heap[ρ id]? = some (.map en clock))
    (hr : RepVM P S ρ A w es' en'.toList) (h1 : ∀ e ∈ es', e.2.2 < clock') (h2 : (es'.map fun e => e.2.2).Nodup) :
    Inv P (S.set id (.mp es' clock')) ρ A (setO w (ρ id) (.map en' clock')) ∧ Step S ρ A w (S.set id (.mp es' clock')) ρ A (setO w (ρ id) (.map en' clock')) :=
  hI.turn ho rfl trivial (setO_size ..) (fun b hb => setO_other _ _ hb) (.inr fun c e f hc => by rw [hh] at hc; cases hc) rfl rfl rfl (.inl rfl) (fun hs hA => by
    simp only [ObOk]
    exact ⟨en', setO_self _ hh, repVM_mono (fun _ h => h) hA hs _ _ hr, h1, h2⟩)

theorem repVM_length : ∀ {es : List (D × V × Nat)} {ms : List MapEntry}, RepVM P S ρ A w es ms → ms.length = es.length
  | [], ms, h => by simp only [RepVM] at h; simp [h]
  | e :: r, ms, h => by
    simp only [RepVM] at h
    obtain ⟨m, ms', rfl, _, _, _, h3⟩ := h
    simp [repVM_length h3]
theorem repVM_get : ∀ {es : List (D × V × Nat)} {ms : List MapEntry} {i : Nat} {e : D × V × Nat}, RepVM P S ρ A w es ms → es[i]? = some e → ∃ m, ms[i]? = some m ∧ RepX A w e.1 m.key ∧ RepW P S ρ A w e.2.1 m.val ∧ e.2.2 = m.born
  | [], ms, i, e, h, he => by simp at he
  | e0 :: r, ms, i, e, h, he => by
    simp only [RepVM] at h
    obtain ⟨m, ms', rfl, h1, h2, h3, h4⟩ := h
    cases i with
    | zero => simp at he; subst he; exact ⟨m, by simp, h1, h2, h3⟩
    | succ i => simp at he; simpa using repVM_get h4 he
theorem repVM_set : ∀ {es : List (D × V × Nat)} {ms : List MapEntry} {i : Nat} {e : D × V × Nat} {m : MapEntry}, RepVM P S ρ A w es ms → RepX A w e.1 m.key → RepW P S ρ A w e.2.1 m.val → e.2.2 = m.born → RepVM P S ρ A w (es.set i e) (ms.set i m)
  | [], ms, i, e, m, h, _, _, _ => by simp only [RepVM] at h; subst h; simp [RepVM]
  | e0 :: r, ms, i, e, m, h, h1, h2, h3 => by
    simp only [RepVM] at h
    obtain ⟨m0, ms', rfl, g1, g2, g3, g4⟩ := h
    cases i with
    | zero => simp only [List.set_cons_zero, RepVM]; exact ⟨m, ms', rfl, h1, h2, h3, g4⟩
    | succ i => simp only [List.set_cons_succ, RepVM]; exact ⟨m0, _, rfl, g1, g2, g3, repVM_set g4 h1 h2 h3⟩
theorem repVM_snoc : ∀ {es : List (D × V × Nat)} {ms : List MapEntry} {e : D × V × Nat} {m : MapEntry}, RepVM P S ρ A w es ms → RepX A w e.1 m.key → RepW P S ρ A w e.2.1 m.val → e.2.2 = m.born → RepVM P S ρ A w (es ++ [e]) (ms ++ [m])
  | [], ms, e, m, h, h1, h2, h3 => by simp only [RepVM] at h; subst h; simp only [List.nil_append, RepVM]; exact ⟨m, [], rfl, h1, h2, h3, rfl⟩
  | e0 :: r, ms, e, m, h, h1, h2, h3 => by
    simp only [RepVM] at h
    obtain ⟨m0, ms', rfl, g1, g2, g3, g4⟩ := h
    simp only [List.cons_append, RepVM]
    exact ⟨m0, _, rfl, g1, g2, g3, repVM_snoc g4 h1 h2 h3⟩
theorem repVM_erase : ∀ {es : List (D × V × Nat)} {ms : List MapEntry} {i : Nat}, RepVM P S ρ A w es ms → RepVM P S ρ A w (es.eraseIdx i) (ms.eraseIdx i)
  | [], ms, i, h => by simp only [RepVM] at h; subst h; simp [RepVM]
  | e0 :: r, ms, i, h => by
    simp only [RepVM] at h
    obtain ⟨m0, ms', rfl, g1, g2, g3, g4⟩ := h
    cases i with
    | zero => simpa using g4
    | succ i => simp only [List.eraseIdx_cons_succ, RepVM]; exact ⟨m0, _, rfl, g1, g2, g3, repVM_erase g4⟩

/-- The key that stays: the two are the same to the bit. -/
theorem bytes_beq_self (a : ByteArray) : (a == a) = true := by
  obtain ⟨a⟩ := a
  rw [beq_toListBytes]; simp
theorem sameLeaf_bits {x y : D} {u v : Value} {n : Nat} (h : sameLeaf x y = true) (hx : RepC A w x [u]) (hy : RepC A w y [v]) : Instr.sameBits n u v = true := by
  cases x <;> cases y <;> simp only [sameLeaf, Bool.false_eq_true] at h <;>
    · simp only [RepC, List.cons.injEq, and_true] at hx hy
      subst hx; subst hy
      simp only [beq_iff_eq, Bool.and_eq_true] at h
      first
        | (subst h; cases n <;> simp [Instr.sameBits, bytes_beq_self])
        | (obtain ⟨rfl, rfl⟩ := h; cases n <;> simp [Instr.sameBits])
theorem sameAll_bits {n : Nat} : ∀ {xs ys : List D} {us vs : List Value}, sameAll xs ys = true → RepL A w xs us → RepL A w ys vs → us.length = vs.length ∧ (us.zip vs).all (fun (x, y) => Instr.sameBits n x y) = true
  | [], [], us, vs, _, h1, h2 => by simp only [RepL] at h1 h2; subst h1; subst h2; simp
  | [], _ :: _, _, _, h, _, _ => by simp [sameAll] at h
  | _ :: _, [], _, _, h, _, _ => by simp [sameAll] at h
  | x :: xs, y :: ys, us, vs, h, h1, h2 => by
    simp only [sameAll, Bool.and_eq_true] at h
    simp only [RepL] at h1 h2
    obtain ⟨u, us', rfl, _, h3, h4⟩ := h1
    obtain ⟨v, vs', rfl, _, h5, h6⟩ := h2
    obtain ⟨g1, g2⟩ := sameAll_bits (n := n) h.2 h4 h6
    refine ⟨by simp [g1], ?_⟩
    simp only [List.zip_cons_cons, List.all_cons, Bool.and_eq_true]
    exact ⟨sameLeaf_bits h.1 h3 h5, g2⟩
theorem stays_run {x y : D} {u v : Value} (h : sameD x y = true) (hx : RepX A w x u) (hy : RepX A w y v) : (Instr.keyThatStays u v).run P w = .ok v w := by
  have : Instr.sameBits 10000 u v = true := by
    unfold sameD at h
    split at h
    · obtain ⟨us, rfl, h1⟩ := repX_agg.1 hx
      obtain ⟨vs, rfl, h2⟩ := repX_agg.1 hy
      obtain ⟨g1, g2⟩ := sameAll_bits (n := 9999) h h1 h2
      show Instr.sameBits (9999 + 1) _ _ = true
      simp only [Instr.sameBits, Bool.and_eq_true, beq_iff_eq]
      exact ⟨by simpa using g1, g2⟩
    · have gx : x.isAgg = false := by cases x <;> first | rfl | simp [sameLeaf] at h
      have gy : y.isAgg = false := by cases y <;> first | rfl | (cases x <;> simp [sameLeaf] at h)
      exact sameLeaf_bits h ((repX_leaf gx).1 hx) ((repX_leaf gy).1 hy)
  simp [Instr.keyThatStays, this]

/-- A map of the store. -/
theorem mr_rep (hI : Inv P S ρ A w) {id : Nat} {es : List (D × V × Nat)} {clock : Nat} {u : Value} (ho : S[id]? = some (.mp es clock)) (hx : RepV P S ρ A w (.mr id) u) :
    ∃ en, u = .map (some (ρ id)) ∧ w.heap[ρ id]? = some (.map en clock) ∧ RepVM P S ρ A w es en.toList ∧ (∀ e ∈ es, e.2.2 < clock) ∧ (es.map fun e => e.2.2).Nodup := by
  have hok := hI.ok id _ ho
  have hx := (repW_leaf rfl).1 ((repV_one rfl).1 hx)
  simp only [RepVC, List.cons.injEq, and_true] at hx
  obtain ⟨r, rfl, hpl⟩ := hx
  simp only [MapPl, ho] at hpl
  subst hpl
  simp only [ObOk] at hok
  obtain ⟨en, h1, h2, h3, h4⟩ := hok
  exact ⟨en, rfl, h1, h2, h3, h4⟩
theorem findD_map {α β : Type} (f : α → β) {t : TypeId} {k : V} : ∀ {es : List (D × α)} {i : Nat}, findD P t k (es.map fun e => (e.1, f e.2)) i = (findD P t k es i).map fun r => r.map fun q => (q.1, f q.2)
  | [], i => rfl
  | e :: r, i => by
    simp only [List.map_cons, findD]
    cases eqV P t k (.d e.1) with
    | none => rfl
    | some b => cases b with
      | true => rfl
      | false => exact findD_map f
theorem nodup_set {es : List (D × V × Nat)} {i : Nat} {e e' : D × V × Nat} (he : es[i]? = some e) (hb : e'.2.2 = e.2.2) : (es.set i e').map (fun e => e.2.2) = es.map fun e => e.2.2 := by
  rw [List.map_set, hb]
  refine List.ext_getElem? fun j => ?_
  rw [List.getElem?_set]
  by_cases hj : i = j
  · subst hj
    simp only [if_true, List.length_map, List.getElem?_map, he, Option.map_some]
    have : i < es.length := by
      rcases Nat.lt_or_ge i es.length with h | h
      · exact h
      · simp [List.getElem?_eq_none h] at he
    simp [this]
  · simp [hj]
theorem born_set {es : List (D × V × Nat)} {i : Nat} {e e' : D × V × Nat} {clock : Nat} (he : es[i]? = some e) (hb : e'.2.2 = e.2.2) (h : ∀ e ∈ es, e.2.2 < clock) : ∀ e ∈ es.set i e', e.2.2 < clock := by
  intro x hx
  rcases List.mem_or_eq_of_mem_set hx with hx | rfl
  · exact h x hx
  · rw [hb]; exact h e (List.mem_of_getElem? he)
theorem born_snoc {es : List (D × V × Nat)} {k : D} {v : V} {clock : Nat} (h : ∀ e ∈ es, e.2.2 < clock) (h2 : (es.map fun e => e.2.2).Nodup) :
    (∀ e ∈ es ++ [(k, v, clock)], e.2.2 < clock + 1) ∧ ((es ++ [(k, v, clock)]).map fun e => e.2.2).Nodup := by
  refine ⟨fun e he => ?_, ?_⟩
  · rcases List.mem_append.1 he with he | he
    · have := h e he; omega
    · simp at he; subst he; simp
  · rw [List.map_append, List.nodup_append]
    refine ⟨h2, by simp, fun a ha b hb => ?_⟩
    obtain ⟨e, he, rfl⟩ := List.mem_map.1 ha
    simp at hb; subst hb
    have := h e he; omega
theorem modify_of {en : Array MapEntry} {i : Nat} {m : MapEntry} (f : MapEntry → MapEntry) (h : en.toList[i]? = some m) : (en.modify i f).toList = en.toList.set i (f m) := by
  have hi : i < en.toList.length := by
    rcases Nat.lt_or_ge i en.toList.length with h' | h'
    · exact h'
    · simp [List.getElem?_eq_none h'] at h
  rw [Array.toList_modify]
  refine List.ext_getElem? fun j => ?_
  rw [List.getElem?_modify, List.getElem?_set]
  by_cases hj : i = j
  · subst hj; simp only [if_true, h, Option.map_some]; rw [if_pos hi]; rfl
  · simp [hj]
/-- What is found among the store's entries. -/
theorem findKeyM_run {kt : TypeId} {k : V} {u : Value} (hok : keyOk P kt k = true) (hk : RepV P S ρ A w k u) {es : List (D × V × Nat)} {en : List MapEntry} {r : Option (Nat × V × Nat)} (h : findD P kt k es 0 = some r) (he : RepVM P S ρ A w es en) :
    ∃ r', (Instr.findKey kt u en).run P w = .ok r' w ∧ (match r with | none => r' = none | some q => ∃ e m v, es[q.1]? = some e ∧ e.2 = q.2 ∧ en[q.1]? = some m ∧ r' = some (q.1, v) ∧ RepW P S ρ A w q.2.1 v ∧ RepX A w e.1 m.key ∧ RepW P S ρ A w e.2.1 m.val ∧ e.2.2 = m.born) := by
  have h' := findD_map (P := P) (fun (q : V × Nat) => q.1) (t := kt) (k := k) (es := es) (i := 0)
  rw [h] at h'
  obtain ⟨r', h1, h2⟩ := findKey_run hok hk h' (repEn_of_VM he)
  refine ⟨r', h1, ?_⟩
  cases r with
  | none => exact h2
  | some q =>
    obtain ⟨j, x⟩ := q
    obtain ⟨v, rfl, g1, _, kd, g2⟩ := h2
    have hget : ∀ {l : List (D × V × Nat)} {i : Nat} {q : Nat × V × Nat}, findD P kt k l i = some (some q) → ∃ e, i ≤ q.1 ∧ l[q.1 - i]? = some e ∧ e.2 = q.2 := by
      intro l
      induction l with
      | nil => intro i q hq; simp [findD] at hq
      | cons e l ih =>
        intro i q hq
        simp only [findD] at hq
        cases hb : eqV P kt k (.d e.1) with
        | none => simp [hb] at hq
        | some b =>
          cases b with
          | true => simp only [hb, Option.some.injEq] at hq; subst hq; exact ⟨e, Nat.le_refl _, by simp, rfl⟩
          | false =>
            simp only [hb] at hq
            obtain ⟨e', h1, h2, h3⟩ := ih hq
            exact ⟨e', by omega, by rw [show q.1 - i = (q.1 - (i + 1)) + 1 by omega]; simpa using h2, h3⟩
    obtain ⟨e, _, he1, he2⟩ := hget h
    simp only [Nat.sub_zero] at he1
    obtain ⟨m, hm1, hm2, hm3, hm4⟩ := repVM_get he he1
    exact ⟨e, m, v, he1, he2, hm1, rfl, g1, hm2, hm3, hm4⟩

theorem mapUpdateV_run (hI : Inv P S ρ A w) {t : TypeId} {x k v : V} {S' : Store} {ux uk uv : Value} (h : mapUpdateV P S t x k v = some S') (hx : RepV P S ρ A w x ux) (hk : RepV P S ρ A w k uk) (hv : RepV P S ρ A w v uv) :
    ∃ w', (Instr.mapUpdate t ux uk uv).run P w = .ok () w' ∧ Inv P S' ρ A w' ∧ Step S ρ A w S' ρ A w' := by
  unfold mapUpdateV at h
  split at h
  · rename_i kt et hu
    split at h
    · rename_i hok
      simp only [Bool.and_eq_true] at hok
      have hvw := (repV_one hok.2).1 hv
      split at h
      · rename_i id kd hkd
        have hkx := asD_repX hkd hk
        cases ho : S[id]? with
        | none => simp [ho] at h
        | some o =>
          cases o with
          | mp es clock =>
            obtain ⟨en, rfl, hh, hr, hb, hn⟩ := mr_rep hI ho hx
            simp only [ho] at h
            have hck := checkKey_run (P := P) hok.1 hk false 9998
            cases hf : findD P kt k es 0 with
            | none => simp [hf] at h
            | some r =>
              obtain ⟨r', h1, h2⟩ := findKeyM_run hok.1 hk hf hr
              simp only [hf] at h
              cases r with
              | none =>
                simp only [Option.some.injEq] at h; subst h
                simp only at h2; subst h2
                obtain ⟨b1, b2⟩ := born_snoc (k := kd) (v := v) hb hn
                refine ⟨_, ?_, mapTurn hI ho hh (en' := en.push { key := uk, val := uv, born := clock }) (by simpa using repVM_snoc (e := (kd, v, clock)) (m := { key := uk, val := uv, born := clock }) hr hkx hvw rfl) b1 b2⟩
                simp [Instr.mapUpdate, run_underlying hu, run_getMap hh, show (10000 : Nat) = 9998 + 2 from rfl, hck, h1, run_setMap hh]
              | some q =>
                obtain ⟨i, u⟩ := q
                obtain ⟨e, m, v0, g1, g2, g3, rfl, g4, g5, g6, g7⟩ := h2
                simp only [g1] at h
                split at h
                · rename_i hsame
                  simp only [Option.some.injEq] at h; subst h
                  have hst := stays_run (P := P) hsame g5 hkx
                  have hget : (en[i]?).map (·.key) = some m.key := by
                    have : en[i]? = some m := by simpa using g3
                    simp [this]
                  simp only at g2
                  have hb2 : ((kd, v, u.2) : D × V × Nat).2.2 = e.2.2 := by rw [g2]
                  refine ⟨_, ?_, mapTurn hI ho hh (en' := en.modify i fun e => { e with key := uk, val := uv }) ?_ (born_set g1 hb2 hb) (by rw [nodup_set g1 hb2]; exact hn)⟩
                  · simp [Instr.mapUpdate, run_underlying hu, run_getMap hh, show (10000 : Nat) = 9998 + 2 from rfl, hck, h1, run_setMap hh, hget, hst]
                  · rw [modify_of _ g3]
                    exact repVM_set (e := (kd, v, u.2)) hr hkx hvw (by show u.2 = m.born; rw [← g7, g2])
                · cases h
          | _ => simp [ho] at h
      · cases h
    · cases h
  · cases h
theorem mapEntryV_run (hI : Inv P S ρ A w) {t : TypeId} {x k y : V} {S' : Store} {ux uk : Value} (h : mapEntryV P S t x k = some (y, S')) (hx : RepV P S ρ A w x ux) (hk : RepV P S ρ A w k uk) :
    ∃ v w', (Instr.mapEntry t ux uk).run P w = .ok v w' ∧ Inv P S' ρ A w' ∧ Step S ρ A w S' ρ A w' ∧ RepV P S' ρ A w' y v := by
  unfold mapEntryV at h
  split at h
  · rename_i kt et hu
    split at h
    · rename_i hok
      split at h
      · rename_i id kd z hkd hz
        have hkx := asD_repX hkd hk
        cases ho : S[id]? with
        | none => simp [ho] at h
        | some o =>
          cases o with
          | mp es clock =>
            obtain ⟨en, rfl, hh, hr, hb, hn⟩ := mr_rep hI ho hx
            simp only [ho] at h
            have hck := checkKey_run (P := P) hok hk false 9998
            have tupRep : ∀ {S' : Store} {w' : World} {a : V} {n : Nat} {u : Value}, RepW P S' ρ A w' a u → RepV P S' ρ A w' (.tup [a, .d (.int .i64 n)]) (.tuple #[u, goInt n]) := fun h0 => by
              simp only [RepV]
              refine ⟨_, rfl, ?_⟩
              simp only [RepWs]
              exact ⟨_, [_], rfl, h0, _, [], rfl, repW_d.2 ((repX_leaf rfl).2 (by simp [RepC, goInt])), rfl⟩
            cases hf : findD P kt k es 0 with
            | none => simp [hf] at h
            | some r =>
              obtain ⟨r', h1, h2⟩ := findKeyM_run hok hk hf hr
              simp only [hf] at h
              cases r with
              | none =>
                simp only [Option.some.injEq, Prod.mk.injEq] at h
                obtain ⟨rfl, rfl⟩ := h
                simp only at h2; subst h2
                obtain ⟨zv, hz1, hz2⟩ := zeroV_run (S := S) (ρ := ρ) (A := A) (w := w) hz
                obtain ⟨b1, b2⟩ := born_snoc (k := kd) (v := z) hb hn
                obtain ⟨t1, t2⟩ := mapTurn hI ho hh (en' := en.push { key := uk, val := zv, born := clock }) (by simpa using repVM_snoc (e := (kd, z, clock)) (m := { key := uk, val := zv, born := clock }) hr hkx hz2 rfl) b1 b2
                refine ⟨_, _, ?_, t1, t2, tupRep (repW_mono t2.amono t2.keepA t2.sle hz2)⟩
                simp [Instr.mapEntry, run_underlying hu, run_getMap hh, show (10000 : Nat) = 9998 + 2 from rfl, hck, h1, run_setMap hh, hz1]
              | some q =>
                obtain ⟨i, u⟩ := q
                obtain ⟨e, m, v0, g1, g2, g3, rfl, g4, g5, g6, g7⟩ := h2
                simp only [g1] at h
                split at h
                · rename_i hsame
                  simp only [Option.some.injEq, Prod.mk.injEq] at h
                  obtain ⟨rfl, rfl⟩ := h
                  have hst := stays_run (P := P) hsame g5 hkx
                  have hge : en[i]? = some m := by simpa using g3
                  simp only at g2 g4
                  have hb2 : ((kd, u) : D × V × Nat).2.2 = e.2.2 := by rw [g2]
                  obtain ⟨t1, t2⟩ := mapTurn hI ho hh (en' := en.modify i fun e => { e with key := uk }) (by
                    rw [modify_of _ g3]
                    exact repVM_set (e := (kd, u)) hr hkx (by rw [← g2]; exact g6) (by show u.2 = m.born; rw [← g7, g2])) (born_set g1 hb2 hb) (by rw [nodup_set g1 hb2]; exact hn)
                  refine ⟨_, _, ?_, t1, t2, tupRep (n := u.2) (repW_mono t2.amono t2.keepA t2.sle g4)⟩
                  have : u.2 = m.born := by rw [← g7, g2]
                  simp [Instr.mapEntry, run_underlying hu, run_getMap hh, show (10000 : Nat) = 9998 + 2 from rfl, hck, h1, run_setMap hh, hge, hst, this]
                · cases h
          | _ => simp [ho] at h
      · cases h
    · cases h
  · cases h

theorem bornAt_find {n : Int} : ∀ {es : List (D × V × Nat)} {ms : List MapEntry} {i j : Nat}, bornAt n es i = some j → RepVM P S ρ A w es ms → i ≤ j ∧ ms.findIdx? (fun e => (e.born : Int) == n) = some (j - i)
  | [], ms, i, j, h, hr => by simp [bornAt] at h
  | e :: r, ms, i, j, h, hr => by
    simp only [RepVM] at hr
    obtain ⟨m, ms', rfl, _, _, h3, h4⟩ := hr
    simp only [bornAt] at h
    split at h
    · rename_i hq
      simp only [Option.some.injEq] at h; subst h
      exact ⟨Nat.le_refl _, by simp [List.findIdx?_cons, ← h3, hq]⟩
    · rename_i hq
      obtain ⟨g1, g2⟩ := bornAt_find h h4
      refine ⟨by omega, ?_⟩
      have hq' : ((m.born : Int) == n) = false := by rw [← h3]; simpa using hq
      simp only [List.findIdx?_cons, hq', g2, Option.map_some, Bool.false_eq_true, if_false]
      congr 1; omega
theorem entryStoreV_run (hI : Inv P S ρ A w) {t : TypeId} {x st v : V} {S' : Store} {ux us uv : Value} (h : entryStoreV S x st v = some S') (hx : RepV P S ρ A w x ux) (hs : RepV P S ρ A w st us) (hv : RepV P S ρ A w v uv) :
    ∃ w', (Instr.entryStore t ux us uv).run P w = .ok () w' ∧ Inv P S' ρ A w' ∧ Step S ρ A w S' ρ A w' := by
  unfold entryStoreV at h
  split at h
  · cases h
  · rename_i hone
    simp only [Bool.not_eq_true', Bool.not_eq_false] at hone
    have hvw := (repV_one hone).1 hv
    split at h
    · rename_i id kk n
      have hs := (repX_leaf rfl).1 (repV_d.1 hs)
      simp only [RepC, List.cons.injEq, and_true] at hs
      subst hs
      cases ho : S[id]? with
      | none => simp [ho] at h
      | some o =>
        cases o with
        | mp es clock =>
          obtain ⟨en, rfl, hh, hr, hb, hn⟩ := mr_rep hI ho hx
          simp only [ho] at h
          cases hf : bornAt n es 0 with
          | none => simp [hf] at h
          | some i =>
            obtain ⟨_, g2⟩ := bornAt_find hf hr
            simp only [hf] at h
            cases hg : es[i]? with
            | none => simp [hg] at h
            | some e =>
              simp only [hg, Option.some.injEq] at h; subst h
              obtain ⟨m, hm1, hm2, hm3, hm4⟩ := repVM_get hr hg
              have hb2 : ((e.1, v, e.2.2) : D × V × Nat).2.2 = e.2.2 := rfl
              obtain ⟨t1, t2⟩ := mapTurn hI ho hh (en' := en.modify i fun e => { e with val := uv }) (by
                rw [modify_of _ hm1]
                exact repVM_set (e := (e.1, v, e.2.2)) hr hm2 hvw hm4) (born_set hg hb2 hb) (by rw [nodup_set hg hb2]; exact hn)
              refine ⟨_, ?_, t1, t2⟩
              have g3 : en.findIdx? (fun e => (e.born : Int) == n) = some i := by
                obtain ⟨l⟩ := en; simpa using g2
              simp [Instr.entryStore, run_getMap hh, asInt, asIntOf, g3, run_setMap hh]
        | _ => simp [ho] at h
    · cases h
theorem deleteV_run (hI : Inv P S ρ A w) {t ty : TypeId} {ts : List TypeId} {x k : V} {S' : Store} {ux uk : Value} (h : deleteV P S t x k = some S') (hx : RepV P S ρ A w x ux) (hk : RepV P S ρ A w k uk) :
    ∃ w', (Builtin.delete_ (t :: ts).toArray ty #[ux, uk]).run P w = .ok (.tuple #[]) w' ∧ Inv P S' ρ A w' ∧ Step S ρ A w S' ρ A w' := by
  unfold deleteV at h
  split at h
  · rename_i kt et hu
    split at h
    · rename_i hok
      split at h
      · rename_i id
        cases ho : S[id]? with
        | none => simp [ho] at h
        | some o =>
          cases o with
          | mp es clock =>
            obtain ⟨en, rfl, hh, hr, hb, hn⟩ := mr_rep hI ho hx
            simp only [ho] at h
            have hck := checkKey_run (P := P) hok hk en.isEmpty 9998
            cases hf : findD P kt k es 0 with
            | none => simp [hf] at h
            | some r =>
              obtain ⟨r', h1, h2⟩ := findKeyM_run hok hk hf hr
              simp only [hf] at h
              cases r with
              | none =>
                simp only [Option.some.injEq] at h; subst h
                simp only at h2; subst h2
                obtain ⟨t1, t2⟩ := mapTurn hI ho hh (en' := en) hr hb hn
                refine ⟨_, ?_, t1, t2⟩
                simp [Builtin.delete_, run_underlying hu, run_getMap hh, show (10000 : Nat) = 9998 + 2 from rfl, hck, h1, run_setMap hh]
              | some q =>
                obtain ⟨i, u⟩ := q
                obtain ⟨e, m, v0, g1, g2, g3, rfl, g4, g5, g6, g7⟩ := h2
                simp only [Option.some.injEq] at h; subst h
                obtain ⟨t1, t2⟩ := mapTurn hI ho hh (en' := en.eraseIdxIfInBounds i) (clock' := clock) (es' := es.eraseIdx i) (by
                  rw [Array.toList_eraseIdxIfInBounds]
                  exact repVM_erase hr) (fun e he => hb e (List.mem_of_mem_eraseIdx he)) (hn.sublist ((List.eraseIdx_sublist _ _).map _))
                refine ⟨_, ?_, t1, t2⟩
                simp [Builtin.delete_, run_underlying hu, run_getMap hh, show (10000 : Nat) = 9998 + 2 from rfl, hck, h1, run_setMap hh]
          | _ => simp [ho] at h
      · cases h
    · cases h
  · cases h
end
end Go.Vm
