/- The value machine: every operation. -/
import Derived.Test.YtljefklfoieecaaVmQ
set_option linter.unusedVariables false
set_option linter.unusedSimpArgs false
namespace Go.Vm
section
variable {P : Program} {S : Store} {ρ : Nat → Nat} {A : Nat → Prop} {w w' : World}

theorem repWs_map {T : List V} {a : Act} (hT : RepT P S ρ A w T a.tmps.toList) : ∀ (xs : List Operand), (xs.map (evalO T)).all V.one = true → RepWs P S ρ A w (xs.map (evalO T)) (xs.map a.eval)
  | [], _ => by simp [RepWs]
  | x :: r, h => by
    simp only [List.map_cons, List.all_cons, Bool.and_eq_true] at h
    simp only [List.map_cons, RepWs]
    exact ⟨_, _, rfl, (repV_one h.1).1 (evalO_rep hT x), repWs_map hT r h.2⟩
theorem repT_map {T : List V} {a : Act} (hT : RepT P S ρ A w T a.tmps.toList) : ∀ (xs : List Operand), RepT P S ρ A w (xs.map (evalO T)) (xs.map a.eval)
  | [] => by simp [RepT]
  | x :: r => by
    simp only [List.map_cons, RepT]
    exact ⟨_, _, rfl, evalO_rep hT x, repT_map hT r⟩
theorem repWs_tup {xs : List V} {us : Array Value} (h : RepWs P S ρ A w xs us.toList) : RepV P S ρ A w (.tup xs) (.tuple us) := ⟨us, rfl, h⟩
theorem repVS_of_Ws : ∀ {xs : List V} {us : List Value}, RepWs P S ρ A w xs us → RepVS P S ρ A w xs us
  | [], us, h => by simpa [RepWs, RepVS] using h
  | x :: r, us, h => by
    simp only [RepWs] at h
    obtain ⟨v, us', rfl, h1, h2⟩ := h
    simp only [RepVS]
    exact ⟨v, us', rfl, h1, repVS_of_Ws h2⟩
theorem repWs_of_VS : ∀ {xs : List V} {us : List Value}, RepVS P S ρ A w xs us → RepWs P S ρ A w xs us
  | [], us, h => by simpa [RepWs, RepVS] using h
  | x :: r, us, h => by
    simp only [RepVS] at h
    obtain ⟨v, us', rfl, h1, h2⟩ := h
    simp only [RepWs]
    exact ⟨v, us', rfl, h1, repWs_of_VS h2⟩
theorem repWs_of_S : ∀ {xs : List D} {us : List Value}, RepS A w xs us → RepWs P S ρ A w (xs.map .d) us
  | [], us, h => by simpa [RepWs, RepS] using h
  | x :: r, us, h => by
    simp only [RepS] at h
    obtain ⟨v, us', rfl, h1, h2⟩ := h
    simp only [List.map_cons, RepWs]
    exact ⟨v, us', rfl, repW_d.2 h1, repWs_of_S h2⟩
/-- A function's value. -/
theorem fn_rep {f : Fn} {a b : List V} {u : Value} (h : RepV P S ρ A w (.fn f a b) u) : ∃ fa ca, u = .func f fa ca ∧ RepWs P S ρ A w a fa.toList ∧ RepWs P S ρ A w b ca.toList := by
  have h := (repW_leaf rfl).1 ((repV_one rfl).1 h)
  simp only [RepVC, List.cons.injEq, and_true] at h
  obtain ⟨fa, ca, rfl, h1, h2⟩ := h
  exact ⟨fa, ca, rfl, repWs_of_VS h1, repWs_of_VS h2⟩
theorem dfn_rep {f : Fn} {a b : List D} {u : Value} (h : RepV P S ρ A w (.d (.fn f a b)) u) : ∃ fa ca, u = .func f fa ca ∧ RepWs P S ρ A w (a.map .d) fa.toList ∧ RepWs P S ρ A w (b.map .d) ca.toList := by
  have h := (repX_leaf rfl).1 (repV_d.1 h)
  simp only [RepC, List.cons.injEq, and_true] at h
  obtain ⟨fa, ca, rfl, h1, h2⟩ := h
  exact ⟨fa, ca, rfl, repWs_of_S h1, repWs_of_S h2⟩
theorem run_callFunc {f : FuncId} (h : (bodyOf P f).isSome = true) (us : Array Value) (w : World) : (callFunc f us).run P w = .ok (.enter f us) w := by
  unfold bodyOf at h
  cases hf : P.funcs[f]? with
  | none => simp [hf] at h
  | some fn =>
    simp only [hf] at h
    split at h
    · cases h
    · rename_i hn
      cases hb : fn.body with
      | none => simp [hb] at h
      | some c =>
        have hn' : (fn.name == "runtime.NumGoroutine") = false := by simpa using hn
        have hn2 : ¬ fn.name = "runtime.NumGoroutine" := by simpa using hn
        simp [callFunc, program, Sem.run, hf, hn2, hb]

theorem len_run (hI : Inv P S ρ A w) {t ty : TypeId} {ts : List TypeId} {x : V} {u : Value} {r : Rs} (h : builtinV P S .len (t :: ts) [x] = some r) (hx : RepV P S ρ A w x u) :
    ∃ n c, r = .val (.d (.int .i64 (n : Nat))) S c ∧ (Builtin.len_ (t :: ts).toArray ty #[u]).run P w = .ok (goInt (n : Nat)) w := by
  unfold builtinV at h
  simp only at h
  split at h
  · rename_i n e hu
    simp only [Option.some.injEq] at h; subst h
    exact ⟨n, 0, rfl, by simp [Builtin.len_, run_underlying hu]⟩
  · rename_i hu
    split at h
    · rename_i s
      simp only [Option.some.injEq] at h; subst h
      have hx := (repX_leaf rfl).1 (repV_d.1 hx)
      simp only [RepC, List.cons.injEq, and_true] at hx
      subst hx
      have hl : (⟨s.toArray⟩ : ByteArray).size = s.length := rfl
      exact ⟨s.length, 0, rfl, by simp [Builtin.len_, run_underlying hu, hl]⟩
    · cases h
  · rename_i e hu
    have key : ∀ a n cap, u = .slice a n cap → (Builtin.len_ (t :: ts).toArray ty #[u]).run P w = .ok (goInt (n : Nat)) w := by
      rintro a n cap rfl
      simp [Builtin.len_, run_underlying hu]
    split at h
    · rename_i xs
      simp only [Option.some.injEq] at h; subst h
      obtain ⟨a, cap, rfl, _⟩ := rep_sl (repV_d.1 hx)
      exact ⟨_, 0, rfl, key _ _ _ rfl⟩
    · rename_i xs
      simp only [Option.some.injEq] at h; subst h
      have hx := (repW_leaf rfl).1 ((repV_one rfl).1 hx)
      simp only [RepVC, List.cons.injEq, and_true] at hx
      obtain ⟨a, rfl, _⟩ := hx
      exact ⟨_, 0, rfl, key _ _ _ rfl⟩
    · rename_i id off n
      simp only [Option.some.injEq] at h; subst h
      have hx := (repW_leaf rfl).1 ((repV_one rfl).1 hx)
      simp only [RepVC, List.cons.injEq, and_true] at hx
      obtain ⟨a, cap, rfl, _⟩ := hx
      exact ⟨_, 0, rfl, key _ _ _ rfl⟩
    · rename_i id ix off n
      simp only [Option.some.injEq] at h; subst h
      have hx := (repW_leaf rfl).1 ((repV_one rfl).1 hx)
      simp only [RepVC, List.cons.injEq, and_true] at hx
      obtain ⟨a, cap, rfl, _⟩ := hx
      exact ⟨_, 0, rfl, key _ _ _ rfl⟩
    · cases h
  · rename_i kt et hu
    split at h
    · rename_i es hes
      simp only [Option.some.injEq] at h; subst h
      refine ⟨es.length, 1, rfl, ?_⟩
      rcases entriesV_rep hI hes hx with ⟨rfl, rfl⟩ | ⟨rr, en, clock, rfl, h1, h2⟩
      · simp [Builtin.len_, run_underlying hu]
      · have hl : ∀ {es : List (D × V)} {ms : List MapEntry}, RepEn P S ρ A w es ms → ms.length = es.length := by
          intro es
          induction es with
          | nil => intro ms h; simp only [RepEn] at h; simp [h]
          | cons e r ih =>
            intro ms h
            simp only [RepEn] at h
            obtain ⟨m, ms', rfl, _, _, h3⟩ := h
            simp [ih h3]
        have := hl h2
        simp only [Array.length_toList] at this
        simp [Builtin.len_, run_underlying hu, run_getMap h1, this]
    · cases h
  · cases h

theorem zeroV_fit {e : TypeId} {z : V} (h : zeroV P e = some z) : ∃ v i, P.info? e = some i ∧ i.zero = some v ∧ ofVal v = some z := by
  unfold zeroV at h
  cases hi : P.info? e with
  | none => simp [hi] at h
  | some i =>
    simp only [hi, Option.bind_some] at h
    cases hz : i.zero with
    | none => simp [hz] at h
    | some v => simp only [hz, Option.bind_some] at h; exact ⟨v, i, rfl, hz, h⟩

theorem litC_run (hI : Inv P S ρ A w) {t e : TypeId} {len k : Nat} {z : V} {parts : List (Nat × V)} {parts' : Array (Nat × Value)} (hu : P.underlying t = some (.slice e)) (hz : zeroV P e = some z) (hk : sz P e = some k) (hf : fitsT P e z = true) (hp : (parts.all fun p => p.1 < len && fitsT P e p.2) = true) (hlk : len * k ≤ 16777216) (hk0 : k ≠ 0)
    (hr : RepPts P S ρ A w parts parts'.toList) :
    ∃ cells', (Instr.buildSlice t len parts').run P w = .ok (.slice (some ⟨w.heap.size, 0, none⟩) len len) (w.alloc (.cells cells' e)) ∧ RepVE P S ρ A w k (litV z len parts) cells'.toList ∧ (litV z len parts).length = len := by
  obtain ⟨zv, i, hi, hiz, hzo⟩ := zeroV_fit hz
  have hzr := ofVal_rep (P := P) (S := S) (ρ := ρ) (A := A) (w := w) hzo
  obtain ⟨_, k', hk', hk1, _⟩ := repW_of_fits hf (repV_of_repW hzr)
  rw [hk] at hk'; cases hk'
  have hzc := repW_valcells hzr
  have hrow := rep_zeros hzc hk1 len
  have hp' : (parts.all fun p => p.1 < (List.replicate len z).length && fitsT P e p.2) = true := by simpa using hp
  obtain ⟨cells', hc1, hc2⟩ := fill_lit hk hp' hr hrow
  have hll : (litV z len parts).length = len := by
    have : ∀ (ps : List (Nat × V)) (xs : List V), (ps.foldl (fun xs p => xs.set p.1 p.2) xs).length = xs.length := by
      intro ps
      induction ps with
      | nil => intro xs; rfl
      | cons p r ih => intro xs; simp [ih]
    simp [litV, this]
  have hfz : zv.cells.size = k := hk1
  have hrun : (Instr.buildSlice t len parts').run P w = .ok (.slice (some ⟨w.heap.size, 0, none⟩) len len) (w.alloc (.cells cells' e)) := by
    have h2 : ¬ (len * k > 2 ^ 24) := by omega
    by_cases h0 : len * k = 0
    · have hr0 : (Array.range (len * k)).map (fun i => (zv.cells)[i % k]!) = #[] := by rw [h0]; simp
      rw [hr0] at hc1
      simp [Instr.buildSlice, run_underlying hu, run_sizeOf hk, h0, hc1, newRow, Array.range_zero']
    · have h2' : ¬ (16777216 < len * k) := by omega
      simp [Instr.buildSlice, run_underlying hu, run_sizeOf hk, h0, h2', zeroValue, typeInfo, hi, hiz, hfz, hc1, newRow]
  exact ⟨cells', hrun, hc2, hll⟩
theorem litV_run (hI : Inv P S ρ A w) {t e : TypeId} {len k : Nat} {z : V} {parts : List (Nat × V)} {parts' : Array (Nat × Value)} {ds : List D} (hu : P.underlying t = some (.slice e)) (hz : zeroV P e = some z) (hk : sz P e = some k) (hf : fitsT P e z = true) (hp : (parts.all fun p => p.1 < len && fitsT P e p.2) = true) (hlk : len * k ≤ 16777216) (hk0 : k ≠ 0)
    (hds : allO asD (litV z len parts) = some ds) (hr : RepPts P S ρ A w parts parts'.toList) :
    ∃ cells', (Instr.buildSlice t len parts').run P w = .ok (.slice (some ⟨w.heap.size, 0, none⟩) len len) (w.alloc (.cells cells' e)) ∧ RepE A w k ds cells'.toList ∧ ds.length = len ∧ cells'.size = len * k := by
  obtain ⟨cells', h1, h2, h3⟩ := litC_run hI hu hz hk hf hp hlk hk0 hr
  have hds' := asD_E hds h2
  have hdl : ds.length = len := by rw [← h3]; exact (allO_some hds).1.symm
  refine ⟨cells', h1, hds', hdl, ?_⟩
  have := repE_length hds'
  rw [hdl] at this
  simpa using this
theorem litR_run (hI : Inv P S ρ A w) {t e : TypeId} {len k : Nat} {z : V} {parts : List (Nat × V)} {parts' : Array (Nat × Value)} (hu : P.underlying t = some (.slice e)) (hz : zeroV P e = some z) (hk : sz P e = some k) (hf : fitsT P e z = true) (hp : (parts.all fun p => p.1 < len && fitsT P e p.2) = true) (hlk : len * k ≤ 16777216) (hk0 : k ≠ 0)
    (hr : RepPts P S ρ A w parts parts'.toList) :
    ∃ v w' ρ', (Instr.buildSlice t len parts').run P w = .ok v w' ∧ Inv P (S ++ [.row (litV z len parts) e]) ρ' A w' ∧ Step S ρ A w (S ++ [.row (litV z len parts) e]) ρ' A w' ∧ RepV P (S ++ [.row (litV z len parts) e]) ρ' A w' (.rs S.length 0 len) v := by
  obtain ⟨cells', h1, h2, h3⟩ := litC_run hI hu hz hk hf hp hlk hk0 hr
  obtain ⟨g1, g2⟩ := hI.push (o := .row (litV z len parts) e) (w' := w.alloc (.cells cells' e)) rfl (by simp) (fun b hb => alloc_old _ hb) rfl rfl rfl (fun hs hA => by
    simp only [ObOk]
    exact ⟨k, _, _, [], hk, alloc_new _, by rw [List.append_nil], repVE_mono (fun _ h => h) hA hs _ _ _ h2⟩)
  refine ⟨_, _, _, h1, g1, g2, repV_of_repW ((repW_leaf rfl).2 ?_)⟩
  have hl := repVE_length h2
  rw [h3] at hl
  simp only [RepVC]
  refine ⟨_, _, rfl, ?_⟩
  unfold RowPl
  simp only [List.getElem?_concat_length]
  exact ⟨k, hk, .inl (by simp), by omega, Nat.le_refl _, cells', e, (0, 0), by simp only [if_true]; exact alloc_new _, by simp at hl ⊢; omega⟩
theorem lit_ts {e : TypeId} {k len : Nat} {cells' : Array Value} {ds : List D} {f : Nat × Nat} (hI : Inv P S ρ A w) (h : RepE A w k ds cells'.toList) (hl : ds.length = len) (hsz : w'.heap.size = w.heap.size + 1) (hold : ∀ b, b < w.heap.size → w'.heap[b]? = w.heap[b]?) (hnew : w'.heap[w.heap.size]? = some (.cells cells' e f)) (h1 : w'.os = w.os) (h2 : w'.tape = w.tape) (h3 : w'.output = w.output) :
    ∃ A', Inv P S ρ A' w' ∧ Step S ρ A w S ρ A' w' ∧ RepV P S ρ A' w' (.ts ds) (.slice (some ⟨w.heap.size, 0, none⟩) len len) := by
  obtain ⟨g1, g2⟩ := hI.fresh hsz hold h1 h2 h3
  refine ⟨_, g1, g2, repV_of_repW ((repW_leaf rfl).2 ?_)⟩
  have hsl : RepC (fun b => A b ∨ b = w.heap.size) w' (.sl ds) [.slice (some ⟨w.heap.size, 0, none⟩) len len] := by
    simp only [RepC]
    refine ⟨_, len, by rw [hl], by omega, .inr ⟨_, k, cells'.toList, rfl, rfl, .inr rfl, ⟨cells', e, f, hnew, fun i v hv => by simpa using hv⟩, ?_⟩⟩
    exact repE_mono g2.amono g2.keepA k _ _ h
  simp only [RepVC]
  exact ⟨some ⟨w.heap.size, 0, none⟩, by rw [hl], by simpa only [hl] using hsl⟩
theorem litV_rep (hI : Inv P S ρ A w) {t e : TypeId} {len k : Nat} {z : V} {parts : List (Nat × V)} {parts' : Array (Nat × Value)} {ds : List D} (hu : P.underlying t = some (.slice e)) (hz : zeroV P e = some z) (hk : sz P e = some k) (hf : fitsT P e z = true) (hp : (parts.all fun p => p.1 < len && fitsT P e p.2) = true) (hlk : len * k ≤ 16777216) (hk0 : k ≠ 0)
    (hds : allO asD (litV z len parts) = some ds) (hr : RepPts P S ρ A w parts parts'.toList) :
    ∃ v w' A', (Instr.buildSlice t len parts').run P w = .ok v w' ∧ Inv P S ρ A' w' ∧ Step S ρ A w S ρ A' w' ∧ RepV P S ρ A' w' (.ts ds) v := by
  obtain ⟨cells', hrun, h1, h2, _⟩ := litV_run hI hu hz hk hf hp hlk hk0 hds hr
  obtain ⟨A', g1, g2, g3⟩ := lit_ts (w' := w.alloc (.cells cells' e)) hI h1 h2 (by simp) (fun b hb => alloc_old _ hb) (alloc_new _) rfl rfl rfl
  exact ⟨_, _, A', hrun, g1, g2, g3⟩

theorem next_run (hI : Inv P S ρ A w) {id : Nat} {s : List UInt8} {pos : Nat} {u : Value} {ty : TypeId} (ho : S[id]? = some (.iter s pos)) (hx : RepV P S ρ A w (.it id) u) :
    if pos < s.length then
      ∃ w', (Instr.next u true ty).run P w = .ok (.tuple #[.bool true, goInt pos, .int .i32 (Utf8.decode ⟨s.toArray⟩ pos).1]) w' ∧ Inv P (S.set id (.iter s (pos + (Utf8.decode ⟨s.toArray⟩ pos).2))) ρ A w' ∧ Step S ρ A w (S.set id (.iter s (pos + (Utf8.decode ⟨s.toArray⟩ pos).2))) ρ A w'
    else (Instr.next u true ty).run P w = .ok (.tuple #[.bool false]) w := by
  have hok := hI.ok id _ ho
  have hx := (repW_leaf rfl).1 ((repV_one rfl).1 hx)
  simp only [RepVC, List.cons.injEq, and_true] at hx
  obtain ⟨r, rfl, hpl⟩ := hx
  simp only [ItPl, ho] at hpl
  subst hpl
  simp only [ObOk] at hok
  have hl : (⟨s.toArray⟩ : ByteArray).size = s.length := rfl
  split
  · rename_i hlt
    obtain ⟨t1, t2⟩ := hI.turn (o' := .iter s (pos + (Utf8.decode ⟨s.toArray⟩ pos).2)) (w' := setO w (ρ id) (.stringIter ⟨s.toArray⟩ (pos + (Utf8.decode ⟨s.toArray⟩ pos).2))) ho rfl trivial (setO_size ..) (fun b hb => setO_other _ _ hb) (.inr fun c e f hc => by rw [hok] at hc; cases hc) rfl rfl rfl (.inl rfl) (fun hs hA => by
      simp only [ObOk]
      exact setO_self _ hok)
    refine ⟨_, ?_, t1, t2⟩
    simp [Instr.next, run_getIter hok, hl, hlt, run_setIter hok]
  · rename_i hlt
    simp [Instr.next, run_getIter hok, hl, hlt]
end
end Go.Vm
