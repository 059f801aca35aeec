/- The value machine: regions that draw their order, whatever the tape says. -/
import Derived.Defers
import Derived.Scope
import Derived.IntWalk
import Derived.Test.YtobgdmgldagjkaaG04
set_option linter.unusedVariables false
set_option linter.unusedSimpArgs false
section
namespace Go.Vm
section
variable {P : Program}
def zt0 (base : Nat) (rem : List (Nat × Nat)) (S : Store) : Prop := ∀ p ∈ rem, p.2 = 2 → S[base + p.1]? = some .hole
def zl8 (ops : Array Oper) (b : List Nat) (p q : Nat × Nat) : Prop := p.1 ≠ q.1 ∧ (b.getD q.1 0).testBit p.1 = false ∧ ∃ x y, ops[p.1]? = some x ∧ ops[q.1]? = some y ∧ kP ops x y = true ∧ z1q p.2 q.2 = true
theorem z39 {C : Cfg} {call : jT} (hcall : jQ call) {ops : Array Oper} {base : Nat} {ws : vA} {p : Nat × Nat} {o : Oper} {T : List V} {v : V} (h : z9g base ws) : z9g base (fun x => ws x ∨ (p.2 = 1 ∧ x = (p.1, z3l C call ops (base + p.1) o T v))) := by
 intro x hx S j ob hj hS hp
 rcases hx with hx | ⟨_, rfl⟩
 ·exact h x hx S j ob hj hS hp
 ·exact zau hcall hj hS hp
theorem z0m {C : Cfg} {call : jT} (hcall : jQ call) {ops : Array Oper} {b : List Nat} {base : Nat} {p : Nat × Nat} {l2 : List (Nat × Nat)} {T' : List V} {S' : Store} : ∀ {l1 : List (Nat × Nat)} {ws : vA} {T : List V} {S : Store}, z9g base ws → (∀ x, ws x → x.1 ≠ p.1) → (p.2 = 2 → S[base + p.1]? = some .hole) → RunsW C call ops b base ws (l1 ++ p :: l2) T S T' S' → (∀ q ∈ l1, zl8 ops b q p) → RunsW C call ops b base ws (p :: (l1 ++ l2)) T S T' S'
 | [], ws, T, S, _, _, _, h, _ => h
 | q :: l1, ws, T, S, hcl, hws, hh, h, ha => by
  obtain ⟨o1, v1, S1, h1, h2, h3, h4⟩ := h
  obtain ⟨hne, hbit, x, y, hx, hy, e1, e2⟩ := ha q (by simp)
  have g := z0m hcall (z39 hcall hcl) (fun z hz => by
   rcases hz with hz | ⟨_, rfl⟩
   ·exact hws z hz
   ·exact hne) (fun h2' => (wW hcall .hole (hh h2') (by omega) h2).2) h4 (fun q' hq => ha q' (by simp [hq]))
  exact zhy hcall hcl hws hne hx hy e1 e2 hbit hh ⟨o1, v1, S1, h1, h2, h3, g⟩
theorem z7g {C : Cfg} {call : jT} {ops : Array Oper} {b : List Nat} {base : Nat} {T' : List V} {S' : Store} : ∀ {l : List (Nat × Nat)} {ws : vA} {T : List V} {S : Store}, RunsW C call ops b base ws l T S T' S' → ∀ p ∈ l, p.1 < ops.size
 | [], _, _, _, _, p, hp => by simp at hp
 | q :: l, ws, T, S, h, p, hp => by
  obtain ⟨o, v, S1, h1, _, _, h3⟩ := h
  rcases List.mem_cons.1 hp with rfl | hp
  ·rcases Nat.lt_or_ge p.1 ops.size with h' | h'
   ·exact h'
   ·simp [h'] at h1
  ·exact z7g h3 p hp
theorem zih {C : Cfg} {call : jT} {ops : Array Oper} {i : Nat} {o : Oper} {T : List V} {S S' : Store} {v : V} (h : effC C call ops i o T S = some (v, S', 2)) : jK o = true := by
 cases hk : jK o with
 | true => rfl
 | false =>
  exfalso
  unfold effC at h
  split at h
  ·cases h
  ·simp at h
  ·rw [if_neg (by simp [hk])] at h
   have n2 : ∀ c, num2 c ≠ 2 := fun c => by unfold num2; split <;> omega
   split at h
   ·simp only [Option.some.injEq, Prod.mk.injEq] at h; exact n2 _ h.2.2
   ·simp at h
   ·split at h
    ·simp only [Option.some.injEq, Prod.mk.injEq] at h; exact n2 _ h.2.2
    ·cases h
   ·cases h
theorem z9n {C : Cfg} {call : jT} {ops : Array Oper} {b : List Nat} {base : Nat} {T' : List V} {S' : Store} : ∀ {l : List (Nat × Nat)} {ws : vA} {T : List V} {S : Store}, RunsW C call ops b base ws l T S T' S' → ∀ p ∈ l, p.2 = 2 → vB ops = ops.size
 | [], _, _, _, _, p, hp, _ => by simp at hp
 | q :: l, ws, T, S, h, p, hp, h2 => by
  obtain ⟨o, v, S1, h1, h4, _, h3⟩ := h
  rcases List.mem_cons.1 hp with rfl | hp
  ·rw [h2] at h4
   have hk := zih h4
   unfold vB
   rw [if_pos]
   rw [Array.any_eq_true']
   exact ⟨o, Array.mem_of_getElem? h1, hk⟩
  ·exact z9n h3 p hp h2
theorem z6p {acc : List Nat} {j : Nat} : ∀ {es : List Edge} {s : Nat}, (z3w acc es s).testBit j = true → s.testBit j = true ∨ ∃ e ∈ es, Region.binds .any e = true ∧ (e.on = j ∨ (acc.getD e.on 0).testBit j = true)
 | [], s, h => .inl h
 | e :: r, s, h => by
  simp only [z3w] at h
  rcases z6p h with h | ⟨e', h1, h2⟩
  ·split at h
   ·rename_i hb
    rw [Nat.testBit_or, Nat.testBit_or, Bool.or_eq_true, Bool.or_eq_true] at h
    rcases h with (h | h) | h
    ·exact .inl h
    ·rw [Nat.testBit_two_pow] at h
     exact .inr ⟨e, by simp, hb, .inl (by simpa using h)⟩
    ·exact .inr ⟨e, by simp, hb, .inr h⟩
   ·exact .inl h
  ·exact .inr ⟨e', by simp [h1], h2⟩
theorem z9k : ∀ {l : List Oper} {acc : List Nat}, (∃ X, zat acc l = acc ++ X ∧ X.length = l.length) ∧ ∀ k o, l[k]? = some o → (zat acc l).getD (acc.length + k) 0 = z3w ((zat acc l).take (acc.length + k)) o.after.toList 0
 | [], acc => ⟨⟨[], by simp [zat], rfl⟩, fun k o h => by simp at h⟩
 | o :: r, acc => by
  obtain ⟨⟨X, hX, hl⟩, ih⟩ := z9k (l := r) (acc := acc ++ [z3w acc o.after.toList 0])
  refine ⟨⟨z3w acc o.after.toList 0 :: X, by simp [zat, hX], by simp [hl]⟩, fun k o' h => ?_⟩
  cases k with
  | zero =>
   simp at h; subst h
   simp only [zat, hX, Nat.add_zero]
   simp [List.getD_eq_getElem?_getD]
  | succ k =>
   simp at h
   have := ih k o' h
   simp only [List.length_append, List.length_cons, List.length_nil, Nat.zero_add] at this
   simp only [zat]
   rw [show acc.length + (k + 1) = acc.length + 1 + k by omega]
   exact this
theorem zcv {ops : Array Oper} {k j : Nat} (h : ((befs ops).getD k 0).testBit j = true) : ∃ o, ops[k]? = some o ∧ ∃ e ∈ o.after.toList, Region.binds .any e = true ∧ (e.on = j ∨ ((befs ops).getD e.on 0).testBit j = true) := by
 obtain ⟨⟨X, hX, hl⟩, hs⟩ := z9k (l := ops.toList) (acc := [])
 have hlen : (befs ops).length = ops.size := by simp [befs, hX, hl]
 cases ho : ops[k]? with
 | none =>
  have : (befs ops).getD k 0 = 0 := by
   have hk : ops.size ≤ k := by simpa using ho
   simp [List.getD_eq_getElem?_getD, List.getElem?_eq_none (by omega : (befs ops).length ≤ k)]
  rw [this] at h; simp at h
 | some o =>
  refine ⟨o, rfl, ?_⟩
  have := hs k o (by simpa using ho)
  simp only [List.length_nil, Nat.zero_add] at this
  rw [befs, this] at h
  rcases z6p h with h | ⟨e, h1, h2, h3⟩
  ·simp at h
  ·refine ⟨e, h1, h2, h3.imp id fun h3 => ?_⟩
   simp only [List.getD_eq_getElem?_getD, List.getElem?_take] at h3 ⊢
   split at h3
   ·exact h3
   ·simp at h3
theorem vN : ∀ {l : List Oper} {i : Nat}, z45 l i = true → ∀ k o, l[k]? = some o → ∀ e ∈ o.after.toList, Region.binds .any e = true → e.on < i + k
 | [], i, _, k, o, h => by simp at h
 | x :: r, i, hk, k, o, h => by
  simp only [z45, Bool.and_eq_true] at hk
  cases k with
  | zero =>
   simp at h; subst h
   intro e he hb
   have := hk.1
   rw [Array.all_eq_true'] at this
   have := this e (by simpa using he)
   rw [hb] at this
   simpa using this
  | succ k =>
   simp at h
   intro e he hb
   have := vN hk.2 k o h e he hb
   omega
theorem zef {C : Cfg} {call : jT} (hext : kD C) (hrun : z9f C.P call) {ops : Array Oper} {i id : Nat} {o : Oper} {S S1 : Store} {T : List V} {v : V} {c : Nat} (hget : ops[i]? = some o) (h : effC C call ops id o T S = some (v, S1, c))
  {ρ : Nat → Nat} {A : Nat → Prop} {w : World} {a : Act} {F : Dfs} {Q : Exit → Act → World → Prop} {K : Act → World → Prop} (hI : Inv C.P S ρ A w) (hT : RepT C.P S ρ A w T a.tmps.toList) (hF : DfOk C.P S ρ A w F a.defers)
  (hK : ∀ ρ' A' w' a', Inv C.P S1 ρ' A' w' → Step S ρ A w S1 ρ' A' w' → RepT C.P S1 ρ' A' w' (putT T o.dst v) a'.tmps.toList → DfOk C.P S1 ρ' A' w' F a'.defers → K a' w') : wpOp C.P ops Q i K a w := by
 unfold wpOp
 simp only [hget]
 unfold effC at h
 cases hw : qB ops T o with
 | none => simp [hw] at h
 | some b =>
  rw [z2b hw hT]
  simp only [hw] at h
  cases b with
  | false =>
   simp only [Bool.false_eq_true, if_false]
   simp only [Option.some.injEq, Prod.mk.injEq] at h
   obtain ⟨rfl, rfl, rfl⟩ := h
   exact hK ρ A w _ hI .refl (wY hT vE) (by rw [put_defers]; exact hF)
  | true =>
   simp only [if_true]
   refine .inl ?_
   cases hk : jK o with
   | true =>
    simp only [hk, if_true] at h
    cases hadd : addO C.P T o with
    | none => simp [hadd] at h
    | some q =>
     obtain ⟨ob, f⟩ := q
     simp only [hadd] at h
     split at h
     ·rename_i hh
      simp only [Option.some.injEq, Prod.mk.injEq] at h
      obtain ⟨rfl, rfl, rfl⟩ := h
      obtain ⟨u, w', g1, g2, g3, g4, g5, g6, g7, g8, g9⟩ := zp2 hI hT hadd
      obtain ⟨k1, k2⟩ := hI.fill (w' := w') hh g2 g3 g4 g5 g6 g7 (fun hs hA => g8 _ _ hs hA)
      unfold Oper.wp
      rw [g1]
      refine hK _ _ _ _ k1 k2 (wY (jZ k2.amono k2.keepA k2.sle _ _ hT) (g9 _ _ id (by simp [z0y hh]) (by simp))) (by rw [put_defers]; exact jX k2 hF)
     ·cases h
   | false =>
    simp only [hk, Bool.false_eq_true, if_false] at h
    cases ho : opV C.P S T o with
    | none => simp [ho] at h
    | some rs =>
     refine zds hI hT ho ?_
     cases rs with
     | val v S2 c2 =>
      simp only [ho, Option.some.injEq, Prod.mk.injEq] at h
      obtain ⟨rfl, rfl, rfl⟩ := h
      intro ρ1 A1 w1 u h1 h2 h3
      exact hK _ _ _ _ h1 h2 (wY (jZ h2.amono h2.keepA h2.sle _ _ hT) h3) (by rw [put_defers]; exact jX h2 hF)
     | skip S2 c2 =>
      simp only [ho, Option.some.injEq, Prod.mk.injEq] at h
      obtain ⟨rfl, rfl, rfl⟩ := h
      intro ρ1 A1 w1 h1 h2
      exact hK _ _ _ _ h1 h2 (wY (jZ h2.amono h2.keepA h2.sle _ _ hT) vE) (by rw [put_defers]; exact jX h2 hF)
     | enter f args =>
      simp only [ho] at h
      intro us hus
      cases hc : jM C call f args S with
      | none => simp [hc] at h
      | some q =>
       obtain ⟨out, S2, c2⟩ := q
       cases out with
       | pan v => simp [hc] at h
       | ret v =>
        simp only [hc, Option.some.injEq, Prod.mk.injEq] at h
        obtain ⟨rfl, rfl, rfl⟩ := h
        refine (zb4 hext hrun hc hI hus).mono fun e w1 he => ?_
        cases e with
        | returned u =>
         obtain ⟨y, hy, ρ1, A1, h1, h2, h3⟩ := he
         cases hy
         exact hK _ _ _ _ h1 h2 (wY (jZ h2.amono h2.keepA h2.sle _ _ hT) h3) (by rw [put_defers]; exact jX h2 hF)
        | panicked chain =>
         obtain ⟨y, v, hy, _⟩ := he
         cases hy
        | outgrown => exact he.elim
     | dfr f args => simp [ho] at h
     | pan v => simp [ho] at h
theorem z3u {ops : Array Oper} {b : List Nat} {p : Nat × Nat} {l2 : List (Nat × Nat)} : ∀ {l1 : List (Nat × Nat)}, vX ops b (l1 ++ p :: l2) = true → (∀ q ∈ l1, z1y ops b q p = true) ∧ (∀ q ∈ l2, z1y ops b p q = true) ∧ vX ops b (l1 ++ l2) = true
 | [], h => by
  simp only [List.nil_append, vX, Bool.and_eq_true, List.all_eq_true] at h
  exact ⟨fun q hq => by simp at hq, h.1, h.2⟩
 | x :: l1, h => by
  simp only [List.cons_append, vX, Bool.and_eq_true, List.all_eq_true] at h
  obtain ⟨g1, g2, g3⟩ := z3u h.2
  refine ⟨fun q hq => ?_, g2, ?_⟩
  ·rcases List.mem_cons.1 hq with rfl | hq
   ·exact h.1 p (by simp)
   ·exact g1 q hq
  ·simp only [List.cons_append, vX, Bool.and_eq_true, List.all_eq_true]
   exact ⟨fun q hq => h.1 q (by rcases List.mem_append.1 hq with hq | hq <;> simp [hq]), g3⟩
theorem zwb {C : Cfg} {call : jT} (hext : kD C) (hrun : z9f C.P call) (hcall : jQ call) {ops : Array Oper} {base : Nat} (hedge : z45 ops.toList 0 = true) {T' : List V} {S' : Store} {F : Dfs} : ∀ (fuel : Nat) {rem : List (Nat × Nat)} {listed : Array Bool} {S : Store} {T : List V} {ws : vA}, rem.length = fuel → RunsW C call ops (befs ops) base ws rem T S T' S' → z9g base ws → (∀ x, ws x → ∀ p ∈ rem, x.1 ≠ p.1) → zt0 base rem S → vX ops (befs ops) rem = true →
  listed.size = ops.size → (∀ i, i < ops.size → (listed[i]? = some false ↔ ∃ c, (i, c) ∈ rem)) → (∀ k j, listed[k]? = some true → ((befs ops).getD k 0).testBit j = true → listed[j]? = some true) →
  ∀ {ρ : Nat → Nat} {A : Nat → Prop} {w : World} {a : Act} {Q : Exit → Act → World → Prop}, Inv C.P S ρ A w → RepT C.P S ρ A w T a.tmps.toList → DfOk C.P S ρ A w F a.defers → (∀ a' w', St C.P S ρ A w T' S' F a' w' → Q .normal a' w') →
  wpAny C.P .any ops Q fuel listed a w := by
 intro fuel
 induction fuel with
 | zero =>
  intro rem listed S T ws hlen hruns hclo hwsn hhol hpair hsz hrem hcl ρ A w a Q hI hT hF hQ
  have : rem = [] := by simpa using hlen
  subst this
  obtain ⟨rfl, rfl⟩ := hruns
  refine ⟨?_, hQ _ _ ⟨ρ, A, hI, .refl, hT, hF⟩⟩
  unfold Region.ready
  rw [List.filter_eq_nil_iff]
  intro i hi hc
  simp only [List.mem_range] at hi
  simp only [Bool.and_eq_true, Bool.not_eq_true'] at hc
  have hl : listed[i]? = some false := by
   have hlt : i < listed.size := by omega
   have := hc.1
   simp [Array.getD, hlt] at this
   simp [hlt, this]
  obtain ⟨c, hc⟩ := (hrem i hi).1 hl
  simp at hc
 | succ fuel ih =>
  intro rem listed S T ws hlen hruns hclo hwsn hhol hpair hsz hrem hcl ρ A w a Q hI hT hF hQ
  have getD_l : ∀ j, listed.getD j false = true ↔ listed[j]? = some true := fun j => by
   rcases Nat.lt_or_ge j listed.size with h | h
   ·simp [Array.getD, h]
   ·simp [Array.getD, h, Nat.not_lt.2 h]
  have ready_spec : ∀ i, i ∈ Region.ready .any ops listed ↔ (i < ops.size ∧ listed[i]? = some false ∧ ∃ o, ops[i]? = some o ∧ ∀ e ∈ o.after.toList, Region.binds .any e = true → listed[e.on]? = some true) := fun i => by
   unfold Region.ready
   rw [List.mem_filter, List.mem_range]
   constructor
   ·rintro ⟨h1, h2⟩
    simp only [Bool.and_eq_true, Bool.not_eq_true'] at h2
    have hlt : i < listed.size := by omega
    have ho : ops[i]? = some ops[i] := by simp [h1]
    refine ⟨h1, ?_, ops[i], ho, fun e he hb => ?_⟩
    ·have := h2.1
     simp [Array.getD, hlt] at this
     simp [hlt, this]
    ·have := h2.2
     rw [ho] at this
     simp only [Option.map_some, Option.getD_some] at this
     rw [Array.all_eq_true'] at this
     have := this e (by simpa using he)
     rw [hb] at this
     exact (getD_l _).1 (by simpa using this)
   ·rintro ⟨h1, h2, o, ho, h3⟩
    refine ⟨h1, ?_⟩
    have hlt : i < listed.size := by omega
    have h2' : listed[i] = false := by simpa [hlt] using h2
    simp only [Bool.and_eq_true, Bool.not_eq_true']
    refine ⟨by simp [Array.getD, hlt, h2'], ?_⟩
    rw [ho]
    simp only [Option.map_some, Option.getD_some]
    rw [Array.all_eq_true']
    intro e he
    cases hb : Region.binds .any e with
    | false => simp
    | true => simp [(getD_l _).2 (h3 e (by simpa using he) hb)]
  refine ⟨fun hnil => ?_, fun i hi => ?_⟩
  ·
   exfalso
   obtain ⟨p, hp⟩ : ∃ p, p ∈ rem := by
    cases rem with
    | nil => simp at hlen
    | cons p r => exact ⟨p, by simp⟩
   have hpl : p.1 < ops.size := z7g hruns p hp
   have key : ∀ n, ∀ i, i ≤ n → i < ops.size → listed[i]? = some false → False := by
    intro n
    induction n with
    | zero =>
     intro i hi0 hi hl
     have : i ∈ Region.ready .any ops listed := (ready_spec i).2 ⟨hi, hl, ops[i], by simp [hi], fun e he hb => by
      have := vN hedge i ops[i] (by simp [hi]) e he hb
      omega⟩
     rw [hnil] at this; simp at this
    | succ n ihn =>
     intro i hi0 hi hl
     have : i ∈ Region.ready .any ops listed := (ready_spec i).2 ⟨hi, hl, ops[i], by simp [hi], fun e he hb => by
      have hlt := vN hedge i ops[i] (by simp [hi]) e he hb
      simp only [Nat.zero_add] at hlt
      have he' : e.on < listed.size := by omega
      cases hv : listed[e.on] with
      | true => simp [he', hv]
      | false => exact (ihn e.on (by omega) (by omega) (by simp [he', hv])).elim⟩
     rw [hnil] at this; simp at this
   obtain ⟨pi, pc⟩ := p
   exact key pi pi (Nat.le_refl _) hpl ((hrem pi hpl).2 ⟨pc, hp⟩)
  ·obtain ⟨hi1, hi2, o, ho, hi3⟩ := (ready_spec i).1 hi
   obtain ⟨c, hc⟩ := (hrem i hi1).1 hi2
   obtain ⟨l1, l2, rfl⟩ := List.append_of_mem hc
   obtain ⟨g1, g2, g3⟩ := z3u hpair
   have hbits : ∀ j, ((befs ops).getD i 0).testBit j = true → listed[j]? = some true := fun j hj => by
    obtain ⟨o', ho', e, he, hb, h3⟩ := zcv hj
    rw [ho] at ho'; cases ho'
    have := hi3 e he hb
    rcases h3 with rfl | h3
    ·exact this
    ·exact hcl _ _ this h3
   have hun : ∀ q ∈ l1 ++ l2, q.1 < ops.size → listed[q.1]? = some false := fun q hq hlt => (hrem q.1 hlt).2 ⟨q.2, by
    rcases List.mem_append.1 hq with h | h <;> simp [h]⟩
   have hap : ∀ q ∈ l1, zl8 ops (befs ops) q (i, c) := fun q hq => by
    have hp := g1 q hq
    have hnb : ((befs ops).getD i 0).testBit q.1 = false := by
     cases hb : ((befs ops).getD i 0).testBit q.1 with
     | false => rfl
     | true =>
      have := hbits _ hb
      have hlt : q.1 < ops.size := by
       rcases Nat.lt_or_ge q.1 listed.size with h' | h'
       ·omega
       ·simp [h'] at this
      have h2 := hun q (by simp [hq]) hlt
      rw [h2] at this; simp at this
    simp only [z1y, Bool.and_eq_true, Bool.or_eq_true] at hp
    refine ⟨by simpa using hp.1, hnb, ?_⟩
    rcases hp.2 with hb | hp
    ·rw [hnb] at hb; cases hb
    ·split at hp
     ·rename_i x y hx hy
      simp only [Bool.and_eq_true] at hp
      exact ⟨x, y, hx, hy, hp.1, hp.2⟩
     ·cases hp
   obtain ⟨o', v1, S1, h1, h2, _, h3⟩ := z0m hcall hclo (fun x hx => hwsn x hx (i, c) (by simp)) (hhol (i, c) (by simp)) hruns hap
   simp only at h1 h2
   rw [ho] at h1; cases h1
   have hne : ∀ q ∈ l1 ++ l2, q.1 ≠ i := fun q hq => by
    rcases List.mem_append.1 hq with h | h
    ·have := g1 _ h; simp only [z1y, Bool.and_eq_true] at this; simpa using this.1
    ·have := g2 _ h; simp only [z1y, Bool.and_eq_true] at this; have := this.1; simp at this; exact fun h => this h.symm
   refine zef hext hrun ho h2 hI hT hF fun ρ1 A1 w1 a1 j1 j2 j3 j4 => ?_
   refine ih (rem := l1 ++ l2) (by simp at hlen ⊢; omega) h3 (z39 hcall hclo) (fun x hx p hp => ?_) (fun p hp h22 => ?_) g3 (by simpa using hsz) (fun k hk => ?_) (fun k j hk hj => ?_) j1 j3 j4 (fun a' w' hs => hQ a' w' (hs.step j2))
   ·rcases hx with hx | ⟨_, rfl⟩
    ·exact hwsn x hx p (by rcases List.mem_append.1 hp with h | h <;> simp [h])
    ·exact fun h => hne p hp h.symm
   ·exact (wW hcall .hole (hhol p (by rcases List.mem_append.1 hp with h | h <;> simp [h]) h22) (by have := hne p hp; omega) h2).2
   ·rw [Array.getElem?_setIfInBounds]
    by_cases hik : i = k
    ·subst hik
     simp only [if_true]
     have hlt : i < listed.size := by omega
     simp only [hlt, if_true]
     constructor
     ·intro h; simp at h
     ·rintro ⟨c', hc'⟩
      exfalso
      rcases List.mem_append.1 hc' with h | h
      ·have := g1 _ h; simp [z1y] at this
      ·have := g2 _ h; simp [z1y] at this
    ·rw [if_neg hik, hrem k hk]
     constructor
     ·rintro ⟨c', hc'⟩
      refine ⟨c', ?_⟩
      rcases List.mem_append.1 hc' with h | h
      ·simp [h]
      ·rcases List.mem_cons.1 h with h | h
       ·simp only [Prod.mk.injEq] at h; exact absurd h.1.symm hik
       ·simp [h]
     ·rintro ⟨c', hc'⟩
      refine ⟨c', ?_⟩
      rcases List.mem_append.1 hc' with h | h <;> simp [h]
   ·have hset : ∀ m, listed[m]? = some true → (listed.setIfInBounds i true)[m]? = some true := fun m hm => by
     rw [Array.getElem?_setIfInBounds]
     by_cases him : i = m
     ·subst him
      have hlt : i < listed.size := by omega
      simp [hlt]
     ·rw [if_neg him]; exact hm
    rw [Array.getElem?_setIfInBounds] at hk
    by_cases hik : i = k
    ·subst hik
     exact hset j (hbits j hj)
    ·rw [if_neg hik] at hk
     exact hset j (hcl k j hk hj)
theorem ztx {C : Cfg} {call : jT} (hext : kD C) (hrun : z9f C.P call) (hcall : jQ call) {ops : Array Oper} {id : Nat} {order : List Nat} {cs : List (Nat × Nat)} {S S' : Store} {T T' : List V} {F : Dfs} (h : seqC C call ops (befs ops) S.length [] order T (S ++ List.replicate (vB ops) .hole) = some (T', S', cs)) (hd : z2k ops cs = true)
  {ρ : Nat → Nat} {A : Nat → Prop} {w : World} {a : Act} {Q : Exit → Act → World → Prop} (hI : Inv C.P S ρ A w) (hT : RepT C.P S ρ A w T a.tmps.toList) (hF : DfOk C.P S ρ A w F a.defers) (hQ : ∀ a' w', St C.P S ρ A w T' S' F a' w' → Q .normal a' w') :
  (Code.region id ops true).wp C.P Q a w := by
 simp only [z2k, Bool.and_eq_true] at hd
 obtain ⟨⟨⟨_, hedge⟩, hall⟩, hpairs⟩ := hd
 obtain ⟨g1, g2⟩ := hI.world (w' := { w with drawn := w.drawn + 1 }) (Nat.le_refl _) (fun _ _ => rfl) rfl rfl rfl
 refine wp_region_any C.mixed ?_
 have hruns := z59 (W := fun _ => False) (fun x hx => hx.elim) h
 have hsize : ∀ p ∈ cs, p.1 < ops.size := z7g hruns
 obtain ⟨g3, g4⟩ := g1.holes (vB ops)
 have hT1 := jZ g2.amono g2.keepA g2.sle _ _ hT
 have hF1 := jX g2 hF
 have hnod : ∀ {l : List (Nat × Nat)}, vX ops (befs ops) l = true → (l.map (·.1)).Nodup := by
  intro l
  induction l with
  | nil => intro _; simp
  | cons p r ih =>
   intro hp
   simp only [vX, Bool.and_eq_true, List.all_eq_true] at hp
   rw [List.map_cons, List.nodup_cons]
   refine ⟨fun hm => ?_, ih hp.2⟩
   obtain ⟨q, hq, he⟩ := List.mem_map.1 hm
   have := hp.1 q hq
   simp [z1y, he] at this
 have hlen : cs.length = ops.size := by
  have h1 : (cs.map (·.1)).length ≤ (List.range ops.size).length := (hnod hpairs).length_le_of_subset (fun x hx => by
   obtain ⟨p, hp, rfl⟩ := List.mem_map.1 hx
   simpa using hsize p hp)
  have h2 : (List.range ops.size).length ≤ (cs.map (·.1)).length := List.nodup_range.length_le_of_subset (fun x hx => by
   rw [List.all_eq_true] at hall
   have := hall x hx
   rw [List.any_eq_true] at this
   obtain ⟨p, hp, he⟩ := this
   exact List.mem_map.2 ⟨p, hp, by simpa using he⟩)
  simp at h1 h2
  omega
 refine zwb hext hrun hcall hedge ops.size hlen hruns (fun x hx => hx.elim) (fun x hx => hx.elim) (fun p hp h2 => ?_) hpairs (by simp) (fun i hi => ?_) (fun k j hk _ => ?_) g3 (jZ g4.amono g4.keepA g4.sle _ _ hT1) (jX g4 hF1) (fun a' w' hs => hQ a' w' ((hs.step g4).step g2))
 ·have h1 := z9n hruns p hp h2
  have := hsize p hp
  rw [h1, List.getElem?_append_right (by omega), List.getElem?_replicate]
  simp; omega
 ·constructor
  ·intro _
   rw [List.all_eq_true] at hall
   have := hall i (by simpa using hi)
   rw [List.any_eq_true] at this
   obtain ⟨p, hp, he⟩ := this
   have : p.1 = i := by simpa using he
   exact ⟨p.2, by rw [← this]; exact hp⟩
  ·intro _; simp [hi]
 ·exfalso
  rw [Array.getElem?_replicate] at hk
  split at hk <;> simp at hk
end
section
variable {P : Program} {S : Store} {ρ : Nat → Nat} {A : Nat → Prop} {w : World}
theorem Inv.kill1 (h : Inv P S ρ A w) (id : Nat) : Inv P (S.set id .dead) ρ A w ∧ Step S ρ A w (S.set id .dead) ρ A w := by
 have get : ∀ j x, (S.set id .dead)[j]? = some x → (j = id ∧ x = .dead) ∨ (j ≠ id ∧ S[j]? = some x) := fun j x hx => by
  by_cases hj : j = id
  ·subst hj
   rw [List.getElem?_set] at hx
   split at hx
   ·split at hx
    ·cases hx; exact .inl ⟨rfl, rfl⟩
    ·cases hx
   ·rename_i hh; exact absurd rfl hh
  ·rw [List.getElem?_set_ne (fun hh => hj hh.symm)] at hx
   exact .inr ⟨hj, hx⟩
 have hle : SLe S ρ w (S.set id .dead) ρ w := by
  intro j o hj hne
  by_cases hji : j = id
  ·subst hji
   refine ⟨.dead, List.getElem?_set_self (z0y hj), ?_, .inl rfl⟩
   cases o <;> trivial
  ·exact ⟨o, by rw [List.getElem?_set_ne (fun hh => hji hh.symm)]; exact hj, o.le_refl, .inr ⟨rfl, fun c e f hc => ⟨c, e, f, hc, rfl⟩⟩⟩
 refine ⟨⟨fun j x hx => ?_, fun i j x y hx hy hxl hyl hij => ?_, fun j x hx hxl => ?_, h.lt, h.gl⟩, ⟨rfl, rfl, rfl, Nat.le_refl _, fun _ _ _ => rfl, fun _ _ => rfl, fun _ h => h, fun _ h => .inl h, fun b hb => ?_, hle⟩⟩
 ·rcases get j x hx with ⟨_, rfl⟩ | ⟨_, hj⟩
  ·trivial
  ·exact (h.ok j x hj).mono (fun _ h => h) (fun _ _ => rfl) hle (fun _ => rfl)
 ·rcases get i x hx with ⟨_, rfl⟩ | ⟨_, hi⟩
  ·cases hxl
  ·rcases get j y hy with ⟨_, rfl⟩ | ⟨_, hj⟩
   ·cases hyl
   ·exact h.inj i j x y hi hj hxl hyl hij
 ·rcases get j x hx with ⟨_, rfl⟩ | ⟨_, hj⟩
  ·cases hxl
  ·exact h.own j x hj hxl
 ·obtain ⟨j, x, hx, hxl, hr⟩ := hb
  rcases get j x hx with ⟨_, rfl⟩ | ⟨_, hj⟩
  ·cases hxl
  ·exact .inl ⟨j, x, hj, hxl, hr⟩
theorem Inv.killAll {base : Nat} : ∀ {l : List Nat} {S : Store}, Inv P S ρ A w → Inv P (killAll base l S) ρ A w ∧ Step S ρ A w (Go.Vm.killAll base l S) ρ A w
 | [], S, h => ⟨h, .refl⟩
 | i :: r, S, h => by
  obtain ⟨h1, h2⟩ := h.kill1 (base + i)
  obtain ⟨h3, h4⟩ := Inv.killAll (l := r) h1
  exact ⟨h3, h2.trans h4⟩
end
theorem z7v {base q : Nat} {ob : Ob} : ∀ {l : List Nat} {S : Store}, q ∈ l → killAll base l (S.set (base + q) ob) = killAll base l S
 | i :: r, S, h => by
  simp only [killAll]
  by_cases hi : i = q
  ·rw [hi, List.set_set]
  ·have hq : q ∈ r := by
    rcases List.mem_cons.1 h with h | h
    ·exact absurd h.symm hi
    ·exact h
   rw [List.set_comm _ _ (by omega : base + q ≠ base + i)]
   exact z7v hq
theorem zaa {C : Cfg} {call : jT} {ops : Array Oper} {b : List Nat} {base q : Nat} {o : Oper} {v : V} {S3 : Store} (ho : ops[q]? = some o) : ∀ {l : List (Nat × Nat)} {ws : vA} {T T' : List V} {S S' : Store}, RunsW C call ops b base ws l T S T' S' → effC C call ops (base + q) o T' S' = some (v, S3, 2) → RunsW C call ops b base ws (l ++ [(q, 2)]) T S (putT T' o.dst v) S3
 | [], ws, T, T', S, S', h, he => by
  obtain ⟨rfl, rfl⟩ := h
  exact ⟨o, v, S3, ho, he, fun h => absurd h (by simp), rfl, rfl⟩
 | p :: l, ws, T, T', S, S', h, he => by
  obtain ⟨o1, v1, S1, h1, h2, h3, h4⟩ := h
  exact ⟨o1, v1, S1, h1, h2, h3, zaa ho h4 he⟩
theorem z9r {C : Cfg} {call : jT} (hcall : jQ call) {ops : Array Oper} {b : List Nat} {base id : Nat} : ∀ {l : List (Nat × Nat)} {ws : vA} {T T' : List V} {S S' : Store}, RunsW C call ops b base ws l T S T' S' → (∀ q ∈ l, base + q.1 ≠ id) → S[id]? = some .hole → S'[id]? = some .hole
 | [], ws, T, T', S, S', h, _, hS => by obtain ⟨rfl, rfl⟩ := h; exact hS
 | p :: l, ws, T, T', S, S', h, hne, hS => by
  obtain ⟨o1, v1, S1, h1, h2, h3, h4⟩ := h
  exact z9r hcall h4 (fun q hq => hne q (by simp [hq])) (wW hcall .hole hS (hne p (by simp)) h2).2
theorem zny {C : Cfg} {call : jT} {ops : Array Oper} {o : Oper} (h : zel C.P o = true) : ∃ (ob : Ob) (v : Nat → V), ∀ (id : Nat) (T : List V) (S : Store), S[id]? = some .hole → effC C call ops id o T S = some (v id, S.set id ob, 2) := by
 obtain ⟨dst, op, ty, pos, after, g⟩ := o
 simp only [zel, Bool.and_eq_true, Option.isNone_iff_eq_none] at h
 obtain ⟨rfl, h⟩ := h
 cases op <;> simp only [Bool.false_eq_true] at h
 rename_i e
 split at h
 ·rename_i z hz
  refine ⟨.row [z] e, fun id => .ref id 0 0, fun id T S hS => ?_⟩
  simp only [effC, qB, jK, addO, hz, h, if_true, hS]
 ·cases h
theorem zif {C : Cfg} {call : jT} {ops : Array Oper} {o : Oper} {T T' : List V} (h : ∀ t ∈ zhr ops o, T[t]? = T'[t]?) (S : Store) : panO C call ops o T S = panO C call ops o T' S := by
 have h0 : ∀ x ∈ o.op.operands.toList, zB T x = zB T' x := fun x hx => by
  cases x with
  | tmp t =>
   have := h t (List.mem_append_left _ (zab hx))
   simp [zB, List.getD_eq_getElem?_getD, this]
  | _ => rfl
 have h1 : opV C.P S T o = opV C.P S T' o := zct h0
 have h2 : qB ops T o = qB ops T' o := by
  unfold qB
  cases hg : o.guard with
  | none => rfl
  | some g =>
   obtain ⟨j, want⟩ := g
   simp only
   unfold qO
   cases hd : (ops[j]?).bind (·.dst) with
   | none => rfl
   | some d =>
    have := h d (List.mem_append_right _ (by simp [hg, hd]))
    simp only [this]
 unfold panO
 rw [h1, h2]
def PanPost (P : Program) (S : Store) (ρ : Nat → Nat) (A : Nat → Prop) (w : World) (Sf : Store) (v : V) (F : Dfs) (a' : Act) (w' : World) (chain : List PanicEntry) : Prop :=
 ∃ u, chain = [{ v := u, recovered := false }] ∧ (F = [] → a'.defers = []) ∧ ∃ ρ' A', Inv P Sf ρ' A' w' ∧ Step S ρ A w Sf ρ' A' w' ∧ RepW P Sf ρ' A' w' v u
theorem PanPost.step {P : Program} {S S1 : Store} {ρ ρ1 : Nat → Nat} {A A1 : Nat → Prop} {w w1 : World} {Sf : Store} {v : V} {F : Dfs} {a' : Act} {w' : World} {chain : List PanicEntry} (h : Step S ρ A w S1 ρ1 A1 w1) (hp : PanPost P S1 ρ1 A1 w1 Sf v F a' w' chain) : PanPost P S ρ A w Sf v F a' w' chain := by
 obtain ⟨u, h1, h2, ρ', A', h3, h4, h5⟩ := hp
 exact ⟨u, h1, h2, ρ', A', h3, h.trans h4, h5⟩
theorem zr3 {C : Cfg} {call : jT} (hext : kD C) (hrun : z9f C.P call) {ops : Array Oper} {i : Nat} {o : Oper} {S S1 : Store} {T : List V} {v : V} (hget : ops[i]? = some o) (h : panO C call ops o T S = some (v, S1))
  {ρ : Nat → Nat} {A : Nat → Prop} {w : World} {a : Act} {F : Dfs} {Q : Exit → Act → World → Prop} {K : Act → World → Prop} {base : Nat} {rest : List Nat} (hI : Inv C.P S ρ A w) (hT : RepT C.P S ρ A w T a.tmps.toList) (hF : DfOk C.P S ρ A w F a.defers)
  (hQ : ∀ a' w' c, PanPost C.P S ρ A w (killAll base rest S1) v F a' w' c → Q (.panic c) a' w') : wpOp C.P ops Q i K a w := by
 unfold wpOp
 simp only [hget]
 unfold panO at h
 cases hw : qB ops T o with
 | none => simp [hw] at h
 | some b =>
  rw [z2b hw hT]
  simp only [hw] at h
  cases b with
  | false => cases h
  | true =>
   simp only [if_true]
   refine .inl ?_
   simp only at h
   split at h
   ·cases h
   ·cases ho : opV C.P S T o with
    | none => simp [ho] at h
    | some rs =>
     refine zds hI hT ho ?_
     cases rs with
     | enter f args =>
      simp only [ho] at h
      intro us hus
      cases hc : jM C call f args S with
      | none => simp [hc] at h
      | some q =>
       obtain ⟨out, S2, c2⟩ := q
       cases out with
       | ret v => simp [hc] at h
       | pan v =>
        simp only [hc, Option.some.injEq, Prod.mk.injEq] at h
        obtain ⟨rfl, rfl⟩ := h
        refine (zb4 hext hrun hc hI hus).mono fun e w1 he => ?_
        cases e with
        | returned u => obtain ⟨y, hy, _⟩ := he; cases hy
        | panicked chain =>
         obtain ⟨y, u, hy, rfl, ρ1, A1, h1, h2, h3⟩ := he
         cases hy
         obtain ⟨k1, k2⟩ := h1.killAll (base := base) (l := rest)
         exact hQ _ _ _ ⟨u, rfl, fun hf => by subst hf; simpa [DfOk] using hF, ρ1, A1, k1, h2.trans k2, z0b k2.amono k2.keepA k2.sle h3⟩
        | outgrown => exact he.elim
     | val _ _ _ => simp [ho] at h
     | skip _ _ => simp [ho] at h
     | dfr f args => simp [ho] at h
     | pan v => simp [ho] at h
theorem zsi {C : Cfg} {call : jT} (hext : kD C) (hrun : z9f C.P call) (hcall : jQ call) {ops : Array Oper} {base : Nat} (hedge : z45 ops.toList 0 = true) {p : Nat} {op : Oper} {rest : List Nat} {v : V} {Sf : Store} {F : Dfs} (hop : ops[p]? = some op) :
  ∀ (fuel : Nat) {pre : List (Nat × Nat)} {un : List Nat} {listed : Array Bool} {S Sp S2 : Store} {T Tp : List V} {ws : vA}, un.length = fuel → un.Nodup → RunsW C call ops (befs ops) base ws pre T S Tp Sp → panO C call ops op Tp Sp = some (v, S2) → killAll base rest S2 = Sf →
  z9g base ws → (∀ x, ws x → ∀ q ∈ pre, x.1 ≠ q.1) → (∀ x, ws x → ∀ i ∈ un, x.1 ≠ i) → (∀ q ∈ pre, q.2 ≠ 2) → vX ops (befs ops) pre = true →
  listed.size = ops.size → (∀ i, i < ops.size → (listed[i]? = some false ↔ i ∈ un)) → (∀ q ∈ pre, q.1 ∈ un) → p ∈ un → (∀ i ∈ un, i < ops.size) → (∀ i ∈ un, (∃ c, (i, c) ∈ pre) ∨ i = p ∨ i ∈ rest) →
  (∀ k j, listed[k]? = some true → ((befs ops).getD k 0).testBit j = true → listed[j]? = some true) →
  (∀ q ∈ pre, q.1 ≠ p ∧ ((befs ops).getD p 0).testBit q.1 = true) →
  (∀ i ∈ rest, i ≠ p ∧ (∀ q ∈ pre, q.1 ≠ i) ∧ (((befs ops).getD i 0).testBit p = true ∨ ∃ x, ops[i]? = some x ∧ zel C.P x = true ∧ kP ops x op = true ∧ ∀ q ∈ pre, ∃ z, ops[q.1]? = some z ∧ kP ops z x = true)) →
  (∀ i ∈ rest, i ∈ un → ((befs ops).getD i 0).testBit p = false → S[base + i]? = some .hole) →
  ∀ {ρ : Nat → Nat} {A : Nat → Prop} {w : World} {a : Act} {Q : Exit → Act → World → Prop}, Inv C.P S ρ A w → RepT C.P S ρ A w T a.tmps.toList → DfOk C.P S ρ A w F a.defers → (∀ a' w' c, PanPost C.P S ρ A w Sf v F a' w' c → Q (.panic c) a' w') →
  wpAny C.P .any ops Q fuel listed a w := by
 intro fuel
 induction fuel with
 | zero =>
  intro pre un listed S Sp S2 T Tp ws hlen hnd hruns hpan hkill hclo hwsn hwsu hc2 hpair hsz hun hpu hpun hulen hcase hcl hpb hrest hhol ρ A w a Q hI hT hF hQ
  have : un = [] := by simpa using hlen
  subst this
  simp at hpun
 | succ fuel ih =>
  intro pre un listed S Sp S2 T Tp ws hlen hnd hruns hpan hkill hclo hwsn hwsu hc2 hpair hsz hun hpu hpun hulen hcase hcl hpb hrest hhol ρ A w a Q hI hT hF hQ
  have getD_l : ∀ j, listed.getD j false = true ↔ listed[j]? = some true := fun j => by
   rcases Nat.lt_or_ge j listed.size with h | h
   ·simp [Array.getD, h]
   ·simp [Array.getD, h, Nat.not_lt.2 h]
  have ready_spec : ∀ i, i ∈ Region.ready .any ops listed ↔ (i < ops.size ∧ listed[i]? = some false ∧ ∃ o, ops[i]? = some o ∧ ∀ e ∈ o.after.toList, Region.binds .any e = true → listed[e.on]? = some true) := fun i => by
   unfold Region.ready
   rw [List.mem_filter, List.mem_range]
   constructor
   ·rintro ⟨h1, h2⟩
    simp only [Bool.and_eq_true, Bool.not_eq_true'] at h2
    have hlt : i < listed.size := by omega
    have ho : ops[i]? = some ops[i] := by simp [h1]
    refine ⟨h1, ?_, ops[i], ho, fun e he hb => ?_⟩
    ·have := h2.1
     simp [Array.getD, hlt] at this
     simp [hlt, this]
    ·have := h2.2
     rw [ho] at this
     simp only [Option.map_some, Option.getD_some] at this
     rw [Array.all_eq_true'] at this
     have := this e (by simpa using he)
     rw [hb] at this
     exact (getD_l _).1 (by simpa using this)
   ·rintro ⟨h1, h2, o, ho, h3⟩
    refine ⟨h1, ?_⟩
    have hlt : i < listed.size := by omega
    have h2' : listed[i] = false := by simpa [hlt] using h2
    simp only [Bool.and_eq_true, Bool.not_eq_true']
    refine ⟨by simp [Array.getD, hlt, h2'], ?_⟩
    rw [ho]
    simp only [Option.map_some, Option.getD_some]
    rw [Array.all_eq_true']
    intro e he
    cases hb : Region.binds .any e with
    | false => simp
    | true => simp [(getD_l _).2 (h3 e (by simpa using he) hb)]
  have unf : ∀ i, i ∈ un → listed[i]? = some false := fun i hi => (hun i (hulen i hi)).2 hi
  refine ⟨fun hnil => ?_, fun i hi => ?_⟩
  ·exfalso
   have key : ∀ n, ∀ i, i ≤ n → i < ops.size → listed[i]? = some false → False := by
    intro n
    induction n with
    | zero =>
     intro i hi0 hi hl
     have : i ∈ Region.ready .any ops listed := (ready_spec i).2 ⟨hi, hl, ops[i], by simp [hi], fun e he hb => by
      have := vN hedge i ops[i] (by simp [hi]) e he hb
      omega⟩
     rw [hnil] at this; simp at this
    | succ n ihn =>
     intro i hi0 hi hl
     have : i ∈ Region.ready .any ops listed := (ready_spec i).2 ⟨hi, hl, ops[i], by simp [hi], fun e he hb => by
      have hlt := vN hedge i ops[i] (by simp [hi]) e he hb
      simp only [Nat.zero_add] at hlt
      have he' : e.on < listed.size := by omega
      cases hv : listed[e.on] with
      | true => simp [he', hv]
      | false => exact (ihn e.on (by omega) (by omega) (by simp [he', hv])).elim⟩
     rw [hnil] at this; simp at this
   exact key p p (Nat.le_refl _) (hulen p hpun) (unf p hpun)
  ·obtain ⟨hi1, hi2, o, ho, hi3⟩ := (ready_spec i).1 hi
   have hiu : i ∈ un := (hun i hi1).1 hi2
   have hbits : ∀ j, ((befs ops).getD i 0).testBit j = true → listed[j]? = some true := fun j hj => by
    obtain ⟨o', ho', e, he, hb, h3⟩ := zcv hj
    rw [ho] at ho'; cases ho'
    have := hi3 e he hb
    rcases h3 with rfl | h3
    ·exact this
    ·exact hcl _ _ this h3
   have nobit : ∀ j ∈ un, ((befs ops).getD i 0).testBit j = false := fun j hj => by
    cases hb : ((befs ops).getD i 0).testBit j with
    | false => rfl
    | true =>
     have h1 := hbits j hb
     rw [unf j hj] at h1
     cases h1
   have hlen' : (un.erase i).length = fuel := by rw [List.length_erase_of_mem hiu]; omega
   have hnd' : (un.erase i).Nodup := hnd.erase i
   have mem' : ∀ j, j ∈ un.erase i ↔ j ≠ i ∧ j ∈ un := fun j => hnd.mem_erase_iff
   have hset : ∀ m, listed[m]? = some true → (listed.setIfInBounds i true)[m]? = some true := fun m hm => by
    rw [Array.getElem?_setIfInBounds]
    by_cases him : i = m
    ·subst him
     have hlt : i < listed.size := by omega
     simp [hlt]
    ·rw [if_neg him]; exact hm
   have hun' : ∀ k, k < ops.size → ((listed.setIfInBounds i true)[k]? = some false ↔ k ∈ un.erase i) := fun k hk => by
    rw [Array.getElem?_setIfInBounds, mem']
    by_cases hik : i = k
    ·subst hik
     have hlt : i < listed.size := by omega
     simp [hlt]
    ·rw [if_neg hik, hun k hk]
     exact ⟨fun h => ⟨fun hh => hik hh.symm, h⟩, fun h => h.2⟩
   have hcl' : ∀ k j, (listed.setIfInBounds i true)[k]? = some true → ((befs ops).getD k 0).testBit j = true → (listed.setIfInBounds i true)[j]? = some true := fun k j hk hj => by
    rw [Array.getElem?_setIfInBounds] at hk
    by_cases hik : i = k
    ·subst hik
     exact hset j (hbits j hj)
    ·rw [if_neg hik] at hk
     exact hset j (hcl k j hk hj)
   by_cases hip : i = p
   ·
    subst hip
    have hpre : pre = [] := by
     cases pre with
     | nil => rfl
     | cons q r =>
      have h1 := (hpb q (by simp)).2
      rw [nobit q.1 (hpu q (by simp))] at h1
      cases h1
    subst hpre
    obtain ⟨rfl, rfl⟩ := hruns
    exact zr3 hext hrun hop hpan hI hT hF (base := base) (rest := rest) (by rw [hkill]; exact hQ)
   ·by_cases hpr : ∃ c, (i, c) ∈ pre
    ·
     obtain ⟨c, hc⟩ := hpr
     obtain ⟨l1, l2, rfl⟩ := List.append_of_mem hc
     obtain ⟨g1, g2, g3⟩ := z3u hpair
     have hap : ∀ q ∈ l1, zl8 ops (befs ops) q (i, c) := fun q hq => by
      have hp := g1 q hq
      have hnb := nobit q.1 (hpu q (by simp [hq]))
      simp only [z1y, Bool.and_eq_true, Bool.or_eq_true] at hp
      refine ⟨by simpa using hp.1, hnb, ?_⟩
      rcases hp.2 with hb | hp
      ·rw [hnb] at hb; cases hb
      ·split at hp
       ·rename_i x y hx hy
        simp only [Bool.and_eq_true] at hp
        exact ⟨x, y, hx, hy, hp.1, hp.2⟩
       ·cases hp
     obtain ⟨o', v1, S1, h1, h2, _, h3⟩ := z0m hcall hclo (fun x hx => hwsn x hx (i, c) (by simp)) (fun h => absurd h (hc2 (i, c) (by simp))) hruns hap
     simp only at h1 h2
     rw [ho] at h1; cases h1
     have hne : ∀ q ∈ l1 ++ l2, q.1 ≠ i := fun q hq => by
      rcases List.mem_append.1 hq with h | h
      ·have := g1 _ h; simp only [z1y, Bool.and_eq_true] at this; simpa using this.1
      ·have := g2 _ h; simp only [z1y, Bool.and_eq_true] at this; have := this.1; simp at this; exact fun h => this h.symm
     have hsub : ∀ q ∈ l1 ++ l2, q ∈ l1 ++ (i, c) :: l2 := fun q hq => by
      rcases List.mem_append.1 hq with h | h <;> simp [h]
     refine zef hext hrun ho h2 hI hT hF fun ρ1 A1 w1 a1 j1 j2 j3 j4 => ?_
     refine ih hlen' hnd' h3 hpan hkill (z39 hcall hclo) (fun x hx q hq => ?_) (fun x hx j hj => ?_) (fun q hq => hc2 q (hsub q hq)) g3 (by simpa using hsz) hun' (fun q hq => (mem' _).2 ⟨hne q hq, hpu q (hsub q hq)⟩) ((mem' _).2 ⟨fun hh => hip hh.symm, hpun⟩) (fun j hj => hulen j ((mem' _).1 hj).2) (fun j hj => ?_) hcl' (fun q hq => hpb q (hsub q hq)) (fun j hj => ?_) (fun j hj hju hjb => ?_) j1 j3 j4 (fun a' w' c' hs => hQ a' w' c' (hs.step j2))
     ·rcases hx with hx | ⟨_, rfl⟩
      ·exact hwsn x hx q (hsub q hq)
      ·exact fun h => hne q hq h.symm
     ·rcases hx with hx | ⟨_, rfl⟩
      ·exact hwsu x hx j ((mem' _).1 hj).2
      ·exact fun h => ((mem' _).1 hj).1 h.symm
     ·rcases hcase j ((mem' _).1 hj).2 with ⟨c', h⟩ | h | h
      ·refine .inl ⟨c', ?_⟩
       rcases List.mem_append.1 h with h | h
       ·simp [h]
       ·rcases List.mem_cons.1 h with h | h
        ·simp only [Prod.mk.injEq] at h; exact absurd h.1 ((mem' _).1 hj).1
        ·simp [h]
      ·exact .inr (.inl h)
      ·exact .inr (.inr h)
     ·obtain ⟨a1, a2, a3⟩ := hrest j hj
      refine ⟨a1, fun q hq => a2 q (hsub q hq), a3.imp id ?_⟩
      rintro ⟨x, b1, b2, b3, b4⟩
      exact ⟨x, b1, b2, b3, fun q hq => b4 q (hsub q hq)⟩
     ·have hji : j ≠ i := ((mem' _).1 hju).1
      exact (wW hcall .hole (hhol j hj ((mem' _).1 hju).2 hjb) (by omega) h2).2
    ·
     have hir : i ∈ rest := by
      rcases hcase i hiu with h | h | h
      ·exact absurd h hpr
      ·exact absurd h hip
      ·exact h
     obtain ⟨a1, a2, a3⟩ := hrest i hir
     have hnp := nobit p hpun
     rcases a3 with a3 | ⟨x, b1, b2, b3, b4⟩
     ·rw [hnp] at a3; cases a3
     ·rw [ho] at b1; cases b1
      obtain ⟨ob, vv, heff⟩ := zny (call := call) (ops := ops) b2
      have hS := hhol i hir hiu hnp
      have hSp : Sp[base + i]? = some .hole := z9r hcall hruns (fun q hq => by have := a2 q hq; omega) hS
      have hr2 := zaa ho hruns (heff _ Tp Sp hSp)
      obtain ⟨o', v1, S1, h1, h2, _, h3⟩ := z0m (p := (i, 2)) (l2 := []) hcall hclo (fun x hx => hwsu x hx i hiu) (fun _ => hS) hr2 (fun q hq => by
       obtain ⟨z, hz, hza⟩ := b4 q hq
       exact ⟨a2 q hq, nobit q.1 (hpu q hq), z, o, hz, ho, hza, by simp [z1q]⟩)
      simp only at h1 h2
      rw [ho] at h1; cases h1
      have h2' := h2
      rw [heff _ T S hS] at h2'
      simp only [Option.some.injEq, Prod.mk.injEq] at h2'
      obtain ⟨rfl, rfl, _⟩ := h2'
      rw [List.append_nil] at h3
      obtain ⟨c1, c2, c3⟩ := z0u b3
      have hpan1 : panO C call ops op (putT Tp o.dst (vv (base + i))) Sp = some (v, S2) := by
       rw [← hpan]
       refine zif (fun t ht => ?_) Sp
       cases hd : o.dst with
       | none => rfl
       | some d =>
        simp only [putT]
        rw [List.getElem?_set_ne]
        rintro rfl
        exact c1 d hd ht
      obtain ⟨hpan2, hS2⟩ := zbv hcall ob hSp hpan1
      refine zef hext hrun ho h2 hI hT hF fun ρ1 A1 w1 a1' j1 j2 j3 j4 => ?_
      refine ih hlen' hnd' h3 hpan2 (by rw [z7v hir]; exact hkill) (z39 hcall hclo) (fun x hx q hq => ?_) (fun x hx j hj => ?_) hc2 hpair (by simpa using hsz) hun' (fun q hq => (mem' _).2 ⟨a2 q hq, hpu q hq⟩) ((mem' _).2 ⟨fun hh => hip hh.symm, hpun⟩) (fun j hj => hulen j ((mem' _).1 hj).2) (fun j hj => hcase j ((mem' _).1 hj).2) hcl' hpb hrest (fun j hj hju hjb => ?_) j1 j3 j4 (fun a' w' c' hs => hQ a' w' c' (hs.step j2))
      ·rcases hx with hx | ⟨h, _⟩
       ·exact hwsn x hx q hq
       ·simp at h
      ·rcases hx with hx | ⟨h, _⟩
       ·exact hwsu x hx j ((mem' _).1 hj).2
       ·simp at h
      ·have hji : j ≠ i := ((mem' _).1 hju).1
       rw [List.getElem?_set_ne (by omega)]
       exact hhol j hj ((mem' _).1 hju).2 hjb
theorem z4h {C : Cfg} {call : jT} {ops : Array Oper} {b : List Nat} {base : Nat} : ∀ {l : List Nat} {ws : List (Nat × List V × V)} {W : vA} {T : List V} {S S2 : Store} {v : V} {cs : List (Nat × Nat)} {p : Nat} {rest : List Nat},
  (∀ x, W x → ∃ w ∈ ws, ∃ o, ops[w.1]? = some o ∧ x = (w.1, z3l C call ops (base + w.1) o w.2.1 w.2.2)) → seqP C call ops b base ws l T S = some (v, S2, cs, p, rest) → ∃ Tp Sp op, RunsW C call ops b base W cs T S Tp Sp ∧ ops[p]? = some op ∧ panO C call ops op Tp Sp = some (v, S2)
 | [], ws, W, T, S, S2, v, cs, p, rest, hW, h => by simp [seqP] at h
 | i :: l, ws, W, T, S, S2, v, cs, p, rest, hW, h => by
  simp only [seqP] at h
  cases ho : ops[i]? with
  | none => simp [ho] at h
  | some o =>
   simp only [ho] at h
   cases hp : panO C call ops o T S with
   | some q =>
    obtain ⟨v1, S1⟩ := q
    simp only [hp, Option.some.injEq, Prod.mk.injEq] at h
    obtain ⟨rfl, rfl, rfl, rfl, rfl⟩ := h
    exact ⟨T, S, o, ⟨rfl, rfl⟩, ho, hp⟩
   | none =>
    simp only [hp] at h
    cases he : effC C call ops (base + i) o T S with
    | none => simp [he] at h
    | some q =>
     obtain ⟨v1, S1, c⟩ := q
     simp only [he] at h
     split at h
     ·cases h
     ·rename_i hc
      cases hr : seqP C call ops b base (if c = 1 then (i, T, v1) :: ws else ws) l (putT T o.dst v1) S1 with
      | none => simp [hr] at h
      | some q2 =>
       obtain ⟨v2, S3, cs2, p2, rest2⟩ := q2
       simp only [hr, Option.some.injEq, Prod.mk.injEq] at h
       obtain ⟨rfl, rfl, rfl, rfl, rfl⟩ := h
       obtain ⟨Tp, Sp, op, g1, g2, g3⟩ := z4h (W := fun x => W x ∨ (c = 1 ∧ x = (i, z3l C call ops (base + i) o T v1))) (fun x hx => by
        rcases hx with hx | ⟨h1, rfl⟩
        ·obtain ⟨w, hw, o2, ho2, rfl⟩ := hW x hx
         refine ⟨w, ?_, o2, ho2, rfl⟩
         split
         ·exact List.mem_cons_of_mem _ hw
         ·exact hw
        ·rw [if_pos h1]
         exact ⟨(i, T, v1), by simp, o, ho, rfl⟩) hr
       refine ⟨Tp, Sp, op, ⟨o, v1, S1, ho, he, fun hp x hx => ?_, g1⟩, g2, g3⟩
       obtain ⟨w, hw, o2, ho2, rfl⟩ := hW x hx
       have hall : (ws.all (jJ C call ops b base i S1)) = true := by
        cases hv : ws.all (jJ C call ops b base i S1) with
        | true => rfl
        | false => exact absurd ⟨hp, hv⟩ hc
       rw [List.all_eq_true] at hall
       exact z6o ho2 (hall w hw)
theorem zmz {ops : Array Oper} {i : Nat} {x : Oper} (h : ops[i]? = some x) (ha : jK x = true) : vB ops = ops.size := by
 unfold vB
 rw [if_pos]
 rw [Array.any_eq_true]
 have hi : i < ops.size := by
  rcases Nat.lt_or_ge i ops.size with h' | h'
  ·exact h'
  ·rw [Array.getElem?_eq_none h'] at h; cases h
 refine ⟨i, hi, ?_⟩
 rw [Array.getElem?_eq_getElem hi] at h
 cases h
 exact ha
theorem zm6 {P : Program} {o : Oper} (h : zel P o = true) : jK o = true := by
 obtain ⟨dst, op, ty, pos, after, g⟩ := o
 simp only [zel, Bool.and_eq_true] at h
 cases op <;> simp at h
 rfl
theorem zen {C : Cfg} {call : jT} (hext : kD C) (hrun : z9f C.P call) (hcall : jQ call) {ops : Array Oper} {id : Nat} {order : List Nat} {cs : List (Nat × Nat)} {p : Nat} {rest : List Nat} {S S' : Store} {T : List V} {v : V} {F : Dfs} (h : seqP C call ops (befs ops) S.length [] order T (S ++ List.replicate (vB ops) .hole) = some (v, S', cs, p, rest)) (hd : zr4 C.P ops cs p rest = true)
  {ρ : Nat → Nat} {A : Nat → Prop} {w : World} {a : Act} {Q : Exit → Act → World → Prop} (hI : Inv C.P S ρ A w) (hT : RepT C.P S ρ A w T a.tmps.toList) (hF : DfOk C.P S ρ A w F a.defers) (hQ : ∀ a' w' c, PanPost C.P S ρ A w (killAll S.length rest S') v F a' w' c → Q (.panic c) a' w') :
  (Code.region id ops true).wp C.P Q a w := by
 simp only [zr4, Bool.and_eq_true] at hd
 obtain ⟨⟨⟨⟨hedge, hall⟩, hpairs⟩, hcs⟩, hrs⟩ := hd
 obtain ⟨g1, g2⟩ := hI.world (w' := { w with drawn := w.drawn + 1 }) (Nat.le_refl _) (fun _ _ => rfl) rfl rfl rfl
 refine wp_region_any C.mixed ?_
 obtain ⟨Tp, Sp, op, hruns, hop, hpan⟩ := z4h (W := fun _ => False) (fun x hx => hx.elim) h
 have hsize : ∀ q ∈ cs, q.1 < ops.size := z7g hruns
 have hp : p < ops.size := by
  rcases Nat.lt_or_ge p ops.size with h' | h'
  ·exact h'
  ·rw [Array.getElem?_eq_none h'] at hop; cases hop
 obtain ⟨g3, g4⟩ := g1.holes (vB ops)
 have hT1 := jZ g2.amono g2.keepA g2.sle _ _ hT
 have hF1 := jX g2 hF
 rw [List.all_eq_true] at hall hcs hrs
 have hrest : ∀ i ∈ rest, i ≠ p ∧ (∀ q ∈ cs, q.1 ≠ i) ∧ (((befs ops).getD i 0).testBit p = true ∨ ∃ x, ops[i]? = some x ∧ zel C.P x = true ∧ kP ops x op = true ∧ ∀ q ∈ cs, ∃ z, ops[q.1]? = some z ∧ kP ops z x = true) := fun i hi => by
  have h1 := hrs i hi
  simp only [Bool.and_eq_true, List.all_eq_true] at h1
  obtain ⟨⟨h1, h2⟩, h3⟩ := h1
  refine ⟨by simpa using h1, fun q hq => by have := h2 q hq; simpa using this, ?_⟩
  rw [Bool.or_eq_true] at h3
  rcases h3 with h3 | h3
  ·exact .inl h3
  ·right
   rw [hop] at h3
   cases hx : ops[i]? with
   | none => rw [hx] at h3; cases h3
   | some x =>
    rw [hx] at h3
    simp only [Bool.and_eq_true, List.all_eq_true] at h3
    refine ⟨x, rfl, h3.1.1, h3.1.2, fun q hq => ?_⟩
    have h4 := h3.2 q hq
    cases hz : ops[q.1]? with
    | none => rw [hz] at h4; cases h4
    | some z => rw [hz] at h4; exact ⟨z, rfl, h4⟩
 refine zsi hext hrun hcall hedge hop ops.size (un := List.range ops.size) (by simp) List.nodup_range hruns hpan rfl (fun x hx => hx.elim) (fun x hx => hx.elim) (fun x hx => hx.elim) (fun q hq => ?_) hpairs (by simp) (fun i hi => ?_) (fun q hq => by simpa using hsize q hq) (by simpa using hp) (fun i hi => by simpa using hi) (fun i hi => ?_) (fun k j hk _ => ?_) (fun q hq => ?_) hrest (fun i hi hiu hb => ?_) g3 (jZ g4.amono g4.keepA g4.sle _ _ hT1) (jX g4 hF1) (fun a' w' c hs => hQ a' w' c ((hs.step g4).step g2))
 ·have h1 := hcs q hq
  simp only [Bool.and_eq_true] at h1
  have := h1.1.2
  simpa using this
 ·simp [hi]
 ·have h1 := hall i hi
  simp only [Bool.or_eq_true, List.any_eq_true] at h1
  rcases h1 with (⟨q, hq, he⟩ | h1) | h1
  ·have : q.1 = i := by simpa using he
   exact .inl ⟨q.2, by rw [← this]; exact hq⟩
  ·exact .inr (.inl (by simpa using h1))
  ·exact .inr (.inr (by simpa using h1))
 ·exfalso
  rw [Array.getElem?_replicate] at hk
  split at hk <;> simp at hk
 ·have h1 := hcs q hq
  simp only [Bool.and_eq_true] at h1
  exact ⟨by have := h1.1.1; simpa using this, h1.2⟩
 ·obtain ⟨_, _, h3⟩ := hrest i hi
  rcases h3 with h3 | ⟨x, h3, h4, _⟩
  ·rw [hb] at h3; cases h3
  ·have hil : i < ops.size := by simpa using hiu
   rw [zmz h3 (zm6 h4), List.getElem?_append_right (by omega), List.getElem?_replicate]
   simp; omega
section
variable {P : Program} {S : Store} {ρ : Nat → Nat} {A : Nat → Prop} {w w' : World}
def zff (P : Program) (c : Code) (Q : Exit → Act → World → Prop) (a : Act) (w : World) : Prop :=
 ∀ (b : Frame) (k : List Item) (cs : List Frame), ∃ e a' w', Q e a' w' ∧ Arrives P (lone (b.at a (.code c :: .inLoop c :: k)) cs w) b k cs e a' w'
theorem zkg {c : Code} {Q : Exit → Act → World → Prop} {a : Act} (h : zff P c Q a w) : (Code.loop c).wp P Q a w := fun b k cs =>
 let ⟨e, a', w', hq, harr⟩ := h b k cs
 ⟨e, a', w', hq, .of_steps (.one step_loop) harr⟩
theorem zcm {c : Code} {Q : Exit → Act → World → Prop} {a : Act} (h : c.wp P (Exit.then (zff P c Q) Q) a w) : zff P c Q a w := by
 intro b k cs
 obtain ⟨e, a₁, w₁, hq, harr⟩ := h b (.inLoop c :: k) cs
 cases e with
 | normal =>
  obtain ⟨e₂, a₂, w₂, hq₂, harr₂⟩ := hq b k cs
  exact ⟨e₂, a₂, w₂, hq₂, .of_steps (Steps.trans harr (.one step_inLoop)) harr₂⟩
 | exit id => exact ⟨_, a₁, w₁, hq, .pass (x := .inLoop c) rfl (fun _ _ => .inl (by simp)) harr⟩
 | goto l => exact ⟨_, a₁, w₁, hq, .pass (x := .inLoop c) rfl (fun _ _ => .inl (by simp)) harr⟩
 | ret => exact ⟨_, a₁, w₁, hq, .pass (x := .inLoop c) rfl (fun _ _ => .inl (by simp)) harr⟩
 | panic ch => exact ⟨_, a₁, w₁, hq, .pass (x := .inLoop c) rfl (fun _ _ => .inl (by simp)) harr⟩
 | outgrown => exact ⟨_, a₁, w₁, hq, .pass (x := .inLoop c) rfl (fun _ _ => .inl (by simp)) harr⟩
def wpL (P : Program) (c : Code) (Q : Exit → Act → World → Prop) (a : Act) (w : World) : Prop := match c with | .loop b => zff P b Q a w | c => c.wp P Q a w
theorem z3i {c : Code} {Q : Exit → Act → World → Prop} {a : Act} (h : wpL P c Q a w) : c.wp P Q a w := by
 cases c with
 | loop b => exact zkg h
 | _ => exact h
theorem zkt {t : TypeId} {x y : V} {u : Value} (h : kC P S t x = some y) (hx : RepV P S ρ A w x u) : ∃ a, u = .pointer (some a) := by
 unfold kC at h
 split at h
 ·have hx := (zG rfl).1 ((zY rfl).1 hx)
  simp only [zP, List.cons.injEq, and_true] at hx
  obtain ⟨a, rfl, _⟩ := hx
  exact ⟨a, rfl⟩
 ·have hx := (zD rfl).1 (jH.1 hx)
  simp only [RepC, List.cons.injEq, and_true] at hx
  obtain ⟨a, us, rfl, _⟩ := hx
  exact ⟨a, rfl⟩
 ·cases h
theorem zc8 {T : List V} {tm : Array Value} (hT : RepT P S ρ A w T tm.toList) (t : Tmp) : RepV P S ρ A w (T.getD t (.tup [])) (tm.getD t undef) := by
 have hl := z1s hT
 simp only [Array.length_toList] at hl
 cases h : T[t]? with
 | some v =>
  obtain ⟨u, hu, hr⟩ := z5c hT t v h
  have hu' : tm[t]? = some u := by simpa using hu
  simp only [List.getD_eq_getElem?_getD, h, Option.getD_some]
  have : tm.getD t undef = u := by
   rw [Array.getD_eq_getD_getElem?, hu']; rfl
  rw [this]; exact hr
 | none =>
  have hn : tm[t]? = none := by
   simp only [List.getElem?_eq_none_iff] at h
   simp [hl, h]
  simp only [List.getD_eq_getElem?_getD, h, Option.getD_none]
  have : tm.getD t undef = undef := by
   rw [Array.getD_eq_getD_getElem?, hn]; rfl
  rw [this]; exact vE
def z1b (tm : Array Value) : ResultVar → Sem Value
 | .tmp t => pure (tm.getD t undef)
 | .cell a t => do loadVar t (← asAddr (tm.getD a undef))
theorem z7q (hI : Inv P S ρ A w) {T : List V} {tm : Array Value} (hT : RepT P S ρ A w T tm.toList) {r : ResultVar} {v : V} (h : jS P T S r = some v) : ∃ u, (z1b tm r).run P w = .ok u w ∧ RepV P S ρ A w v u := by
 cases r with
 | tmp t =>
  simp only [jS, Option.some.injEq] at h; subst h
  exact ⟨_, rfl, zc8 hT t⟩
 | cell a t =>
  simp only [jS] at h
  have ha := zc8 hT a
  obtain ⟨ad, he⟩ := zkt h ha
  obtain ⟨u, h1, h2⟩ := zc0 hI h ha
  refine ⟨u, ?_, zT h2⟩
  rw [he] at h1
  simpa [z1b, he, asAddr, Instr.loadAt, Instr.sureAddr] using h1
theorem z3n (hI : Inv P S ρ A w) {T : List V} {tm : Array Value} (hT : RepT P S ρ A w T tm.toList) : ∀ {rs : List ResultVar} {vs : List V}, allO (jS P T S) rs = some vs → ∃ us, (rs.mapM (z1b tm)).run P w = .ok us w ∧ us.length = rs.length ∧ (∀ (i : Nat) (v : V), vs[i]? = some v → ∃ u, us[i]? = some u ∧ RepV P S ρ A w v u) ∧ vs.length = rs.length
 | [], vs, h => by
  simp only [allO, Option.some.injEq] at h; subst h
  exact ⟨[], by simp, rfl, fun i v h => by simp at h, rfl⟩
 | r :: rs, vs, h => by
  obtain ⟨y, zs, h1, h2, rfl⟩ := wL h
  obtain ⟨u, g1, g2⟩ := z7q hI hT h1
  obtain ⟨us, g3, g4, g5, g6⟩ := z3n hI hT h2
  refine ⟨u :: us, by simp [g1, g3], by simp [g4], fun i v hv => ?_, by simp [g6]⟩
  cases i with
  | zero => simp at hv; subst hv; exact ⟨u, by simp, g2⟩
  | succ i => simp at hv; simpa using g5 i v hv
theorem z6z : ∀ {vs : List V} {us : List Value}, vs.all V.one = true → us.length = vs.length → (∀ (i : Nat) (v : V), vs[i]? = some v → ∃ u, us[i]? = some u ∧ RepV P S ρ A w v u) → qQ P S ρ A w vs us
 | [], us, _, hl, _ => by simp at hl; simp [qQ, hl]
 | v :: r, us, ho, hl, h => by
  cases us with
  | nil => simp at hl
  | cons u us =>
   simp only [List.all_cons, Bool.and_eq_true] at ho
   obtain ⟨u', h1, h2⟩ := h 0 v (by simp)
   simp at h1; subst h1
   simp only [qQ]
   exact ⟨_, us, rfl, (zY ho.1).1 h2, z6z ho.2 (by simpa using hl) (fun i v hv => by simpa using h (i + 1) v (by simpa using hv))⟩
theorem z6b (hI : Inv P S ρ A w) {T : List V} {tm : Array Value} (hT : RepT P S ρ A w T tm.toList) {fn : Func} {v : V} (h : qC P fn.results T S = some v) : ∃ u, (results fn tm).run P w = .ok u w ∧ RepV P S ρ A w v u := by
 have key : ∀ us : List Value, (fn.results.toList.mapM (z1b tm)).run P w = .ok us w → (results fn tm).run P w = .ok (if h : us.toArray.size = 1 then us.toArray[0] else .tuple us.toArray) w := by
  intro us hus
  have : (fn.results.mapM (z1b tm)).run P w = .ok us.toArray w := by
   rw [← Array.toArray_toList (xs := fn.results), List.mapM_toArray]
   simp [hus]
  have e : results fn tm = (do let vs ← fn.results.mapM (z1b tm); pure (if h : vs.size = 1 then vs[0] else .tuple vs)) := by
   unfold results z1b
   rfl
  rw [e]
  simp [this]
 unfold qC at h
 split at h
 ·rename_i r hr
  obtain ⟨u, g1, g2⟩ := z7q hI hT h
  refine ⟨u, ?_, g2⟩
  have := key [u] (by rw [hr]; simp [g1])
  simpa using this
 ·rename_i l hne
  split at h
  ·rename_i vs hvs
   split at h
   ·rename_i hone
    simp only [Option.some.injEq] at h; subst h
    obtain ⟨us, g1, g2, g3, g4⟩ := z3n hI hT hvs
    refine ⟨.tuple us.toArray, ?_, us.toArray, rfl, by simpa using z6z hone (by omega) g3⟩
    rw [key us g1]
    have : ¬ us.toArray.size = 1 := by
     simp only [List.size_toArray, g2]
     intro h1
     obtain ⟨x, hx⟩ := List.length_eq_one_iff.1 h1
     exact hne x hx
    rw [dif_neg this]
   ·cases h
  ·cases h
theorem z9w {args : List V} {us : Array Value} (n : Nat) (h : qQ P S ρ A w args us.toList) : RepT P S ρ A w (vT n args) (us ++ Array.replicate (n - us.size) undef).toList := by
 have hl := z6e h
 simp only [Array.length_toList] at hl
 simp only [vT, Array.toList_append, Array.toList_replicate, hl]
 exact z7n (z5s h) (zhn _)
theorem z8f {f : FuncId} {b : Body} (h : zA P f = some b) : ∃ fn, P.funcs[f]? = some fn ∧ fn.body = some b.code ∧ b.ntmps = fn.ntmps ∧ b.results = fn.results := by
 unfold zA at h
 cases hf : P.funcs[f]? with
 | none => simp [hf] at h
 | some fn =>
  simp only [hf] at h
  split at h
  ·cases h
  ·cases hb : fn.body with
   | none => simp [hb] at h
   | some c =>
    simp only [hb, Option.some.injEq] at h; subst h
    exact ⟨fn, rfl, hb, rfl, rfl⟩
def zii (P : Program) (ex : z5f) : Prop := ∀ (c : Code) {S S' : Store} {T T' : List V} {F F' : Dfs} {x : Ex}, ex c T S F = some (x, T', S', F') →
 ∀ {ρ : Nat → Nat} {A : Nat → Prop} {w : World} {a : Act} {Q : Exit → Act → World → Prop}, Inv P S ρ A w → RepT P S ρ A w T a.tmps.toList → DfOk P S ρ A w F a.defers → (∀ e a' w', ExPost P S ρ A w x T' S' F' e a' w' → Q e a' w') → wpL P c Q a w
def z8e (C : Cfg) : Prop := ∀ f post, C.catch_ f = some post → ∀ (S S' : Store) (g : FuncId) (o : Out) (v : V), post o = some v → ∀ (ρ : Nat → Nat) (A : Nat → Prop) (w : World) (fa ca : Array Value), Inv C.P S ρ A w → ((zA C.P g).isSome = true ∨ (C.catch_ g).isSome = true) →
 (∀ ρ1 A1 w1, Inv C.P S ρ1 A1 w1 → Step S ρ A w S ρ1 A1 w1 → Calls C.P g (fa ++ ca) w1 (z3y C.P S ρ1 A1 w1 o S')) → Calls C.P f #[.func (.func g) fa ca] w (z3y C.P S ρ A w (.ret v) S')
theorem zmt {C : Cfg} {n : Nat} {g : FuncId} {args : List V} {S : Store} {r : Out × Store} (h : run C n g args S = some r) : (zA C.P g).isSome = true ∨ (C.catch_ g).isSome = true := by
 cases n with
 | zero => simp [run] at h
 | succ n =>
  simp only [run] at h
  split at h
  ·rename_i post hp
   exact .inr (by rw [hp]; rfl)
  ·split at h
   ·cases h
   ·rename_i b hb
    exact .inl (by rw [hb]; rfl)
theorem zo0 {ex : z5f} (hex : zii P ex) {f : FuncId} {args : List V} {S S' : Store} (h : vU P ex f args S = some S') (hI : Inv P S ρ A w) {us : Array Value} (hr : qQ P S ρ A w args us.toList) {u : FrameMode} :
  CallsD P f us u w fun e u' w' => u' = u ∧ match e with
   | .returned _ => ∃ ρ' A', Inv P S' ρ' A' w' ∧ Step S ρ A w S' ρ' A' w'
   | _ => False := by
 unfold vU at h
 split at h
 ·cases h
 ·rename_i b hb
  obtain ⟨fn, hf, hbody, hn, hres⟩ := z8f hb
  have hstart := z9w (P := P) (S := S) (ρ := ρ) (A := A) (w := w) fn.ntmps hr
  refine callsD_of_wp (R := fun e w' => match e with | .returned _ => ∃ ρ' A', Inv P S' ρ' A' w' ∧ Step S ρ A w S' ρ' A' w' | _ => False) hf hbody ?_
  rw [hn] at h
  have fin : ∀ {x : Ex} {T1 : List V} {S1 : Store}, (x = .norm ∨ x = .ret) → ex b.code (vT fn.ntmps args) S [] = some (x, T1, S1, []) → ((qC P b.results T1 S1).map fun _ => S1) = some S' →
    b.code.wp P (bodyPost P fn fun e w' => match e with | .returned _ => ∃ ρ' A', Inv P S' ρ' A' w' ∧ Step S ρ A w S' ρ' A' w' | _ => False) { tmps := us ++ Array.replicate (fn.ntmps - us.size) undef, defers := [] } w := by
   intro x T1 S1 hx hex1 hres1
   obtain ⟨v, hv, rfl⟩ := Option.map_eq_some_iff.1 hres1
   refine z3i (hex b.code hex1 hI hstart rfl fun e a' w' he => ?_)
   have good : St P S ρ A w T1 S1 [] a' w' → a'.defers = [] ∧ ∃ v, (results fn a'.tmps).run P w' = .ok v w' ∧ (∃ ρ' A', Inv P S1 ρ' A' w' ∧ Step S ρ A w S1 ρ' A' w') := fun hs => by
    obtain ⟨ρ', A', h1, h2, h3, h4⟩ := hs
    rw [hres] at hv
    obtain ⟨u, g1, g2⟩ := z6b h1 h3 hv
    exact ⟨h4, u, g1, ρ', A', h1, h2⟩
   cases e with
   | normal => exact good he.2
   | ret => exact good he.2
   | exit k => rcases hx with rfl | rfl <;> exact absurd he.1 (by simp)
   | panic c => obtain ⟨y, v, h1, _⟩ := he; rcases hx with rfl | rfl <;> cases h1
   | goto l => exact he.elim
   | outgrown => exact he.elim
  split at h
  ·rename_i T1 S1 h1
   exact fin (.inl rfl) h1 h
  ·rename_i T1 S1 h1
   exact fin (.inr rfl) h1 h
  ·cases h
theorem zq7 {ex : z5f} (hex : zii P ex) {fn : Func} {tm : Array Value} {T : List V} {v : V} {S2 : Store} {R : Ending → World → Prop} {S0 : Store} {ρ0 : Nat → Nat} {A0 : Nat → Prop} {w0 : World} (hres : qC P fn.results T S2 = some v)
    (hR : ∀ u w', (∃ ρ' A', Inv P S2 ρ' A' w' ∧ Step S0 ρ0 A0 w0 S2 ρ' A' w' ∧ RepV P S2 ρ' A' w' v u) → R (.returned u) w') : ∀ {F : Dfs} {ds : List Deferred} {S : Store} {ρ : Nat → Nat} {A : Nat → Prop} {w : World}, dfrV P ex F S = some S2 → Inv P S ρ A w → Step S0 ρ0 A0 w0 S ρ A w → RepT P S ρ A w T tm.toList → DfOk P S ρ A w F ds → Leaves P fn tm R ds .returning w
  | [], ds, S, ρ, A, w, h, hI, hs, hT, hF => by
    simp only [dfrV, Option.some.injEq] at h; subst h
    simp only [DfOk] at hF; subst hF
    obtain ⟨u, g1, g2⟩ := z6b hI hT hres
    exact ⟨u, g1, hR u w ⟨ρ, A, hI, hs, g2⟩⟩
  | (f, args) :: r, ds, S, ρ, A, w, h, hI, hs, hT, hF => by
    obtain ⟨d, ds', rfl, ⟨fv, cap, us, h1, h2, h3⟩, h4⟩ := hF
    simp only [dfrV] at h
    cases hp : vU P ex f args S with
    | none => simp [hp] at h
    | some S1 =>
      simp only [hp] at h
      refine ⟨by simp, fv, cap, f, us, h1, h2 w, ?_⟩
      refine (zo0 hex hp hI h3).mono fun e u' w' he => ?_
      obtain ⟨rfl, he⟩ := he
      cases e with
      | returned u =>
        obtain ⟨ρ1, A1, g1, g2⟩ := he
        exact zq7 hex hres hR h g1 (hs.trans g2) (jZ g2.amono g2.keepA g2.sle _ _ hT) (jX g2 h4)
      | panicked c => exact he.elim
      | outgrown => exact he.elim
theorem zt2 {C : Cfg} (hext : kD C) (hcatch : z8e C) : ∀ n, zii C.P (exec C n) ∧ z9f C.P (run C n) := by
 intro n
 induction n with
 | zero => exact ⟨fun c S S' T T' F F' x h => by simp [exec] at h, fun f args S o S' h => by simp [run] at h⟩
 | succ n ih =>
  obtain ⟨ihe, ihr⟩ := ih
  constructor
  ·intro c S S' T T' F F' x h ρ A w a Q hI hT hF hQ
   have here : ∀ {x' : Ex} {e : Exit}, (∀ a' w', St C.P S ρ A w T S F a' w' → ExPost C.P S ρ A w x' T S F e a' w') → some (x', T, S, F) = some (x, T', S', F') → Q e a w := by
    intro x' e hp he
    simp only [Option.some.injEq, Prod.mk.injEq] at he
    obtain ⟨rfl, rfl, rfl, rfl⟩ := he
    exact hQ _ _ _ (hp a w ⟨ρ, A, hI, .refl, hT, hF⟩)
   cases c with
   | skip => exact wp_skip (here (x' := .norm) (fun _ _ hs => ⟨rfl, hs⟩) (by simpa [exec] using h))
   | label l => exact wp_label (here (x' := .norm) (fun _ _ hs => ⟨rfl, hs⟩) (by simpa [exec] using h))
   | exit id => exact wp_exit (here (x' := .exit id) (fun _ _ hs => ⟨rfl, hs⟩) (by simpa [exec] using h))
   | ret => exact wp_ret (here (x' := .ret) (fun _ _ hs => ⟨rfl, hs⟩) (by simpa [exec] using h))
   | region id ops dr =>
    cases dr with
    | false =>
     simp only [exec] at h
     refine wp_region ?_
     have := z44 hext ihr h (k := 0) rfl hI hT hF hQ
     rw [List.range_eq_range']
     simpa using this
    | true =>
     simp only [exec] at h
     split at h
     ·rename_i T1 S1 cs hseq
      split at h
      ·rename_i hd
       simp only [Option.some.injEq, Prod.mk.injEq] at h
       obtain ⟨rfl, rfl, rfl, rfl⟩ := h
       exact ztx hext ihr (zju C n).2 hseq hd hI hT hF (fun a' w' hs => hQ _ _ _ ⟨rfl, hs⟩)
      ·cases h
     ·split at h
      ·rename_i v1 S1 cs p rest hseq
       split at h
       ·rename_i hd
        simp only [Option.some.injEq, Prod.mk.injEq] at h
        obtain ⟨rfl, rfl, rfl, rfl⟩ := h
        exact zen hext ihr (zju C n).2 hseq hd hI hT hF (fun a' w' c ⟨u, h1, h2, ρ', A', h3, h4, h5⟩ => hQ _ _ _ ⟨_, u, rfl, h1, h2, ρ', A', h3, h4, h5⟩)
       ·cases h
      ·cases h
   | seq c1 c2 =>
    simp only [exec] at h
    refine wp_seq ?_
    cases h1 : exec C n c1 T S F with
    | none => simp [h1] at h
    | some r =>
     obtain ⟨x1, T1, S1, F1⟩ := r
     refine z3i (ihe c1 h1 hI hT hF fun e a' w' he => ?_)
     cases x1 with
     | norm =>
      simp only [h1] at h
      cases e with
      | normal =>
       obtain ⟨_, ρ1, A1, g1, g2, g3, g4⟩ := he
       exact z3i (ihe c2 h g1 g3 g4 fun e a2 w2 he2 => hQ _ _ _ (he2.step g2))
      | exit k => exact absurd he.1 (by simp)
      | ret => exact absurd he.1 (by simp)
      | panic c => obtain ⟨y, v, h1, _⟩ := he; cases h1
      | goto l => exact he.elim
      | outgrown => exact he.elim
     | _ =>
      simp only [h1, Option.some.injEq, Prod.mk.injEq] at h
      obtain ⟨rfl, rfl, rfl, rfl⟩ := h
      cases e with
      | normal => exact absurd he.1 (by simp)
      | _ => exact hQ _ _ _ he
   | cond c a1 b1 =>
    simp only [exec] at h
    have hc := z0w hT c
    split at h
    ·rename_i hv
     rw [hv] at hc
     exact wp_cond_true (z32 hc) (z3i (ihe a1 h hI hT hF hQ))
    ·rename_i hv
     rw [hv] at hc
     exact wp_cond_false (z32 hc) (z3i (ihe b1 h hI hT hF hQ))
    ·cases h
   | block id b =>
    simp only [exec] at h
    refine wp_block ?_
    cases h1 : exec C n b T S F with
    | none => simp [h1] at h
    | some r =>
     obtain ⟨x1, T1, S1, F1⟩ := r
     refine z3i (ihe b h1 hI hT hF fun e a' w' he => ?_)
     cases x1 with
     | exit k =>
      simp only [h1] at h
      cases e with
      | exit k' =>
       obtain ⟨hk, hs⟩ := he
       simp only [Ex.exit.injEq] at hk
       subst hk
       simp only [Exit.inBlock]
       split at h
       ·rename_i hk
        rw [if_pos hk]
        simp only [Option.some.injEq, Prod.mk.injEq] at h
        obtain ⟨rfl, rfl, rfl, rfl⟩ := h
        exact hQ _ _ _ ⟨rfl, hs⟩
       ·rename_i hk
        rw [if_neg hk]
        simp only [Option.some.injEq, Prod.mk.injEq] at h
        obtain ⟨rfl, rfl, rfl, rfl⟩ := h
        exact hQ _ _ _ ⟨rfl, hs⟩
      | normal => exact absurd he.1 (by simp)
      | ret => exact absurd he.1 (by simp)
      | panic c => obtain ⟨y, v, h1, _⟩ := he; cases h1
      | goto l => exact he.elim
      | outgrown => exact he.elim
     | _ =>
      simp only [h1, Option.some.injEq, Prod.mk.injEq] at h
      obtain ⟨rfl, rfl, rfl, rfl⟩ := h
      cases e with
      | exit k' => exact absurd he.1 (by simp)
      | _ => exact hQ _ _ _ he
   | loop b =>
    simp only [exec] at h
    refine zcm ?_
    cases h1 : exec C n b T S F with
    | none => simp [h1] at h
    | some r =>
     obtain ⟨x1, T1, S1, F1⟩ := r
     refine z3i (ihe b h1 hI hT hF fun e a' w' he => ?_)
     cases x1 with
     | norm =>
      simp only [h1] at h
      cases e with
      | normal =>
       obtain ⟨_, ρ1, A1, g1, g2, g3, g4⟩ := he
       exact ihe (.loop b) h g1 g3 g4 fun e a2 w2 he2 => hQ _ _ _ (he2.step g2)
      | exit k => exact absurd he.1 (by simp)
      | ret => exact absurd he.1 (by simp)
      | panic c => obtain ⟨y, v, h1, _⟩ := he; cases h1
      | goto l => exact he.elim
      | outgrown => exact he.elim
     | _ =>
      simp only [h1, Option.some.injEq, Prod.mk.injEq] at h
      obtain ⟨rfl, rfl, rfl, rfl⟩ := h
      cases e with
      | normal => exact absurd he.1 (by simp)
      | _ => exact hQ _ _ _ he
   | scope b =>
    simp only [exec] at h
    refine wp_scope_straight (z3i (ihe b h hI hT hF fun e a' w' he => ?_))
    cases e with
    | goto l => exact he.elim
    | _ => exact hQ _ _ _ he
   | _ => simp [exec] at h
  ·intro f args S o S' h ρ A w us hI hr
   simp only [run] at h
   split at h
   ·rename_i post hpost
    split at h
    ·rename_i g first caps
     split at h
     ·cases h
     ·rename_i o' S1 h1
      split at h
      ·cases h
      ·rename_i v hv
       simp only [Option.some.injEq, Prod.mk.injEq] at h
       obtain ⟨rfl, rfl⟩ := h
       simp only [qQ] at hr
       obtain ⟨u, us', hus, hu, rfl⟩ := hr
       have : us = #[u] := by rw [← Array.toList_inj]; exact hus
       subst this
       obtain ⟨fa, ca, rfl, g1, g2⟩ := zfv (zT hu)
       refine hcatch f post hpost S S1 g o' v hv ρ A w fa ca hI (zmt h1) fun ρ1 A1 w1 hI1 hs1 => ?_
       refine ihr g _ S o' S1 h1 ρ1 A1 w1 _ hI1 ?_
       have := kI (z17 hs1.amono hs1.keepA hs1.sle _ _ g1) (z17 hs1.amono hs1.keepA hs1.sle _ _ g2)
       simpa using this
    ·cases h
   ·split at h
    ·cases h
    ·rename_i b hb
     obtain ⟨fn, hf, hbody, hn, hres⟩ := z8f hb
     rw [hn] at h
     refine calls_of_wp_defers hf hbody ?_
     have hstart := z9w (P := C.P) (S := S) (ρ := ρ) (A := A) (w := w) fn.ntmps hr
     have good : ∀ {T1 : List V} {S1 : Store} {F1 : Dfs} {a' : Act} {w' : World}, endV C.P (exec C n) b.results T1 S1 F1 = some (o, S') → St C.P S ρ A w T1 S1 F1 a' w' → Leaves C.P fn a'.tmps (z3y C.P S ρ A w o S') a'.defers .returning w' := by
      intro T1 S1 F1 a' w' he hs
      obtain ⟨ρ1, A1, g1, g2, g3, g4⟩ := hs
      unfold endV at he
      cases hd : dfrV C.P (exec C n) F1 S1 with
      | none => simp [hd] at he
      | some S2 =>
       simp only [hd] at he
       cases hrs : qC C.P b.results T1 S2 with
       | none => simp [hrs] at he
       | some v =>
        simp only [hrs, Option.some.injEq, Prod.mk.injEq] at he
        obtain ⟨rfl, rfl⟩ := he
        rw [hres] at hrs
        exact zq7 ihe hrs (fun u w2 ⟨ρ2, A2, k1, k2, k3⟩ => ⟨v, rfl, ρ2, A2, k1, k2, k3⟩) hd g1 g2 g3 g4
     have case1 : ∀ {x : Ex} {T1 : List V} {S1 : Store} {F1 : Dfs}, (x = .norm ∨ x = .ret) → exec C n b.code (vT fn.ntmps args) S [] = some (x, T1, S1, F1) → endV C.P (exec C n) b.results T1 S1 F1 = some (o, S') →
       b.code.wp C.P (bodyPostD C.P fn (z3y C.P S ρ A w o S')) { tmps := us ++ Array.replicate (fn.ntmps - us.size) undef, defers := [] } w := by
      intro x T1 S1 F1 hx hex1 he
      refine z3i (ihe b.code hex1 hI hstart rfl fun e a' w' hp => ?_)
      cases e with
      | normal => exact good he hp.2
      | ret => exact good he hp.2
      | exit k => rcases hx with rfl | rfl <;> exact absurd hp.1 (by simp)
      | panic c => obtain ⟨y, v, h1, _⟩ := hp; rcases hx with rfl | rfl <;> cases h1
      | goto l => exact hp.elim
      | outgrown => exact hp.elim
     split at h
     ·rename_i T1 S1 F1 h1
      exact case1 (.inl rfl) h1 h
     ·rename_i T1 S1 F1 h1
      exact case1 (.inr rfl) h1 h
     ·rename_i v T1 S1 h1
      simp only [Option.some.injEq, Prod.mk.injEq] at h
      obtain ⟨rfl, rfl⟩ := h
      refine z3i (ihe b.code h1 hI hstart rfl fun e a' w' hp => ?_)
      cases e with
      | panic c =>
       obtain ⟨y, u, k1, rfl, k2, ρ1, A1, k3, k4, k5⟩ := hp
       cases k1
       show Leaves C.P fn a'.tmps _ a'.defers _ w'
       rw [k2 rfl]
       exact ⟨v, u, rfl, rfl, ρ1, A1, k3, k4, k5⟩
      | normal => exact absurd hp.1 (by simp)
      | ret => exact absurd hp.1 (by simp)
      | exit k => exact absurd hp.1 (by simp)
      | goto l => exact hp.elim
      | outgrown => exact hp.elim
     ·cases h
theorem ze7 {C : Cfg} (hext : kD C) (hcatch : z8e C) (n : Nat) : zxv C.P (runD C n) := zbu hext (zt2 hext hcatch n).2
end
abbrev Post := Ex → List V → Store → Dfs → Prop
section
variable {C : Cfg}
def Ev (C : Cfg) (f : FuncId) (ds : List D) (o : Out) : Prop := ∃ n, runD C n f ds = some o
def EvS (C : Cfg) (f : FuncId) (args : List V) (S : Store) (Q : Out → Store → Prop) : Prop := ∃ n o S', run C n f args S = some (o, S') ∧ Q o S'
def Wp (C : Cfg) (c : Code) (T : List V) (S : Store) (F : Dfs) (Q : Post) : Prop := ∃ n x T' S' F', exec C n c T S F = some (x, T', S', F') ∧ Q x T' S' F'
def WpL (C : Cfg) (ops : Array Oper) (l : List Oper) (T : List V) (S : Store) (F : Dfs) (Q : Post) : Prop := ∃ n x T' S' F', seqV C (run C n) ops l T S F = some (x, T', S', F') ∧ Q x T' S' F'
def andThen (K : List V → Store → Dfs → Prop) (Q : Post) : Post
 | .norm, T, S, F => K T S F
 | x, T, S, F => Q x T S F
def inBlock (id : Nat) (Q : Post) : Post
 | .exit k, T, S, F => if k = id then Q .norm T S F else Q (.exit k) T S F
 | x, T, S, F => Q x T S F
theorem zdl {id k : Nat} {Q : Post} {T S F} : inBlock id Q (.exit k) T S F = if k = id then Q .norm T S F else Q (.exit k) T S F := rfl
theorem Wp.mono {c : Code} {T S F} {Q Q' : Post} (h : Wp C c T S F Q) (hq : ∀ x T' S' F', Q x T' S' F' → Q' x T' S' F') : Wp C c T S F Q' := by
 obtain ⟨n, x, T', S', F', h1, h2⟩ := h
 exact ⟨n, x, T', S', F', h1, hq _ _ _ _ h2⟩
theorem wp_skip {T S F} {Q : Post} (h : Q .norm T S F) : Wp C .skip T S F Q := ⟨1, _, _, _, _, rfl, h⟩
theorem wp_ret {T S F} {Q : Post} (h : Q .ret T S F) : Wp C .ret T S F Q := ⟨1, _, _, _, _, rfl, h⟩
theorem wp_exit {id T S F} {Q : Post} (h : Q (.exit id) T S F) : Wp C (.exit id) T S F Q := ⟨1, _, _, _, _, rfl, h⟩
theorem wp_label {l T S F} {Q : Post} (h : Q .norm T S F) : Wp C (.label l) T S F Q := ⟨1, _, _, _, _, rfl, h⟩
theorem wp_region {id ops T S F} {Q : Post} (h : WpL C ops ops.toList T S F Q) : Wp C (.region id ops false) T S F Q := by
 obtain ⟨n, x, T', S', F', h1, h2⟩ := h
 exact ⟨n + 1, x, T', S', F', by simpa [exec] using h1, h2⟩
theorem wp_seq {a b : Code} {T S F} {Q : Post} (h : Wp C a T S F (andThen (fun T' S' F' => Wp C b T' S' F' Q) Q)) : Wp C (.seq a b) T S F Q := by
 obtain ⟨n, x, T', S', F', h1, h2⟩ := h
 cases x with
 | norm =>
  obtain ⟨m, y, T2, S2, F2, h3, h4⟩ := h2
  refine ⟨max n m + 1, y, T2, S2, F2, ?_, h4⟩
  simp only [exec]
  rw [z5l C (Nat.le_max_left n m) _ _ _ _ _ h1]
  exact z5l C (Nat.le_max_right n m) _ _ _ _ _ h3
 | _ =>
  refine ⟨n + 1, _, T', S', F', ?_, h2⟩
  simp only [exec]
  rw [h1]
theorem wp_cond {c : Operand} {a b : Code} {T S F} {Q : Post} {v : Bool} (hv : zB T c = .d (.bool v)) (ha : v = true → Wp C a T S F Q) (hb : v = false → Wp C b T S F Q) : Wp C (.cond c a b) T S F Q := by
 cases v with
 | true =>
  obtain ⟨n, x, T', S', F', h1, h2⟩ := ha rfl
  exact ⟨n + 1, x, T', S', F', by simp only [exec, hv]; exact h1, h2⟩
 | false =>
  obtain ⟨n, x, T', S', F', h1, h2⟩ := hb rfl
  exact ⟨n + 1, x, T', S', F', by simp only [exec, hv]; exact h1, h2⟩
theorem wp_block {id : Nat} {b : Code} {T S F} {Q : Post} (h : Wp C b T S F (inBlock id Q)) : Wp C (.block id b) T S F Q := by
 obtain ⟨n, x, T', S', F', h1, h2⟩ := h
 cases x with
 | exit k =>
  rw [zdl] at h2
  by_cases hk : k = id
  ·rw [if_pos hk] at h2
   exact ⟨n + 1, _, T', S', F', by simp only [exec]; rw [h1]; simp [hk], h2⟩
  ·rw [if_neg hk] at h2
   exact ⟨n + 1, _, T', S', F', by simp only [exec]; rw [h1]; simp [hk], h2⟩
 | _ => exact ⟨n + 1, _, T', S', F', by simp only [exec]; rw [h1], h2⟩
theorem wp_scope {b : Code} {T S F} {Q : Post} (h : Wp C b T S F Q) : Wp C (.scope b) T S F Q := by
 obtain ⟨n, x, T', S', F', h1, h2⟩ := h
 exact ⟨n + 1, x, T', S', F', by simpa [exec] using h1, h2⟩
theorem wp_loop {b : Code} {T S F} {Q : Post} (h : Wp C b T S F (andThen (fun T' S' F' => Wp C (.loop b) T' S' F' Q) Q)) : Wp C (.loop b) T S F Q := by
 obtain ⟨n, x, T', S', F', h1, h2⟩ := h
 cases x with
 | norm =>
  obtain ⟨m, y, T2, S2, F2, h3, h4⟩ := h2
  refine ⟨max n m + 1, y, T2, S2, F2, ?_, h4⟩
  simp only [exec]
  rw [z5l C (Nat.le_max_left n m) _ _ _ _ _ h1]
  exact z5l C (Nat.le_max_right n m) _ _ _ _ _ h3
 | _ =>
  refine ⟨n + 1, _, T', S', F', ?_, h2⟩
  simp only [exec]
  rw [h1]
theorem zuq {ops T S F} {Q : Post} (h : Q .norm T S F) : WpL C ops [] T S F Q := ⟨0, _, _, _, _, rfl, h⟩
def zcl (o : Oper) : Bool := match o.op with | .buildSlice .. => false | _ => true
theorem z2v {P : Program} {T : List V} {o : Oper} {l : List Oper} (h : zcl o = true) : vY P T o l = none := by
 cases l with
 | nil => rfl
 | cons o2 l =>
  obtain ⟨dst, op, ty, pos, after, guard⟩ := o
  cases op <;> first | rfl | (simp [zcl] at h)
theorem zni {f : FuncId} {b : Body} {ds : List D} {o : Out} (hx : C.ext f = none) (hc : C.catch_ f = none) (hb : zA C.P f = some b)
  (h : Wp C b.code (vT b.ntmps (ds.map .d)) [] [] fun x T S F => (x = .norm ∨ x = .ret) ∧ F = [] ∧ ∃ v, qC C.P b.results T S = some v ∧ z7j S (.ret v) = some o) : Ev C f ds o := by
 obtain ⟨n, x, T, S, F, h1, h2, rfl, v, h3, h4⟩ := h
 refine ⟨n + 1, ?_⟩
 unfold runD answer
 simp only [hx, run, hc, hb, h1]
 rcases h2 with rfl | rfl <;> simp only [endV, dfrV, h3] <;> exact h4
theorem zjr {f : FuncId} {b : Body} {args : List V} {S : Store} {R : Out → Store → Prop} (hc : C.catch_ f = none) (hb : zA C.P f = some b)
  (h : Wp C b.code (vT b.ntmps args) S [] fun x T S F => F = [] ∧ match x with | .norm => ∃ v, qC C.P b.results T S = some v ∧ R (.ret v) S | .ret => ∃ v, qC C.P b.results T S = some v ∧ R (.ret v) S | .pan v => R (.pan v) S | .exit _ => False) : EvS C f args S R := by
 obtain ⟨n, x, T, S', F, h1, rfl, h2⟩ := h
 cases x with
 | norm =>
  obtain ⟨v, h3, h4⟩ := h2
  exact ⟨n + 1, .ret v, S', by simp only [run, hc, hb, h1, endV, dfrV, h3], h4⟩
 | ret =>
  obtain ⟨v, h3, h4⟩ := h2
  exact ⟨n + 1, .ret v, S', by simp only [run, hc, hb, h1, endV, dfrV, h3], h4⟩
 | pan v => exact ⟨n + 1, .pan v, S', by simp only [run, hc, hb, h1], h2⟩
 | exit k => exact h2.elim
end
section
variable {C : Cfg}
def WpR (C : Cfg) (ops : Array Oper) (dst : Option Tmp) (l : List Oper) (T : List V) (S : Store) (F : Dfs) (Q : Post) : Option Rs → Prop
 | some (.val v S' _) => WpL C ops l (putT T dst v) S' F Q
 | some (.skip S' _) => WpL C ops l (putT T dst (.tup [])) S' F Q
 | some (.enter f args) => ∃ n o S' c, jM C (run C n) f args S = some (o, S', c) ∧ match o with | .ret v => WpL C ops l (putT T dst v) S' F Q | .pan v => Q (.pan v) T S' F
 | some (.dfr f args) => WpL C ops l (putT T dst (.tup [])) S ((f, args) :: F) Q
 | some (.pan v) => Q (.pan v) T S F
 | none => False
theorem zba {n m : Nat} (h : n ≤ m) {f : FuncId} {args : List V} {S : Store} {r : Out × Store × Nat} (hc : jM C (run C n) f args S = some r) : jM C (run C m) f args S = some r := z31 (z8r C h) hc
theorem z6j {ops : Array Oper} {dst : Option Tmp} {op : Op} {ty : TypeId} {pos : String} {after : Array Edge} {l : List Oper} {T : List V} {S : Store} {F : Dfs} {Q : Post} (hp : vY C.P T ⟨dst, op, ty, pos, after, none⟩ l = none) :
  WpL C ops (⟨dst, op, ty, pos, after, none⟩ :: l) T S F Q = WpR C ops dst l T S F Q (opV C.P S T ⟨dst, op, ty, pos, after, none⟩) := by
 apply propext
 constructor
 ·rintro ⟨n, x, T', S', F', h1, h2⟩
  simp only [seqV, hp, qB] at h1
  cases ho : opV C.P S T ⟨dst, op, ty, pos, after, none⟩ with
  | none => simp [ho] at h1
  | some r =>
   simp only [ho] at h1
   cases r with
   | val v S2 c => exact ⟨n, x, T', S', F', h1, h2⟩
   | skip S2 c => exact ⟨n, x, T', S', F', h1, h2⟩
   | dfr f args => exact ⟨n, x, T', S', F', h1, h2⟩
   | pan v =>
    simp only [Option.some.injEq, Prod.mk.injEq] at h1
    obtain ⟨rfl, rfl, rfl, rfl⟩ := h1
    exact h2
   | enter f args =>
    simp only at h1
    cases hc : jM C (run C n) f args S with
    | none => simp [hc] at h1
    | some q =>
     obtain ⟨o, S2, c⟩ := q
     refine ⟨n, o, S2, c, hc, ?_⟩
     simp only [hc] at h1
     cases o with
     | ret v => exact ⟨n, x, T', S', F', h1, h2⟩
     | pan v =>
      simp only [Option.some.injEq, Prod.mk.injEq] at h1
      obtain ⟨rfl, rfl, rfl, rfl⟩ := h1
      exact h2
 ·intro h
  cases ho : opV C.P S T ⟨dst, op, ty, pos, after, none⟩ with
  | none => simp [ho, WpR] at h
  | some r =>
   simp only [ho] at h
   cases r with
   | val v S2 c =>
    obtain ⟨n, x, T', S', F', h1, h2⟩ := h
    exact ⟨n, x, T', S', F', by simp only [seqV, hp, qB, ho]; exact h1, h2⟩
   | skip S2 c =>
    obtain ⟨n, x, T', S', F', h1, h2⟩ := h
    exact ⟨n, x, T', S', F', by simp only [seqV, hp, qB, ho]; exact h1, h2⟩
   | dfr f args =>
    obtain ⟨n, x, T', S', F', h1, h2⟩ := h
    exact ⟨n, x, T', S', F', by simp only [seqV, hp, qB, ho]; exact h1, h2⟩
   | pan v => exact ⟨0, .pan v, T, S, F, by simp only [seqV, hp, qB, ho], h⟩
   | enter f args =>
    obtain ⟨n, o, S2, c, hc, h⟩ := h
    cases o with
    | ret v =>
     obtain ⟨m, x, T', S', F', h1, h2⟩ := h
     refine ⟨max n m, x, T', S', F', ?_, h2⟩
     simp only [seqV, hp, qB, ho, zba (Nat.le_max_left n m) hc]
     exact vV (z8r C (Nat.le_max_right n m)) h1
    | pan v => exact ⟨n, .pan v, T, S2, F, by simp only [seqV, hp, qB, ho, hc], h⟩
theorem vG {ops : Array Oper} {dst : Option Tmp} {op : Op} {ty : TypeId} {pos : String} {after : Array Edge} {l : List Oper} {T : List V} {S : Store} {F : Dfs} {Q : Post} (hn : zcl ⟨dst, op, ty, pos, after, none⟩ = true) :
  WpL C ops (⟨dst, op, ty, pos, after, none⟩ :: l) T S F Q = WpR C ops dst l T S F Q (opV C.P S T ⟨dst, op, ty, pos, after, none⟩) := z6j (z2v hn)
theorem ztn {ops : Array Oper} {T : List V} {S : Store} {F : Dfs} {Q : Post} : WpL C ops [] T S F Q = Q .norm T S F := by
 apply propext
 constructor
 ·rintro ⟨n, x, T', S', F', h1, h2⟩
  simp only [seqV, Option.some.injEq, Prod.mk.injEq] at h1
  obtain ⟨rfl, rfl, rfl, rfl⟩ := h1
  exact h2
 ·exact zuq
section
variable {ops : Array Oper} {dst : Option Tmp} {l : List Oper} {T : List V} {S S' : Store} {F : Dfs} {Q : Post} {v : V} {c : Nat}
theorem zyq : WpR C ops dst l T S F Q (some (.val v S' c)) = WpL C ops l (putT T dst v) S' F Q := rfl
theorem zs5 : WpR C ops dst l T S F Q (some (.skip S' c)) = WpL C ops l (putT T dst (.tup [])) S' F Q := rfl
theorem zmq {d : Tmp} : putT T (some d) v = T.set d v := rfl
theorem zon : putT T none v = T := rfl
theorem zw3 {t : Tmp} : zB T (.tmp t) = T.getD t .junk := rfl
theorem ziq {a x : V} {r : List V} : (a :: r).getD 0 x = a := rfl
theorem zmb {a x : V} {r : List V} {n : Nat} : (a :: r).getD (n + 1) x = r.getD n x := rfl
theorem zk5 {a x : V} {r : List V} : (a :: r).set 0 x = x :: r := rfl
theorem zkd {a x : V} {r : List V} {n : Nat} : (a :: r).set (n + 1) x = a :: r.set n x := rfl
end
section
variable {ops : Array Oper} {dst : Option Tmp} {ty : TypeId} {pos : String} {after : Array Edge} {l : List Oper} {T : List V} {S : Store} {F : Dfs} {Q : Post}
theorem ztv {x : Operand} : WpL C ops (⟨dst, .move x, ty, pos, after, none⟩ :: l) T S F Q = WpL C ops l (putT T dst (zB T x)) S F Q := vG rfl
theorem zj6 {x : Operand} : WpL C ops (⟨dst, .assign x, ty, pos, after, none⟩ :: l) T S F Q = WpL C ops l (putT T dst (zB T x)) S F Q := vG rfl
theorem zvv {op : BinOp} {t u : TypeId} {x y : Operand} : WpL C ops (⟨dst, .binOp op t x y u, ty, pos, after, none⟩ :: l) T S F Q = WpR C ops dst l T S F Q ((binV C.P op t (zB T x) (zB T y)).map fun v => .val v S 0) := vG rfl
theorem q18 {op : UnOp} {t : TypeId} {x : Operand} : WpL C ops (⟨dst, .unOp op t x, ty, pos, after, none⟩ :: l) T S F Q = WpR C ops dst l T S F Q ((unV op (zB T x)).map fun v => .val v S 0) := vG rfl
theorem zoe {t : TypeId} {x y : Operand} : WpL C ops (⟨dst, .indexAddr t x y, ty, pos, after, none⟩ :: l) T S F Q = WpR C ops dst l T S F Q ((zE C.P S t (zB T x) (zB T y)).map fun v => .val v S 1) := vG rfl
theorem zxq {t : TypeId} {x y : Operand} : WpL C ops (⟨dst, .index t x y, ty, pos, after, none⟩ :: l) T S F Q = WpR C ops dst l T S F Q ((z2g C.P t (zB T x) (zB T y)).map fun v => .val v S 0) := vG rfl
theorem zd1 {t : TypeId} {x : Operand} {f : Nat} : WpL C ops (⟨dst, .fieldAddr t x f, ty, pos, after, none⟩ :: l) T S F Q = WpR C ops dst l T S F Q ((zF C.P t f (zB T x)).map fun v => .val v S 0) := vG rfl
theorem zpc {t : TypeId} {x : Operand} {f : Nat} : WpL C ops (⟨dst, .field t x f, ty, pos, after, none⟩ :: l) T S F Q = WpR C ops dst l T S F Q ((za1 C.P t f (zB T x)).map fun v => .val v S 0) := vG rfl
theorem zs1 {t : TypeId} {x : Operand} : WpL C ops (⟨dst, .load t x, ty, pos, after, none⟩ :: l) T S F Q = WpR C ops dst l T S F Q ((kC C.P S t (zB T x)).map fun v => .val v S 1) := vG rfl
theorem zpe {t : TypeId} {x y : Operand} : WpL C ops (⟨dst, .store t x y, ty, pos, after, none⟩ :: l) T S F Q = WpR C ops dst l T S F Q ((z02 C.P S t (zB T x) (zB T y)).map fun S' => .skip S' 3) := vG rfl
theorem zib {t u : TypeId} {x : Operand} : WpL C ops (⟨dst, .convert t u x, ty, pos, after, none⟩ :: l) T S F Q = WpR C ops dst l T S F Q ((qD C.P S t u (zB T x)).map fun r => .val r.1 S r.2) := vG rfl
theorem zcq {t : TypeId} {x y : Operand} : WpL C ops (⟨dst, .makeSlice t x y, ty, pos, after, none⟩ :: l) T S F Q = WpR C ops dst l T S F Q ((jG C.P S t (zB T x) (zB T y)).map fun r => .val r.1 r.2 2) := vG rfl
theorem z76 {t : TypeId} {x : Operand} {lo hi : Option Operand} : WpL C ops (⟨dst, .slice t x lo hi none, ty, pos, after, none⟩ :: l) T S F Q = WpR C ops dst l T S F Q ((wD C.P S t (zB T x) (lo.map (zB T)) (hi.map (zB T))).map fun v => .val v S 1) := vG rfl
theorem zjq {t : TypeId} {x k : Operand} {ok : Bool} : WpL C ops (⟨dst, .lookup t x k ok, ty, pos, after, none⟩ :: l) T S F Q = WpR C ops dst l T S F Q ((wA C.P S t (zB T x) (zB T k) ok).map fun v => .val v S 1) := vG rfl
theorem zd2 {t : TypeId} {x k v : Operand} : WpL C ops (⟨dst, .mapUpdate t x k v, ty, pos, after, none⟩ :: l) T S F Q = WpR C ops dst l T S F Q ((jO C.P S t (zB T x) (zB T k) (zB T v)).map fun S' => .skip S' 3) := vG rfl
theorem zhx {b : Builtin} {args : Array Operand} {ts : Array TypeId} : WpL C ops (⟨dst, .call { callee := .builtin b, args := args, argTypes := ts }, ty, pos, after, none⟩ :: l) T S F Q = WpR C ops dst l T S F Q (zI C.P S b ts.toList (args.toList.map (zB T))) := vG rfl
theorem znu {t : TypeId} {ps : Array (Nat × Operand)} : WpL C ops (⟨dst, .build t ps, ty, pos, after, none⟩ :: l) T S F Q = WpR C ops dst l T S F Q ((wP C.P t (ps.toList.map fun p => (p.1, zB T p.2))).map fun v => .val v S 0) := vG rfl
theorem zgv {x : Operand} {i : Nat} : WpL C ops (⟨dst, .extract x i, ty, pos, after, none⟩ :: l) T S F Q = WpR C ops dst l T S F Q (match zB T x with | .tup vs => (match vs[i]? with | some v => some (.val v S 0) | none => none) | _ => none) := vG rfl
end
end
inductive Fr where
 | seq (b : Code)
 | block (id : Nat)
 | loop (b : Code)
section
variable {C : Cfg}
def post (C : Cfg) : List Fr → Post → Post
 | [], Q => Q
 | .seq b :: k, Q => andThen (fun T S F => Wp C b T S F (post C k Q)) (post C k Q)
 | .block id :: k, Q => inBlock id (post C k Q)
 | .loop b :: k, Q => andThen (fun T S F => Wp C (.loop b) T S F (post C k Q)) (post C k Q)
theorem wV {n m : Nat} {f : FuncId} {args : List V} {S : Store} {r r' : Out × Store × Nat} (h : jM C (run C n) f args S = some r) (h' : jM C (run C m) f args S = some r') : r = r' := by
 have h1 := zba (Nat.le_max_left n m) h
 have h2 := zba (Nat.le_max_right n m) h'
 rw [h1] at h2; exact Option.some.inj h2
section
variable {T : List V} {S : Store} {F : Dfs} {k : List Fr} {Q : Post}
theorem zR {c : Code} : Wp C c T S F Q = Wp C c T S F (post C [] Q) := rfl
theorem zut {a b : Code} : Wp C (.seq a b) T S F (post C k Q) = Wp C a T S F (post C (.seq b :: k) Q) := by
 apply propext
 constructor
 ·rintro ⟨n, x, T', S', F', h1, h2⟩
  cases n with
  | zero => simp [exec] at h1
  | succ n =>
   simp only [exec] at h1
   cases ha : exec C n a T S F with
   | none => simp [ha] at h1
   | some r =>
    obtain ⟨y, T2, S2, F2⟩ := r
    simp only [ha] at h1
    cases y with
    | norm => exact ⟨n, .norm, T2, S2, F2, ha, n, x, T', S', F', h1, h2⟩
    | _ =>
     simp only [Option.some.injEq, Prod.mk.injEq] at h1
     obtain ⟨rfl, rfl, rfl, rfl⟩ := h1
     exact ⟨n, _, _, _, _, ha, h2⟩
 ·exact Vm.wp_seq
theorem zj9 {id : Nat} {ops : Array Oper} : Wp C (.region id ops false) T S F Q = WpL C ops ops.toList T S F Q := by
 apply propext
 constructor
 ·rintro ⟨n, x, T', S', F', h1, h2⟩
  cases n with
  | zero => simp [exec] at h1
  | succ n => exact ⟨n, x, T', S', F', by simpa [exec] using h1, h2⟩
 ·exact Vm.wp_region
theorem zt1 {ops : Array Oper} {Q : Post} : WpL C ops [] T S F Q = Q .norm T S F := ztn
theorem zxh {b : Code} : post C (.seq b :: k) Q .norm T S F = Wp C b T S F (post C k Q) := rfl
theorem zss {b : Code} : post C (.loop b :: k) Q .norm T S F = Wp C (.loop b) T S F (post C k Q) := rfl
theorem zmy {id : Nat} : post C (.block id :: k) Q .norm T S F = post C k Q .norm T S F := rfl
theorem ze8 {b : Code} {i : Nat} : post C (.seq b :: k) Q (.exit i) T S F = post C k Q (.exit i) T S F := rfl
theorem zdj {b : Code} {i : Nat} : post C (.loop b :: k) Q (.exit i) T S F = post C k Q (.exit i) T S F := rfl
theorem z1a {id i : Nat} : post C (.block id :: k) Q (.exit i) T S F = if i = id then post C k Q .norm T S F else post C k Q (.exit i) T S F := rfl
theorem zi3 {b : Code} : post C (.seq b :: k) Q .ret T S F = post C k Q .ret T S F := rfl
theorem zex {b : Code} : post C (.loop b :: k) Q .ret T S F = post C k Q .ret T S F := rfl
theorem zdg {id : Nat} : post C (.block id :: k) Q .ret T S F = post C k Q .ret T S F := rfl
theorem zhw {b : Code} {v : V} : post C (.seq b :: k) Q (.pan v) T S F = post C k Q (.pan v) T S F := rfl
theorem ze5 {b : Code} {v : V} : post C (.loop b :: k) Q (.pan v) T S F = post C k Q (.pan v) T S F := rfl
theorem zdm {id : Nat} {v : V} : post C (.block id :: k) Q (.pan v) T S F = post C k Q (.pan v) T S F := rfl
theorem zyk {x : Ex} : post C [] Q x T S F = Q x T S F := rfl
theorem zap {c : Code} {x : Ex} (h : ∀ n T S F, exec C (n + 1) c T S F = some (x, T, S, F)) : Wp C c T S F Q = Q x T S F := by
 apply propext
 constructor
 ·rintro ⟨n, y, T', S', F', h1, h2⟩
  cases n with
  | zero => simp [exec] at h1
  | succ n =>
   rw [h, Option.some.injEq] at h1
   simp only [Prod.mk.injEq] at h1
   obtain ⟨rfl, rfl, rfl, rfl⟩ := h1
   exact h2
 ·exact fun hq => ⟨1, _, _, _, _, h 0 T S F, hq⟩
theorem zrb : Wp C .skip T S F Q = Q .norm T S F := zap fun _ _ _ _ => by simp [exec]
theorem zx5 : Wp C .ret T S F Q = Q .ret T S F := zap fun _ _ _ _ => by simp [exec]
theorem zto {id : Nat} : Wp C (.exit id) T S F Q = Q (.exit id) T S F := zap fun _ _ _ _ => by simp [exec]
theorem zox {l : Nat} : Wp C (.label l) T S F Q = Q .norm T S F := zap fun _ _ _ _ => by simp [exec]
theorem zms {id : Nat} {b : Code} : Wp C (.block id b) T S F (post C k Q) = Wp C b T S F (post C (.block id :: k) Q) := by
 apply propext
 constructor
 ·rintro ⟨n, x, T', S', F', h1, h2⟩
  cases n with
  | zero => simp [exec] at h1
  | succ n =>
   simp only [exec] at h1
   cases ha : exec C n b T S F with
   | none => simp [ha] at h1
   | some r =>
    obtain ⟨y, T2, S2, F2⟩ := r
    simp only [ha] at h1
    refine ⟨n, y, T2, S2, F2, ha, ?_⟩
    cases y with
    | exit i =>
     simp only at h1
     rw [z1a]
     split at h1 <;> (rename_i hi; simp only [Option.some.injEq, Prod.mk.injEq] at h1; obtain ⟨rfl, rfl, rfl, rfl⟩ := h1)
     ·rw [if_pos hi]; exact h2
     ·rw [if_neg hi]; exact h2
    | _ =>
     simp only [Option.some.injEq, Prod.mk.injEq] at h1
     obtain ⟨rfl, rfl, rfl, rfl⟩ := h1
     exact h2
 ·exact Vm.wp_block
theorem zom {b : Code} : Wp C (.scope b) T S F Q = Wp C b T S F Q := by
 apply propext
 constructor
 ·rintro ⟨n, x, T', S', F', h1, h2⟩
  cases n with
  | zero => simp [exec] at h1
  | succ n => exact ⟨n, x, T', S', F', by simpa [exec] using h1, h2⟩
 ·exact Vm.wp_scope
theorem zJ {b : Code} (h : Wp C b T S F (post C (.loop b :: k) Q)) : Wp C (.loop b) T S F (post C k Q) := Vm.wp_loop h
def WpB (C : Cfg) (v : V) (a b : Code) (T : List V) (S : Store) (F : Dfs) (Q : Post) : Prop :=
 match v with
 | .d (.bool x) => (x = true → Wp C a T S F Q) ∧ (x = false → Wp C b T S F Q)
 | _ => False
theorem zt8 {c : Operand} {a b : Code} : Wp C (.cond c a b) T S F Q = WpB C (zB T c) a b T S F Q := by
 apply propext
 constructor
 ·rintro ⟨n, x, T', S', F', h1, h2⟩
  cases n with
  | zero => simp [exec] at h1
  | succ n =>
   simp only [exec] at h1
   unfold WpB
   split at h1
   ·rename_i hv; rw [hv]; exact ⟨fun _ => ⟨n, x, T', S', F', h1, h2⟩, (fun h => by cases h)⟩
   ·rename_i hv; rw [hv]; exact ⟨(fun h => by cases h), fun _ => ⟨n, x, T', S', F', h1, h2⟩⟩
   ·cases h1
 ·intro h
  unfold WpB at h
  split at h
  ·rename_i x hv; exact Vm.wp_cond hv h.1 h.2
  ·exact h.elim
theorem zsw {a b : Code} : WpB C (.d (.bool true)) a b T S F Q = Wp C a T S F Q := by simp [WpB]
theorem zmx {a b : Code} : WpB C (.d (.bool false)) a b T S F Q = Wp C b T S F Q := by simp [WpB]
theorem zqy {x : D} : frz S zH (.d x) = some x := rfl
theorem zal {x : D} : frzIds S zH (.d x) = [] := rfl
theorem qA {ops : Array Oper} {dst : Option Tmp} {l : List Oper} {f : FuncId} {ds : List D} {v : V} (hs : C.shared f = false) (he : Ev C f ds (.ret v)) : WpR C ops dst l T S F Q (some (.enter f (ds.map .d))) = WpL C ops l (putT T dst v) S F Q := by
 obtain ⟨n, hn⟩ := he
 have hfz : ∀ ds : List D, allO (frz S zH) (ds.map V.d) = some ds := by
  intro ds
  induction ds with
  | nil => rfl
  | cons x r ih => simp only [List.map_cons, allO, ih, zqy]
 have hid : ∀ ds : List D, ((ds.map V.d).flatMap (frzIds S zH)).isEmpty = true := by
  intro ds
  induction ds with
  | nil => rfl
  | cons x r ih => simp only [List.map_cons, List.flatMap_cons, zal, List.nil_append]; exact ih
 have hc : jM C (run C n) f (ds.map .d) S = some (.ret v, S, 1) := by
  have hn' : answer C (run C n) f ds = some (.ret v) := hn
  unfold jM
  simp only [hs, Bool.false_eq_true, if_false, hfz, hn', hid, if_true]
 apply propext
 constructor
 ·rintro ⟨m, o, S', c, h1, h2⟩
  have := wV h1 hc
  simp only [Prod.mk.injEq] at this
  obtain ⟨rfl, rfl, rfl⟩ := this
  exact h2
 ·exact fun h => ⟨n, _, _, _, hc, h⟩
end
end
section
variable {C : Cfg} {P : Program} {T : List V} {S : Store} {F : Dfs} {Q : Post}
def OwnS (S : Store) (v : V) (e : TypeId) (xs : List V) : Prop :=
 (v = .ts [] ∧ xs = []) ∨ ∃ id, v = .rs id 0 xs.length ∧ S[id]? = some (.row xs e)
theorem OwnS.nil {e : TypeId} : OwnS S (.ts []) e [] := .inl ⟨rfl, rfl⟩
def NotAt (v : V) (j : Nat) : Prop := ∀ off l, v ≠ .rs j off l
theorem NotAt.ts {xs : List D} {j : Nat} : NotAt (.ts xs) j := fun _ _ h => by cases h
theorem zN {S : Store} {i : Nat} {o : Ob} (h : S[i]? = some o) : i < S.length := by
 rcases Nat.lt_or_ge i S.length with h' | h'
 ·exact h'
 ·simp [List.getElem?_eq_none h'] at h
theorem zgs {t e : TypeId} {v : V} {xs : List V} {d : D} (hu : P.underlying t = some (.slice e)) (hz : zOk P e = true) (hs : (sz P e).isSome = true) (ho : OwnS S v e xs) (hf : z0j P e d = true) (hr : room P e (xs.length + 1) = true) :
  ∃ v' S' c, qE P S t t v (.ts [d]) = some (v', S', c) ∧ OwnS S' v' e (xs ++ [.d d]) ∧ (∀ j o, S[j]? = some o → NotAt v j → S'[j]? = some o ∧ NotAt v' j) ∧ S.length ≤ S'.length := by
 have hft : zZ P e (.d d) = true := by
  unfold z0j at hf; unfold zZ
  simp only [Bool.and_eq_true] at hf ⊢
  refine ⟨⟨rfl, hf.1⟩, ?_⟩
  simpa [V.cells] using hf.2
 have hsrc : srcV P S e t (.ts [d]) = some [.d d] := by
  simp [srcV, hu, kA, hft, hs]
 rcases ho with ⟨rfl, rfl⟩ | ⟨id, rfl, h1⟩
 ·refine ⟨.rs S.length 0 1, S ++ [.row [.d d] e], 2, ?_, .inr ⟨S.length, rfl, by simp⟩, fun j o hj _ => ⟨?_, ?_⟩, by simp⟩
  ·simp only [qE, hu, hsrc, hz, if_true]
   have hr1 : room P e 1 = true := by simpa using hr
   simp [hr1]
  ·rw [List.getElem?_append_left (zN hj)]; exact hj
  ·intro off l h
   have := zN hj
   cases h; omega
 ·refine ⟨.rs S.length 0 (xs.length + 1), S.set id .dead ++ [.row (xs ++ [.d d]) e], 3, ?_, .inr ⟨S.length, by simp, by simp⟩, fun j o hj hn => ⟨?_, ?_⟩, by simp⟩
  ·simp only [qE, hu, hsrc, hz, if_true, h1]
   simp [hr]
  ·have hj' := zN hj
   rw [List.getElem?_append_left (by simpa using hj'), List.getElem?_set_ne]
   ·exact hj
   ·rintro rfl; exact hn 0 _ rfl
  ·intro off l h
   have := zN hj
   cases h; omega
theorem zfi {n : Nat} : ∀ l : List D, allO (frz S (n + 1)) (l.map V.d) = some l
 | [] => rfl
 | x :: r => by simp only [List.map_cons, allO, zfi r]; rfl
theorem zk2 {e : TypeId} {v : V} {ds : List D} (ho : OwnS S v e (ds.map .d)) : frz S zH v = some (.sl ds) := by
 rcases ho with ⟨rfl, h⟩ | ⟨id, rfl, h1⟩
 ·have : ds = [] := by simpa using h
  subst this; rfl
 ·simp only [List.length_map]
  show (match S[id]? with
   | some (.row xs e) => if 0 + ds.length ≤ xs.length && (allO (frz S 11) xs).isSome then (allO (frz S 11) ((xs.drop 0).take ds.length)).map D.sl else none
   | some (.fz xs e) => if 0 + ds.length ≤ xs.length then some (D.sl ((xs.drop 0).take ds.length)) else none
   | _ => none) = _
  have h2 : ((ds.map V.d).drop 0).take ds.length = ds.map V.d := by rw [List.drop_zero, List.take_of_length_le (by simp)]
  simp only [h1, h2, zfi, List.length_map, Option.isSome_some, Bool.and_true, Option.map_some]
  simp
end
section
variable {P : Program} {S : Store}
theorem zjs {t tx : TypeId} {s x : V} : zI P S .append [t, tx] [s, x] = (qE P S t tx s x).map fun r => .val r.1 r.2.1 r.2.2 := rfl
theorem zsd {t tx : TypeId} {s x : V} : zI P S .copy [t, tx] [s, x] = (copyV P S t tx s x).map fun r => .val r.1 r.2 3 := rfl
theorem zkk {t e : TypeId} {xs : List D} (hu : P.underlying t = some (.slice e)) : zI P S .len [t] [.d (.sl xs)] = some (.val (.d (.int .i64 xs.length)) S 0) := by simp [zI, hu]
theorem zpn {t e : TypeId} {xs : List D} (hu : P.underlying t = some (.slice e)) : zI P S .len [t] [.ts xs] = some (.val (.d (.int .i64 xs.length)) S 0) := by simp [zI, hu]
theorem z9t {t e : TypeId} {i o n : Nat} (hu : P.underlying t = some (.slice e)) : zI P S .len [t] [.rs i o n] = some (.val (.d (.int .i64 n)) S 0) := by simp [zI, hu]
theorem zr5 {t : TypeId} {s : List UInt8} (hu : P.underlying t = some .string) : zI P S .len [t] [.d (.str s)] = some (.val (.d (.int .i64 s.length)) S 0) := by simp [zI, hu]
theorem wB {t e e' : TypeId} {v : V} {xs : List V} (hu : P.underlying t = some (.slice e)) (ho : OwnS S v e' xs) : zI P S .len [t] [v] = some (.val (.d (.int .i64 xs.length)) S 0) := by
 rcases ho with ⟨rfl, rfl⟩ | ⟨id, rfl, h1⟩
 ·exact zpn hu
 ·exact z9t hu
theorem zy5 {t e : TypeId} {xs : List D} {i : Nat} {y : D} (hu : P.underlying t = some (.slice e)) (hy : xs[i]? = some y) (hf : z0j P e y = true) : zE P S t (.d (.sl xs)) (.d (.int .i64 i)) = some (.d (.ptr y)) := by
 have h1 : i < xs.length := by
  rcases Nat.lt_or_ge i xs.length with h' | h'
  ·exact h'
  ·simp [List.getElem?_eq_none h'] at hy
 have h0 : (0 : Int) ≤ i := by omega
 have h2 : (i : Int) < xs.length := by omega
 simp only [zE, intOf?, hu, h0, h2, and_self, if_true, Int.toNat_natCast, hy, hf]
theorem binI {op : BinOp} {t : TypeId} {k k' : IntKind} {a b : Int} : binV P op t (.d (.int k a)) (.d (.int k' b)) = (qP op k a k' b).map .d := rfl
theorem binS {op : BinOp} {t : TypeId} {a b : List UInt8} : binV P op t (.d (.str a)) (.d (.str b)) = (z4s op a b).map .d := rfl
theorem zyr {k : IntKind} {a b : Int} : qP .add k a k b = some (.int k (k.wrap (a + b))) := by simp [qP]
theorem zvg {k : IntKind} {a b : Int} : qP .sub k a k b = some (.int k (k.wrap (a - b))) := by simp [qP]
theorem zvn {k : IntKind} {a b : Int} : qP .mul k a k b = some (.int k (k.wrap (a * b))) := by simp [qP]
theorem zud {k : IntKind} {a b : Int} : qP .lss k a k b = some (.bool (decide (a < b))) := by simp [qP]
theorem zvu {k : IntKind} {a b : Int} : qP .leq k a k b = some (.bool (decide (a ≤ b))) := by simp [qP]
theorem zul {k : IntKind} {a b : Int} : qP .gtr k a k b = some (.bool (decide (a > b))) := by simp [qP]
theorem zy2 {k : IntKind} {a b : Int} : qP .geq k a k b = some (.bool (decide (a ≥ b))) := by simp [qP]
theorem wrap64 {a : Int} (h : -9223372036854775808 ≤ a ∧ a ≤ 9223372036854775807) : IntKind.i64.wrap a = a := IntWalk.i64_in _ (by omega)
end
section
variable {C : Cfg} {ops : Array Oper} {dst : Option Tmp} {ty : TypeId} {pos : String} {after : Array Edge} {l : List Oper} {T : List V} {S : Store} {F : Dfs} {Q : Post}
theorem z5g {t : TypeId} {n : Nat} {ps : Array (Nat × Operand)} {d2 : Option Tmp} {c : Call} {ty2 : TypeId} {pos2 : String} {after2 : Array Edge} {g2 : Option (Nat × Bool)} :
  WpL C ops (⟨dst, .buildSlice t n ps, ty, pos, after, none⟩ :: ⟨d2, .call c, ty2, pos2, after2, g2⟩ :: l) T S F Q = WpR C ops dst (⟨d2, .call c, ty2, pos2, after2, g2⟩ :: l) T S F Q (opV C.P S T ⟨dst, .buildSlice t n ps, ty, pos, after, none⟩) := z6j rfl
end
section
variable (C : Cfg) (ops : Array Oper) (base : Nat)
def z3j (rd : List Nat) (i c : Nat) : Prop := 2 < c → (rd.all fun r => ((befs ops).getD i 0).testBit r) = true
def WpE (F : Dfs) (Q : Post) (K : List Nat → List (Nat × Nat) → List V → Store → Prop) (rd : List Nat) (cs : List (Nat × Nat)) (i : Nat) (dst : Option Tmp) (T : List V) (S : Store) : Option Rs → Prop
 | some (.val v S' c) => z3j ops rd i (num2 c) ∧ K (if num2 c = 1 then i :: rd else rd) (cs ++ [(i, num2 c)]) (putT T dst v) S'
 | some (.skip S' _) => z3j ops rd i 3 ∧ K rd (cs ++ [(i, 3)]) (putT T dst (.tup [])) S'
 | some (.enter f args) => ∃ n v S' c, jM C (run C n) f args S = some (.ret v, S', c) ∧ z3j ops rd i (num2 c) ∧ K (if num2 c = 1 then i :: rd else rd) (cs ++ [(i, num2 c)]) (putT T dst v) S'
 | _ => False
def WpA (K : List (Nat × Nat) → List V → Store → Prop) (cs : List (Nat × Nat)) (i : Nat) (dst : Option Tmp) (T : List V) (S : Store) : Option (Ob × (Nat → V)) → Prop
 | some (ob, f) => S[base + i]? = some .hole ∧ K (cs ++ [(i, 2)]) (putT T dst (f (base + i))) (S.set (base + i) ob)
 | none => False
def WpD (F : Dfs) (Q : Post) : List Nat → List (Nat × Nat) → List Nat → List V → Store → Prop
 | rd, cs, [], T, S => z2k ops cs = true ∧ Q .norm T S F
 | rd, cs, i :: is, T, S => match ops[i]? with
  | none => False
  | some o => match qB ops T o with
   | none => False
   | some false => WpD F Q rd (cs ++ [(i, 0)]) is (putT T o.dst (.tup [])) S
   | some true => if jK o = true then WpA base (fun cs T S => WpD F Q rd cs is T S) cs i o.dst T S (addO C.P T o)
    else WpE C ops F Q (fun rd cs T S => WpD F Q rd cs is T S) rd cs i o.dst T S (opV C.P S T o)
end
section
variable {C : Cfg} {ops : Array Oper} {base : Nat} {F : Dfs} {Q : Post}
theorem zp4 {call : jT} {b : List Nat} {i : Nat} {S : Store} {rd : List Nat} {ws : List (Nat × List V × V)} (hw : ws.map (·.1) = rd) (h : (rd.all fun r => (b.getD i 0).testBit r) = true) : ws.all (jJ C call ops b base i S) = true := by
 subst hw
 rw [List.all_eq_true] at h ⊢
 intro w hw
 have := h w.1 (List.mem_map.2 ⟨w, hw, rfl⟩)
 unfold jJ
 rw [this]; rfl
theorem zw9 : ∀ {is : List Nat} {rd : List Nat} {cs : List (Nat × Nat)} {T : List V} {S : Store}, WpD C ops base F Q rd cs is T S → ∀ ws : List (Nat × List V × V), ws.map (·.1) = rd → ∃ n T' S' cs', seqC C (run C n) ops (befs ops) base ws is T S = some (T', S', cs') ∧ z2k ops (cs ++ cs') = true ∧ Q .norm T' S' F
 | [], rd, cs, T, S, h, ws, hw => ⟨0, T, S, [], rfl, by simpa [WpD] using h.1, h.2⟩
 | i :: is, rd, cs, T, S, h, ws, hw => by
  have go : ∀ (n : Nat) (o : Oper) (v : V) (S' : Store) (c : Nat), ops[i]? = some o → effC C (run C n) ops (base + i) o T S = some (v, S', c) → z3j ops rd i c → WpD C ops base F Q (if c = 1 then i :: rd else rd) (cs ++ [(i, c)]) is (putT T o.dst v) S' →
    ∃ n T' S' cs', seqC C (run C n) ops (befs ops) base ws (i :: is) T S = some (T', S', cs') ∧ z2k ops (cs ++ cs') = true ∧ Q .norm T' S' F := by
   intro n o v S' c ho he hb hd
   obtain ⟨m, T2, S2, cs2, h1, h2, h3⟩ := zw9 hd (if c = 1 then (i, T, v) :: ws else ws) (by split <;> simp [hw])
   refine ⟨max n m, T2, S2, (i, c) :: cs2, ?_, by simpa using h2, h3⟩
   have he' := vO (z8r C (Nat.le_max_left n m)) he
   have h1' := z4o (z8r C (Nat.le_max_right n m)) h1
   simp only [seqC, ho, he']
   rw [if_neg, h1']
   rintro ⟨hc, hall⟩
   rw [zp4 hw (hb hc)] at hall
   cases hall
  simp only [WpD] at h
  cases ho : ops[i]? with
  | none => simp [ho] at h
  | some o =>
   simp only [ho] at h
   cases hwt : qB ops T o with
   | none => simp [hwt] at h
   | some b =>
    simp only [hwt] at h
    cases b with
    | false => exact go 0 o (.tup []) S 0 ho (by simp [effC, hwt]) (fun hc => by omega) h
    | true =>
     cases hk : jK o with
     | true =>
      simp only [hk, if_true] at h
      cases hadd : addO C.P T o with
      | none => simp [hadd, WpA] at h
      | some q =>
       obtain ⟨ob, f⟩ := q
       simp only [hadd, WpA] at h
       exact go 0 o (f (base + i)) (S.set (base + i) ob) 2 ho (by simp [effC, hwt, hk, hadd, h.1]) (fun hc => by omega) h.2
     | false =>
      simp only [hk, Bool.false_eq_true, if_false] at h
      cases hop : opV C.P S T o with
      | none => simp [hop, WpE] at h
      | some r =>
       simp only [hop] at h
       cases r with
       | val v S' c => exact go 0 o v S' (num2 c) ho (by simp [effC, hwt, hk, hop]) h.1 h.2
       | skip S' c => exact go 0 o (.tup []) S' 3 ho (by simp [effC, hwt, hk, hop]) h.1 h.2
       | enter f args =>
        obtain ⟨n, v, S', c, h1, h2, h3⟩ := h
        exact go n o v S' (num2 c) ho (by simp [effC, hwt, hk, hop, h1]) h2 h3
       | dfr f args => exact h.elim
       | pan v => exact h.elim
theorem kH {id : Nat} {T : List V} {S : Store} {is : List Nat} {h : Nat} (ho : z21 C.shared ops = is) (hh : vB ops = h) (hd : WpD C ops S.length F Q [] [] is T (S ++ List.replicate h .hole)) : Wp C (.region id ops true) T S F Q := by
 subst ho; subst hh
 obtain ⟨n, T', S', cs', h1, h2, h3⟩ := zw9 hd [] rfl
 exact ⟨n + 1, .norm, T', S', F, by simp only [exec, h1]; rw [if_pos (by simpa using h2)], h3⟩
def WpW (K : Prop) (K' : Prop) : Option Bool → Prop
 | some true => K
 | some false => K'
 | none => False
theorem zrp {rd : List Nat} {cs : List (Nat × Nat)} {i : Nat} {is : List Nat} {T : List V} {S : Store} : WpD C ops base F Q rd cs (i :: is) T S = match ops[i]? with
  | none => False
  | some o => match qB ops T o with
   | none => False
   | some false => WpD C ops base F Q rd (cs ++ [(i, 0)]) is (putT T o.dst (.tup [])) S
   | some true => if jK o = true then WpA base (fun cs T S => WpD C ops base F Q rd cs is T S) cs i o.dst T S (addO C.P T o)
    else WpE C ops F Q (fun rd cs T S => WpD C ops base F Q rd cs is T S) rd cs i o.dst T S (opV C.P S T o) := rfl
end
section
variable {C : Cfg} {ops : Array Oper} {dst : Option Tmp} {op : Op} {ty : TypeId} {pos : String} {after : Array Edge} {l : List Oper} {T : List V} {S : Store} {F : Dfs} {Q : Post}
theorem zoa {g : Nat × Bool} (hn : zcl ⟨dst, op, ty, pos, after, none⟩ = true) : WpL C ops (⟨dst, op, ty, pos, after, some g⟩ :: l) T S F Q = WpW (WpL C ops (⟨dst, op, ty, pos, after, none⟩ :: l) T S F Q) (WpL C ops l (putT T dst (.tup [])) S F Q) ((qO ops T g.1).map (· == some g.2)) := by
 obtain ⟨j, w⟩ := g
 have hp : vY C.P T ⟨dst, op, ty, pos, after, some (j, w)⟩ l = none := z2v hn
 have hp' : vY C.P T ⟨dst, op, ty, pos, after, none⟩ l = none := z2v hn
 have hopv : opV C.P S T ⟨dst, op, ty, pos, after, some (j, w)⟩ = opV C.P S T ⟨dst, op, ty, pos, after, none⟩ := by cases op <;> rfl
 apply propext
 cases hy : (qO ops T j).map (· == some w) with
 | none =>
  simp only [WpW, iff_false]
  rintro ⟨n, x, T', S', F', h1, h2⟩
  simp [seqV, hp, qB, hy] at h1
 | some b =>
  cases b with
  | false =>
   simp only [WpW]
   constructor
   ·rintro ⟨n, x, T', S', F', h1, h2⟩
    simp only [seqV, hp, qB, hy] at h1
    exact ⟨n, x, T', S', F', h1, h2⟩
   ·rintro ⟨n, x, T', S', F', h1, h2⟩
    exact ⟨n, x, T', S', F', by simp only [seqV, hp, qB, hy]; exact h1, h2⟩
  | true =>
   simp only [WpW]
   constructor
   ·rintro ⟨n, x, T', S', F', h1, h2⟩
    simp only [seqV, hp, qB, hy, hopv] at h1
    exact ⟨n, x, T', S', F', by simp only [seqV, hp', qB]; exact h1, h2⟩
   ·rintro ⟨n, x, T', S', F', h1, h2⟩
    simp only [seqV, hp', qB] at h1
    exact ⟨n, x, T', S', F', by simp only [seqV, hp, qB, hy, hopv]; exact h1, h2⟩
def WpG (C : Cfg) (ops : Array Oper) (dst : Option Tmp) (op : Op) (ty : TypeId) (pos : String) (after : Array Edge) (l : List Oper) (T : List V) (S : Store) (F : Dfs) (Q : Post) : Option Bool → Prop
 | some true => WpL C ops (⟨dst, op, ty, pos, after, none⟩ :: l) T S F Q
 | some false => WpL C ops l (putT T dst (.tup [])) S F Q
 | none => False
theorem jE {g : Nat × Bool} (hn : zcl ⟨dst, op, ty, pos, after, none⟩ = true) : WpL C ops (⟨dst, op, ty, pos, after, some g⟩ :: l) T S F Q = WpG C ops dst op ty pos after l T S F Q ((qO ops T g.1).map (· == some g.2)) := by
 rw [zoa hn]
 cases (qO ops T g.1).map (· == some g.2) with
 | none => rfl
 | some b => cases b <;> rfl
end
end Go.Vm
end
