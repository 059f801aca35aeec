/- The value machine: what its values stand for in a world. -/
import Derived.Test.YtljefklfoieecaaVmB
set_option linter.unusedSimpArgs false
set_option linter.unusedVariables false
namespace Go.Vm

/-- The cells from 'off' on of block 'b' hold these values. -/
def CellsAt (w : World) (b off : Nat) (vs : List Value) : Prop :=
  ∃ c e f, w.heap[b]? = some (.cells c e f) ∧ ∀ i v, vs[i]? = some v → c[off + i]? = some v

section
variable (A : Nat → Prop) (w : World)
mutual
/-- The cells that the data are. -/
def RepC : D → List Value → Prop
  | .bool b, vs => vs = [.bool b]
  | .int k n, vs => vs = [.int k n]
  | .flt k b, vs => vs = [.float k b]
  | .str s, vs => vs = [.string ⟨s.toArray⟩]
  | .sl xs, vs => ∃ a cap, vs = [.slice a xs.length cap] ∧ xs.length ≤ cap ∧ (xs = [] ∨ ∃ ad k us, a = some ad ∧ ad.spot = none ∧ A ad.block ∧ CellsAt w ad.block ad.off us ∧ RepE k xs us)
  | .agg xs, vs => RepL xs vs
  | .map es, vs => ∃ r, vs = [.map r] ∧ ((r = none ∧ es = []) ∨ ∃ b en clock, r = some b ∧ A b ∧ w.heap[b]? = some (.map en clock) ∧ RepM es en.toList)
  | .iface t x, vs => ∃ v, vs = [.iface t v] ∧ ((x.isAgg = true ∧ ∃ us, v = .agg us ∧ RepC x us.toList) ∨ (x.isAgg = false ∧ RepC x [v]))
  | .ptr x, vs => ∃ ad us, vs = [.pointer (some ad)] ∧ ad.spot = none ∧ A ad.block ∧ CellsAt w ad.block ad.off us ∧ RepC x us
  | .fn f first caps, vs => ∃ fa ca, vs = [.func f fa ca] ∧ RepS first fa.toList ∧ RepS caps ca.toList
  | .nili, vs => vs = [.nilIface]
  | .nilp, vs => vs = [.pointer none]
  | .nilf, vs => vs = [.nilFunc]
  | .nilm, vs => vs = [.map none]
/-- Cells, one each. -/
def RepL : List D → List Value → Prop
  | [], vs => vs = []
  | x :: r, vs => ∃ v us, vs = v :: us ∧ x.isAgg = false ∧ RepC x [v] ∧ RepL r us
/-- Elements of k cells each. -/
def RepE (k : Nat) : List D → List Value → Prop
  | [], vs => vs = []
  | x :: r, vs => ∃ us ws, vs = us ++ ws ∧ us.length = k ∧ RepC x us ∧ RepE k r ws
/-- Values. -/
def RepS : List D → List Value → Prop
  | [], vs => vs = []
  | x :: r, vs => ∃ v us, vs = v :: us ∧ ((x.isAgg = true ∧ ∃ us, v = .agg us ∧ RepC x us.toList) ∨ (x.isAgg = false ∧ RepC x [v])) ∧ RepS r us
def RepM : List (D × D) → List MapEntry → Prop
  | [], es => es = []
  | e :: r, es => ∃ m ms, es = m :: ms ∧ RepP e m ∧ RepM r ms
def RepP : D × D → MapEntry → Prop
  | (k, x), m => ((k.isAgg = true ∧ ∃ us, m.key = .agg us ∧ RepC k us.toList) ∨ (k.isAgg = false ∧ RepC k [m.key])) ∧ ((x.isAgg = true ∧ ∃ us, m.val = .agg us ∧ RepC x us.toList) ∨ (x.isAgg = false ∧ RepC x [m.val]))
end
/-- The value that the data are. -/
def RepX (x : D) (v : Value) : Prop := (x.isAgg = true ∧ ∃ us, v = .agg us ∧ RepC A w x us.toList) ∨ (x.isAgg = false ∧ RepC A w x [v])
end

section
variable {A A' : Nat → Prop} {w w' : World}

theorem CellsAt.mono {b off : Nat} {vs : List Value} (h : w'.heap[b]? = w.heap[b]?) (hc : CellsAt w b off vs) : CellsAt w' b off vs := by
  obtain ⟨c, e, f, h1, h2⟩ := hc
  exact ⟨c, e, f, h.trans h1, h2⟩

mutual
theorem repC_mono (hA : ∀ b, A b → A' b) (hw : ∀ b, A b → w'.heap[b]? = w.heap[b]?) : ∀ (x : D) (vs : List Value), RepC A w x vs → RepC A' w' x vs
  | .bool _, _, h => by simpa [RepC] using h
  | .int _ _, _, h => by simpa [RepC] using h
  | .flt _ _, _, h => by simpa [RepC] using h
  | .str _, _, h => by simpa [RepC] using h
  | .nili, _, h => by simpa [RepC] using h
  | .nilp, _, h => by simpa [RepC] using h
  | .nilf, _, h => by simpa [RepC] using h
  | .nilm, _, h => by simpa [RepC] using h
  | .sl xs, vs, h => by
    simp only [RepC] at h ⊢
    obtain ⟨a, cap, h1, h2, h3⟩ := h
    refine ⟨a, cap, h1, h2, ?_⟩
    rcases h3 with h3 | ⟨ad, k, us, h4, h5, h6, h7, h8⟩
    · exact .inl h3
    · exact .inr ⟨ad, k, us, h4, h5, hA _ h6, h7.mono (hw _ h6), repE_mono hA hw k xs us h8⟩
  | .agg xs, vs, h => by
    simp only [RepC] at h ⊢
    exact repL_mono hA hw xs vs h
  | .map es, vs, h => by
    simp only [RepC] at h ⊢
    obtain ⟨r, h1, h2⟩ := h
    refine ⟨r, h1, ?_⟩
    rcases h2 with h2 | ⟨b, en, clock, h3, h4, h5, h6⟩
    · exact .inl h2
    · exact .inr ⟨b, en, clock, h3, hA _ h4, (hw _ h4).trans h5, repM_mono hA hw es _ h6⟩
  | .iface t x, vs, h => by
    simp only [RepC] at h ⊢
    obtain ⟨v, h1, h2⟩ := h
    exact ⟨v, h1, h2.imp (fun ⟨a, us, b, c⟩ => ⟨a, us, b, repC_mono hA hw x _ c⟩) (fun ⟨a, b⟩ => ⟨a, repC_mono hA hw x _ b⟩)⟩
  | .ptr x, vs, h => by
    simp only [RepC] at h ⊢
    obtain ⟨ad, us, h1, h2, h3, h4, h5⟩ := h
    exact ⟨ad, us, h1, h2, hA _ h3, h4.mono (hw _ h3), repC_mono hA hw x us h5⟩
  | .fn f first caps, vs, h => by
    simp only [RepC] at h ⊢
    obtain ⟨fa, ca, h1, h2, h3⟩ := h
    exact ⟨fa, ca, h1, repS_mono hA hw first _ h2, repS_mono hA hw caps _ h3⟩
theorem repL_mono (hA : ∀ b, A b → A' b) (hw : ∀ b, A b → w'.heap[b]? = w.heap[b]?) : ∀ (xs : List D) (vs : List Value), RepL A w xs vs → RepL A' w' xs vs
  | [], _, h => by simpa [RepL] using h
  | x :: r, vs, h => by
    simp only [RepL] at h ⊢
    obtain ⟨v, us, h1, h2, h3, h4⟩ := h
    exact ⟨v, us, h1, h2, repC_mono hA hw x _ h3, repL_mono hA hw r us h4⟩
theorem repE_mono (hA : ∀ b, A b → A' b) (hw : ∀ b, A b → w'.heap[b]? = w.heap[b]?) (k : Nat) : ∀ (xs : List D) (vs : List Value), RepE A w k xs vs → RepE A' w' k xs vs
  | [], _, h => by simpa [RepE] using h
  | x :: r, vs, h => by
    simp only [RepE] at h ⊢
    obtain ⟨us, ws, h1, h2, h3, h4⟩ := h
    exact ⟨us, ws, h1, h2, repC_mono hA hw x _ h3, repE_mono hA hw k r ws h4⟩
theorem repS_mono (hA : ∀ b, A b → A' b) (hw : ∀ b, A b → w'.heap[b]? = w.heap[b]?) : ∀ (xs : List D) (vs : List Value), RepS A w xs vs → RepS A' w' xs vs
  | [], _, h => by simpa [RepS] using h
  | x :: r, vs, h => by
    simp only [RepS] at h ⊢
    obtain ⟨v, us, h1, h2, h4⟩ := h
    exact ⟨v, us, h1, h2.imp (fun ⟨a, us, b, c⟩ => ⟨a, us, b, repC_mono hA hw x _ c⟩) (fun ⟨a, b⟩ => ⟨a, repC_mono hA hw x _ b⟩), repS_mono hA hw r us h4⟩
theorem repM_mono (hA : ∀ b, A b → A' b) (hw : ∀ b, A b → w'.heap[b]? = w.heap[b]?) : ∀ (es : List (D × D)) (ms : List MapEntry), RepM A w es ms → RepM A' w' es ms
  | [], _, h => by simpa [RepM] using h
  | e :: r, ms, h => by
    simp only [RepM] at h ⊢
    obtain ⟨m, ms', h1, h2, h3⟩ := h
    exact ⟨m, ms', h1, repP_mono hA hw e m h2, repM_mono hA hw r ms' h3⟩
theorem repP_mono (hA : ∀ b, A b → A' b) (hw : ∀ b, A b → w'.heap[b]? = w.heap[b]?) : ∀ (e : D × D) (m : MapEntry), RepP A w e m → RepP A' w' e m
  | (k, x), m, h => by
    simp only [RepP] at h ⊢
    exact ⟨h.1.imp (fun ⟨a, us, b, c⟩ => ⟨a, us, b, repC_mono hA hw k _ c⟩) (fun ⟨a, b⟩ => ⟨a, repC_mono hA hw k _ b⟩), h.2.imp (fun ⟨a, us, b, c⟩ => ⟨a, us, b, repC_mono hA hw x _ c⟩) (fun ⟨a, b⟩ => ⟨a, repC_mono hA hw x _ b⟩)⟩
end
theorem repX_mono (hA : ∀ b, A b → A' b) (hw : ∀ b, A b → w'.heap[b]? = w.heap[b]?) {x : D} {v : Value} (h : RepX A w x v) : RepX A' w' x v :=
  h.imp (fun ⟨a, us, b, c⟩ => ⟨a, us, b, repC_mono hA hw x _ c⟩) (fun ⟨a, b⟩ => ⟨a, repC_mono hA hw x _ b⟩)
end

/-- Is it owned? -/
def Ob.live : Ob → Bool
  | .row .. => true
  | .mp .. => true
  | .iter .. => true
  | _ => false

section
variable (P : Program) (S : Store) (ρ : Nat → Nat) (A : Nat → Prop) (w : World)
/-- Where a row's slice stands. -/
def RowPl (id off len cap : Nat) (a : Option Addr) : Prop :=
  let at' (n : Nat) (e : TypeId) : Prop := ∃ k, sz P e = some k ∧ (a = some ⟨ρ id, off * k, none⟩ ∨ cap = 0) ∧ off + len ≤ n ∧ len ≤ cap ∧ ∃ c e' f, w.heap[ρ id]? = some (.cells c e' f) ∧ (off + cap) * k ≤ c.size
  match S[id]? with
  | some (.row xs e) => at' xs.length e
  | some (.fz xs e) => at' xs.length e
  | some .dead => len ≤ cap
  | _ => False
def CellPl (id ix off len cap : Nat) (a : Option Addr) : Prop :=
  let at' (n : Nat) (e : TypeId) : Prop := ∃ k, sz P e = some k ∧ (a = some ⟨ρ id, ix * k + off, none⟩ ∨ cap = 0) ∧ ix < n ∧ off + cap ≤ k ∧ len ≤ cap
  match S[id]? with
  | some (.row xs e) => at' xs.length e
  | some (.fz xs e) => at' xs.length e
  | some .dead => len ≤ cap
  | _ => False
def RefPl (id ix off : Nat) (a : Addr) : Prop :=
  let at' (n : Nat) (e : TypeId) : Prop := ∃ k, sz P e = some k ∧ a = ⟨ρ id, ix * k + off, none⟩ ∧ ix < n
  match S[id]? with
  | some (.row xs e) => at' xs.length e
  | some (.fz xs e) => at' xs.length e
  | some .dead => True
  | _ => False
def MapPl (id r : Nat) : Prop :=
  match S[id]? with
  | some (.mp _ _) => r = ρ id
  | some (.fm _) => r = ρ id
  | some .dead => True
  | _ => False
def ItPl (id r : Nat) : Prop :=
  match S[id]? with
  | some (.iter _ _) => r = ρ id
  | some .dead => True
  | _ => False
mutual
def RepVC : V → List Value → Prop
  | .d x, vs => RepC A w x vs
  | .ts xs, vs => ∃ a, vs = [.slice a xs.length xs.length] ∧ RepC A w (.sl xs) vs
  | .rs id off len, vs => ∃ a cap, vs = [.slice a len cap] ∧ RowPl P S ρ w id off len cap a
  | .cs id ix off len, vs => ∃ a cap, vs = [.slice a len cap] ∧ CellPl P S ρ id ix off len cap a
  | .ref id ix off, vs => ∃ a, vs = [.pointer (some a)] ∧ RefPl P S ρ id ix off a
  | .mr id, vs => ∃ r, vs = [.map (some r)] ∧ MapPl S ρ id r
  | .it id, vs => ∃ r, vs = [.pointer (some ⟨r, 0, none⟩)] ∧ ItPl S ρ id r
  | .agg xs, vs => RepVL xs vs
  | .iface t x, vs => ∃ v, vs = [.iface t v] ∧ ((x.isAgg = true ∧ ∃ us, v = .agg us ∧ RepVC x us.toList) ∨ (x.isAgg = false ∧ RepVC x [v]))
  | .fn f first caps, vs => ∃ fa ca, vs = [.func f fa ca] ∧ RepVS first fa.toList ∧ RepVS caps ca.toList
  | .tup _, _ => False
  | .junk, _ => False
def RepVL : List V → List Value → Prop
  | [], vs => vs = []
  | x :: r, vs => ∃ v us, vs = v :: us ∧ x.isAgg = false ∧ RepVC x [v] ∧ RepVL r us
def RepVS : List V → List Value → Prop
  | [], vs => vs = []
  | x :: r, vs => ∃ v us, vs = v :: us ∧ ((x.isAgg = true ∧ ∃ us, v = .agg us ∧ RepVC x us.toList) ∨ (x.isAgg = false ∧ RepVC x [v])) ∧ RepVS r us
end
def RepVE (k : Nat) : List V → List Value → Prop
  | [], vs => vs = []
  | x :: r, vs => ∃ us ws, vs = us ++ ws ∧ us.length = k ∧ RepVC P S ρ A w x us ∧ RepVE k r ws
/-- A value of one place (no tuple). -/
def RepW (x : V) (v : Value) : Prop := (x.isAgg = true ∧ ∃ us, v = .agg us ∧ RepVC P S ρ A w x us.toList) ∨ (x.isAgg = false ∧ RepVC P S ρ A w x [v])
def RepWs : List V → List Value → Prop
  | [], vs => vs = []
  | x :: r, vs => ∃ v us, vs = v :: us ∧ RepW P S ρ A w x v ∧ RepWs r us
/-- What a temporary holds. -/
def RepV : V → Value → Prop
  | .junk, _ => True
  | .tup xs, v => ∃ us, v = .tuple us ∧ RepWs P S ρ A w xs us.toList
  | x, v => RepW P S ρ A w x v
def RepT : List V → List Value → Prop
  | [], vs => vs = []
  | x :: r, vs => ∃ v us, vs = v :: us ∧ RepV P S ρ A w x v ∧ RepT r us
def RepVM : List (D × V × Nat) → List MapEntry → Prop
  | [], es => es = []
  | e :: r, es => ∃ m ms, es = m :: ms ∧ RepX A w e.1 m.key ∧ RepW P S ρ A w e.2.1 m.val ∧ e.2.2 = m.born ∧ RepVM r ms

/-- Block b holds the object. -/
def ObOk (b : Nat) : Ob → Prop
  | .row xs e => ∃ k c us rest, sz P e = some k ∧ w.heap[b]? = some (.cells c e (0, 0)) ∧ c.toList = us ++ rest ∧ RepVE P S ρ A w k xs us
  | .mp es clock => ∃ en, w.heap[b]? = some (.map en clock) ∧ RepVM P S ρ A w es en.toList ∧ (∀ e ∈ es, e.2.2 < clock) ∧ (es.map fun e => e.2.2).Nodup
  | .iter s pos => w.heap[b]? = some (.stringIter ⟨s.toArray⟩ pos)
  | .fz xs e => ∃ k c f us rest, sz P e = some k ∧ A b ∧ w.heap[b]? = some (.cells c e f) ∧ c.toList = us ++ rest ∧ RepE A w k xs us
  | .fm es => ∃ en clock, A b ∧ w.heap[b]? = some (.map en clock) ∧ RepM A w es en.toList
  | .dead => True
  | .hole => True
structure Inv : Prop where
  ok : ∀ id o, S[id]? = some o → ObOk P S ρ A w (ρ id) o
  inj : ∀ i j oi oj, S[i]? = some oi → S[j]? = some oj → oi.live = true → oj.live = true → ρ i = ρ j → i = j
  own : ∀ i o, S[i]? = some o → o.live = true → ¬ A (ρ i)
  lt : ∀ b, A b → b < w.heap.size
end
def Owned (S : Store) (ρ : Nat → Nat) (b : Nat) : Prop := ∃ id o, S[id]? = some o ∧ o.live = true ∧ ρ id = b

/-- What an object may become. -/
def Ob.le : Ob → Ob → Prop
  | _, .dead => True
  | .row xs e, .row ys e' => xs.length = ys.length ∧ e = e'
  | .row xs e, .fz ys e' => xs.length = ys.length ∧ e = e'
  | .fz xs e, .fz ys e' => xs.length = ys.length ∧ e = e'
  | .mp _ _, .mp _ _ => True
  | .mp _ _, .fm _ => True
  | .fm _, .fm _ => True
  | .iter _ _, .iter _ _ => True
  | .hole, .hole => True
  | _, _ => False
theorem Ob.le_refl (o : Ob) : o.le o := by cases o <;> simp [Ob.le]

/-- The store goes on: old numbers keep their places, or are dead. -/
def SLe (S : Store) (ρ : Nat → Nat) (w : World) (S' : Store) (ρ' : Nat → Nat) (w' : World) : Prop :=
  ∀ id o, S[id]? = some o → o ≠ .hole → ∃ o', S'[id]? = some o' ∧ o.le o' ∧ (o' = .dead ∨ (ρ' id = ρ id ∧ ∀ c e f, w.heap[ρ id]? = some (.cells c e f) → ∃ c' e' f', w'.heap[ρ id]? = some (.cells c' e' f') ∧ c'.size = c.size))

structure Step (S : Store) (ρ : Nat → Nat) (A : Nat → Prop) (w : World) (S' : Store) (ρ' : Nat → Nat) (A' : Nat → Prop) (w' : World) : Prop where
  os : w'.os = w.os
  tape : w'.tape = w.tape
  output : w'.output = w.output
  size : w.heap.size ≤ w'.heap.size
  keep : ∀ b, b < w.heap.size → ¬ Owned S ρ b → w'.heap[b]? = w.heap[b]?
  keepA : ∀ b, A b → w'.heap[b]? = w.heap[b]?
  amono : ∀ b, A b → A' b
  anew : ∀ b, A' b → A b ∨ Owned S ρ b ∨ w.heap.size ≤ b
  onew : ∀ b, Owned S' ρ' b → Owned S ρ b ∨ w.heap.size ≤ b
  sle : SLe S ρ w S' ρ' w'

section
variable {P : Program} {S S' : Store} {ρ ρ' : Nat → Nat} {A A' : Nat → Prop} {w w' : World}

theorem RowPl.mono (h : SLe S ρ w S' ρ' w') {id off len cap : Nat} {a : Option Addr} (hp : RowPl P S ρ w id off len cap a) : RowPl P S' ρ' w' id off len cap a := by
  unfold RowPl at hp ⊢
  cases ho : S[id]? with
  | none => simp [ho] at hp
  | some o =>
    obtain ⟨o', ho', hle, hd⟩ := h id o ho (by rintro rfl; simp [ho] at hp)
    simp only [ho] at hp
    simp only [ho']
    cases o' with
    | dead => cases o <;> simp only at hp <;> first | exact hp.elim | exact hp | (obtain ⟨k, h1, h2, h3, h4, _⟩ := hp; exact h4)
    | row ys e' =>
      rcases hd with hd | ⟨hr, hc⟩
      · cases hd
      · cases o with
        | row xs e =>
          obtain ⟨hl, rfl⟩ := hle
          obtain ⟨k, h1, h2, h3, h4, c, e2, f2, h5, h6⟩ := hp
          obtain ⟨c', e3, f3, h7, h8⟩ := hc c e2 f2 h5
          exact ⟨k, h1, by rw [hr]; exact h2, by omega, h4, c', e3, f3, by rw [hr]; exact h7, by omega⟩
        | _ => simp [Ob.le] at hle
    | fz ys e' =>
      rcases hd with hd | ⟨hr, hc⟩
      · cases hd
      · cases o with
        | row xs e =>
          obtain ⟨hl, rfl⟩ := hle
          obtain ⟨k, h1, h2, h3, h4, c, e2, f2, h5, h6⟩ := hp
          obtain ⟨c', e3, f3, h7, h8⟩ := hc c e2 f2 h5
          exact ⟨k, h1, by rw [hr]; exact h2, by omega, h4, c', e3, f3, by rw [hr]; exact h7, by omega⟩
        | fz xs e =>
          obtain ⟨hl, rfl⟩ := hle
          obtain ⟨k, h1, h2, h3, h4, c, e2, f2, h5, h6⟩ := hp
          obtain ⟨c', e3, f3, h7, h8⟩ := hc c e2 f2 h5
          exact ⟨k, h1, by rw [hr]; exact h2, by omega, h4, c', e3, f3, by rw [hr]; exact h7, by omega⟩
        | _ => simp [Ob.le] at hle
    | mp _ _ => cases o <;> first | exact hp.elim | simp [Ob.le] at hle
    | iter _ _ => cases o <;> first | exact hp.elim | simp [Ob.le] at hle
    | fm _ => cases o <;> first | exact hp.elim | simp [Ob.le] at hle
    | hole => cases o <;> first | exact hp.elim | simp [Ob.le] at hle

theorem CellPl.mono (h : SLe S ρ w S' ρ' w') {id ix off len cap : Nat} {a : Option Addr} (hp : CellPl P S ρ id ix off len cap a) : CellPl P S' ρ' id ix off len cap a := by
  unfold CellPl at hp ⊢
  cases ho : S[id]? with
  | none => simp [ho] at hp
  | some o =>
    obtain ⟨o', ho', hle, hd⟩ := h id o ho (by rintro rfl; simp [ho] at hp)
    simp only [ho] at hp
    simp only [ho']
    cases o' with
    | dead => cases o <;> simp only at hp <;> first | exact hp.elim | exact hp | (obtain ⟨k, h1, h2, h3, h4, h5⟩ := hp; exact h5)
    | row ys e' =>
      rcases hd with hd | ⟨hr, hc⟩
      · cases hd
      · cases o with
        | row xs e =>
          obtain ⟨hl, rfl⟩ := hle
          obtain ⟨k, h1, h2, h3, h4, h5⟩ := hp
          exact ⟨k, h1, by rw [hr]; exact h2, by omega, h4, h5⟩
        | _ => simp [Ob.le] at hle
    | fz ys e' =>
      rcases hd with hd | ⟨hr, hc⟩
      · cases hd
      · cases o with
        | row xs e =>
          obtain ⟨hl, rfl⟩ := hle
          obtain ⟨k, h1, h2, h3, h4, h5⟩ := hp
          exact ⟨k, h1, by rw [hr]; exact h2, by omega, h4, h5⟩
        | fz xs e =>
          obtain ⟨hl, rfl⟩ := hle
          obtain ⟨k, h1, h2, h3, h4, h5⟩ := hp
          exact ⟨k, h1, by rw [hr]; exact h2, by omega, h4, h5⟩
        | _ => simp [Ob.le] at hle
    | mp _ _ => cases o <;> first | exact hp.elim | simp [Ob.le] at hle
    | iter _ _ => cases o <;> first | exact hp.elim | simp [Ob.le] at hle
    | fm _ => cases o <;> first | exact hp.elim | simp [Ob.le] at hle
    | hole => cases o <;> first | exact hp.elim | simp [Ob.le] at hle

theorem RefPl.mono (h : SLe S ρ w S' ρ' w') {id ix off : Nat} {a : Addr} (hp : RefPl P S ρ id ix off a) : RefPl P S' ρ' id ix off a := by
  unfold RefPl at hp ⊢
  cases ho : S[id]? with
  | none => simp [ho] at hp
  | some o =>
    obtain ⟨o', ho', hle, hd⟩ := h id o ho (by rintro rfl; simp [ho] at hp)
    simp only [ho] at hp
    simp only [ho']
    cases o' with
    | dead => cases o <;> simp only at hp <;> first | exact hp.elim | trivial
    | row ys e' =>
      rcases hd with hd | ⟨hr, hc⟩
      · cases hd
      · cases o with
        | row xs e =>
          obtain ⟨hl, rfl⟩ := hle
          obtain ⟨k, h1, h2, h3⟩ := hp
          exact ⟨k, h1, by rw [hr]; exact h2, by omega⟩
        | _ => simp [Ob.le] at hle
    | fz ys e' =>
      rcases hd with hd | ⟨hr, hc⟩
      · cases hd
      · cases o with
        | row xs e =>
          obtain ⟨hl, rfl⟩ := hle
          obtain ⟨k, h1, h2, h3⟩ := hp
          exact ⟨k, h1, by rw [hr]; exact h2, by omega⟩
        | fz xs e =>
          obtain ⟨hl, rfl⟩ := hle
          obtain ⟨k, h1, h2, h3⟩ := hp
          exact ⟨k, h1, by rw [hr]; exact h2, by omega⟩
        | _ => simp [Ob.le] at hle
    | mp _ _ => cases o <;> first | exact hp.elim | simp [Ob.le] at hle
    | iter _ _ => cases o <;> first | exact hp.elim | simp [Ob.le] at hle
    | fm _ => cases o <;> first | exact hp.elim | simp [Ob.le] at hle
    | hole => cases o <;> first | exact hp.elim | simp [Ob.le] at hle

theorem MapPl.mono (h : SLe S ρ w S' ρ' w') {id r : Nat} (hp : MapPl S ρ id r) : MapPl S' ρ' id r := by
  unfold MapPl at hp ⊢
  cases ho : S[id]? with
  | none => simp [ho] at hp
  | some o =>
    obtain ⟨o', ho', hle, hd⟩ := h id o ho (by rintro rfl; simp [ho] at hp)
    simp only [ho] at hp
    simp only [ho']
    cases o' <;> cases o <;> simp_all [Ob.le]

theorem ItPl.mono (h : SLe S ρ w S' ρ' w') {id r : Nat} (hp : ItPl S ρ id r) : ItPl S' ρ' id r := by
  unfold ItPl at hp ⊢
  cases ho : S[id]? with
  | none => simp [ho] at hp
  | some o =>
    obtain ⟨o', ho', hle, hd⟩ := h id o ho (by rintro rfl; simp [ho] at hp)
    simp only [ho] at hp
    simp only [ho']
    cases o' <;> cases o <;> simp_all [Ob.le]

mutual
theorem repVC_mono (hA : ∀ b, A b → A' b) (hw : ∀ b, A b → w'.heap[b]? = w.heap[b]?) (hs : SLe S ρ w S' ρ' w') : ∀ (x : V) (vs : List Value), RepVC P S ρ A w x vs → RepVC P S' ρ' A' w' x vs
  | .d x, vs, h => by simp only [RepVC] at h ⊢; exact repC_mono hA hw x vs h
  | .ts xs, vs, h => by
    simp only [RepVC] at h ⊢
    obtain ⟨a, h1, h2⟩ := h
    exact ⟨a, h1, repC_mono hA hw _ vs h2⟩
  | .rs id off len, vs, h => by
    simp only [RepVC] at h ⊢
    obtain ⟨a, cap, h1, h2⟩ := h
    exact ⟨a, cap, h1, h2.mono hs⟩
  | .cs id ix off len, vs, h => by
    simp only [RepVC] at h ⊢
    obtain ⟨a, cap, h1, h2⟩ := h
    exact ⟨a, cap, h1, h2.mono hs⟩
  | .ref id ix off, vs, h => by
    simp only [RepVC] at h ⊢
    obtain ⟨a, h1, h2⟩ := h
    exact ⟨a, h1, h2.mono hs⟩
  | .mr id, vs, h => by
    simp only [RepVC] at h ⊢
    obtain ⟨r, h1, h2⟩ := h
    exact ⟨r, h1, h2.mono hs⟩
  | .it id, vs, h => by
    simp only [RepVC] at h ⊢
    obtain ⟨r, h1, h2⟩ := h
    exact ⟨r, h1, h2.mono hs⟩
  | .agg xs, vs, h => by
    simp only [RepVC] at h ⊢
    exact repVL_mono hA hw hs xs vs h
  | .iface t x, vs, h => by
    simp only [RepVC] at h ⊢
    obtain ⟨v, h1, h2⟩ := h
    exact ⟨v, h1, h2.imp (fun ⟨a, us, b, c⟩ => ⟨a, us, b, repVC_mono hA hw hs x _ c⟩) (fun ⟨a, b⟩ => ⟨a, repVC_mono hA hw hs x _ b⟩)⟩
  | .fn f first caps, vs, h => by
    simp only [RepVC] at h ⊢
    obtain ⟨fa, ca, h1, h2, h3⟩ := h
    exact ⟨fa, ca, h1, repVS_mono hA hw hs first _ h2, repVS_mono hA hw hs caps _ h3⟩
  | .tup _, _, h => by simp [RepVC] at h
  | .junk, _, h => by simp [RepVC] at h
theorem repVL_mono (hA : ∀ b, A b → A' b) (hw : ∀ b, A b → w'.heap[b]? = w.heap[b]?) (hs : SLe S ρ w S' ρ' w') : ∀ (xs : List V) (vs : List Value), RepVL P S ρ A w xs vs → RepVL P S' ρ' A' w' xs vs
  | [], _, h => by simpa [RepVL] using h
  | x :: r, vs, h => by
    simp only [RepVL] at h ⊢
    obtain ⟨v, us, h1, h2, h3, h4⟩ := h
    exact ⟨v, us, h1, h2, repVC_mono hA hw hs x _ h3, repVL_mono hA hw hs r us h4⟩
theorem repVS_mono (hA : ∀ b, A b → A' b) (hw : ∀ b, A b → w'.heap[b]? = w.heap[b]?) (hs : SLe S ρ w S' ρ' w') : ∀ (xs : List V) (vs : List Value), RepVS P S ρ A w xs vs → RepVS P S' ρ' A' w' xs vs
  | [], _, h => by simpa [RepVS] using h
  | x :: r, vs, h => by
    simp only [RepVS] at h ⊢
    obtain ⟨v, us, h1, h2, h4⟩ := h
    exact ⟨v, us, h1, h2.imp (fun ⟨a, us, b, c⟩ => ⟨a, us, b, repVC_mono hA hw hs x _ c⟩) (fun ⟨a, b⟩ => ⟨a, repVC_mono hA hw hs x _ b⟩), repVS_mono hA hw hs r us h4⟩
end
theorem repVE_mono (hA : ∀ b, A b → A' b) (hw : ∀ b, A b → w'.heap[b]? = w.heap[b]?) (hs : SLe S ρ w S' ρ' w') (k : Nat) : ∀ (xs : List V) (vs : List Value), RepVE P S ρ A w k xs vs → RepVE P S' ρ' A' w' k xs vs
  | [], _, h => by simpa [RepVE] using h
  | x :: r, vs, h => by
    simp only [RepVE] at h ⊢
    obtain ⟨us, ws, h1, h2, h3, h4⟩ := h
    exact ⟨us, ws, h1, h2, repVC_mono hA hw hs x _ h3, repVE_mono hA hw hs k r ws h4⟩
theorem repW_mono (hA : ∀ b, A b → A' b) (hw : ∀ b, A b → w'.heap[b]? = w.heap[b]?) (hs : SLe S ρ w S' ρ' w') {x : V} {v : Value} (h : RepW P S ρ A w x v) : RepW P S' ρ' A' w' x v :=
  h.imp (fun ⟨a, us, b, c⟩ => ⟨a, us, b, repVC_mono hA hw hs x _ c⟩) (fun ⟨a, b⟩ => ⟨a, repVC_mono hA hw hs x _ b⟩)
theorem repWs_mono (hA : ∀ b, A b → A' b) (hw : ∀ b, A b → w'.heap[b]? = w.heap[b]?) (hs : SLe S ρ w S' ρ' w') : ∀ (xs : List V) (vs : List Value), RepWs P S ρ A w xs vs → RepWs P S' ρ' A' w' xs vs
  | [], _, h => by simpa [RepWs] using h
  | x :: r, vs, h => by
    simp only [RepWs] at h ⊢
    obtain ⟨v, us, h1, h2, h3⟩ := h
    exact ⟨v, us, h1, repW_mono hA hw hs h2, repWs_mono hA hw hs r us h3⟩
theorem repV_mono (hA : ∀ b, A b → A' b) (hw : ∀ b, A b → w'.heap[b]? = w.heap[b]?) (hs : SLe S ρ w S' ρ' w') {x : V} {v : Value} (h : RepV P S ρ A w x v) : RepV P S' ρ' A' w' x v := by
  cases x with
  | junk => trivial
  | tup xs =>
    simp only [RepV] at h ⊢
    obtain ⟨us, h1, h2⟩ := h
    exact ⟨us, h1, repWs_mono hA hw hs xs _ h2⟩
  | _ => simp only [RepV] at h ⊢; exact repW_mono hA hw hs h
theorem repT_mono (hA : ∀ b, A b → A' b) (hw : ∀ b, A b → w'.heap[b]? = w.heap[b]?) (hs : SLe S ρ w S' ρ' w') : ∀ (xs : List V) (vs : List Value), RepT P S ρ A w xs vs → RepT P S' ρ' A' w' xs vs
  | [], _, h => by simpa [RepT] using h
  | x :: r, vs, h => by
    simp only [RepT] at h ⊢
    obtain ⟨v, us, h1, h2, h3⟩ := h
    exact ⟨v, us, h1, repV_mono hA hw hs h2, repT_mono hA hw hs r us h3⟩
theorem repVM_mono (hA : ∀ b, A b → A' b) (hw : ∀ b, A b → w'.heap[b]? = w.heap[b]?) (hs : SLe S ρ w S' ρ' w') : ∀ (xs : List (D × V × Nat)) (vs : List MapEntry), RepVM P S ρ A w xs vs → RepVM P S' ρ' A' w' xs vs
  | [], _, h => by simpa [RepVM] using h
  | x :: r, vs, h => by
    simp only [RepVM] at h ⊢
    obtain ⟨m, ms, h1, h2, h3, h4, h5⟩ := h
    exact ⟨m, ms, h1, repX_mono hA hw h2, repW_mono hA hw hs h3, h4, repVM_mono hA hw hs r ms h5⟩
end
end Go.Vm
