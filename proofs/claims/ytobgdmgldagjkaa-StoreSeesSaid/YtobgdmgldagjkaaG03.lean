/- The value machine: what single operations come to. Sixth part: append, copy, make. -/
import Derived.IntWalk
import Derived.Lib.ConvBytes
import Derived.Test.YtobgdmgldagjkaaG02
set_option linter.unusedVariables false
set_option linter.unusedSimpArgs false
section
namespace Go.Vm
section
variable {P : Program} {S : Store} {ρ : Nat → Nat} {A : Nat → Prop} {w w' : World}
theorem z9i (hI : Inv P S ρ A w) {x : V} {ys : List V} {u : Value} (h : kA S x = some ys) (hx : RepV P S ρ A w x u) :
  (∃ s, x = .d (.str s) ∧ u = .string ⟨s.toArray⟩ ∧ ys = s.map fun b => .d (.int .u8 b.toNat)) ∨
  (∃ a cap k us, u = .slice a ys.length cap ∧ ys.length ≤ cap ∧ qJ P S ρ A w k ys us ∧ (ys = [] ∨ ∃ b off, a = some ⟨b, off, none⟩ ∧ CellsAt w b off us)) := by
 have frozen : ∀ xs : List D, RepX A w (.sl xs) u → ∃ a cap k us, u = .slice a (xs.map V.d).length cap ∧ (xs.map V.d).length ≤ cap ∧ qJ P S ρ A w k (xs.map V.d) us ∧ (xs.map V.d = [] ∨ ∃ b off, a = some ⟨b, off, none⟩ ∧ CellsAt w b off us) := by
  intro xs hx
  obtain ⟨a, cap, rfl, h1, h2⟩ := z85 hx
  rcases h2 with rfl | ⟨b, off, k, us, rfl, _, h3, h4⟩
  ·exact ⟨a, cap, 0, [], by simp, by simp, by simp [qJ], .inl rfl⟩
  ·exact ⟨_, cap, k, us, by simp, by simpa using h1, z4g h4, .inr ⟨b, off, rfl, h3⟩⟩
 unfold kA at h
 split at h
 ·simp only [Option.some.injEq] at h; subst h
  exact .inr (frozen _ (jH.1 hx))
 ·simp only [Option.some.injEq] at h; subst h
  obtain ⟨_, _, hx'⟩ := zci hx
  exact .inr (frozen _ hx')
 ·rename_i id off len
  right
  have hx := (zG rfl).1 ((zY rfl).1 hx)
  simp only [zP, List.cons.injEq, and_true] at hx
  obtain ⟨a, cap, rfl, hpl⟩ := hx
  unfold RowPl at hpl
  cases ho : S[id]? with
  | none => simp [ho] at h
  | some o =>
   have hok := hI.ok id o ho
   simp only [ho] at hpl h
   cases o with
   | row xs e =>
    simp only at h hpl
    split at h
    ·rename_i hle
     simp only [Option.some.injEq] at h; subst h
     obtain ⟨k, hk, ha, h3, h4, _⟩ := hpl
     simp only [ObOk] at hok
     obtain ⟨k', c, us, rest, hk', hh, hcl, hre⟩ := hok
     rw [hk] at hk'; cases hk'
     have hlen : ((xs.drop off).take len).length = len := by simp; omega
     refine ⟨a, cap, k, (us.drop (off * k)).take (len * k), by rw [hlen], by omega, (kK len (by simp; omega) (kK off (by omega) hre).2).1, ?_⟩
     rcases ha with rfl | ha
     ·exact .inr ⟨_, _, rfl, qG hh hcl _ _⟩
     ·exact .inl (List.length_eq_zero_iff.1 (by rw [hlen]; omega))
    ·cases h
   | fz xs e =>
    simp only at h hpl
    split at h
    ·rename_i hle
     simp only [Option.some.injEq] at h; subst h
     obtain ⟨k, hk, ha, h3, h4, _⟩ := hpl
     simp only [ObOk] at hok
     obtain ⟨k', c, f, us, rest, hk', _, hh, hcl, hre⟩ := hok
     rw [hk] at hk'; cases hk'
     have hlen : (((xs.drop off).take len).map V.d).length = len := by simp; omega
     refine ⟨a, cap, k, (us.drop (off * k)).take (len * k), by rw [hlen], by omega, z4g (vD len (by simp; omega) (vD off (by omega) hre).2).1, ?_⟩
     rcases ha with rfl | ha
     ·exact .inr ⟨_, _, rfl, qG hh hcl _ _⟩
     ·exact .inl (List.length_eq_zero_iff.1 (by rw [hlen]; omega))
    ·cases h
   | _ => simp at h
 ·rename_i id ix off len
  right
  have hx := (zG rfl).1 ((zY rfl).1 hx)
  simp only [zP, List.cons.injEq, and_true] at hx
  obtain ⟨a, cap, rfl, hpl⟩ := hx
  unfold CellPl at hpl
  cases ho : S[id]? with
  | none => simp [ho] at h
  | some o =>
   have hok := hI.ok id o ho
   simp only [ho] at hpl h
   cases o with
   | row xs e =>
    simp only at h hpl
    cases hxi : xs[ix]? with
    | none => simp [hxi] at h
    | some z =>
     simp only [hxi] at h
     split at h
     ·rename_i hle
      simp only [Bool.and_eq_true, decide_eq_true_eq] at hle
      simp only [Option.some.injEq] at h; subst h
      obtain ⟨k, hk, ha, h3, h4, h5⟩ := hpl
      simp only [ObOk] at hok
      obtain ⟨k', c, us, rest, hk', hh, hcl, hre⟩ := hok
      rw [hk] at hk'; cases hk'
      obtain ⟨g1, g2⟩ := z14 hre ix z hxi
      have gl := qX g1
      simp only [List.length_take, List.length_drop] at gl
      have hlen : ((z.cells.drop off).take len).length = len := by simp; omega
      have g3 := z7s (z06 len (z05 off (kO g1)))
      refine ⟨a, cap, 1, _, by rw [hlen], by omega, g3, ?_⟩
      rcases ha with rfl | ha
      ·refine .inr ⟨_, _, rfl, ?_⟩
       have := qG hh hcl (ix * k + off) len
       rw [List.drop_take, List.take_take, List.drop_drop, show min len (k - off) = len by omega]
       exact this
      ·exact .inl (List.length_eq_zero_iff.1 (by rw [hlen]; omega))
     ·cases h
   | fz xs e =>
    simp only at h hpl
    cases hxi : xs[ix]? with
    | none => simp [hxi] at h
    | some z =>
     simp only [hxi] at h
     split at h
     ·rename_i hle
      simp only [Bool.and_eq_true, decide_eq_true_eq] at hle
      simp only [Option.some.injEq] at h; subst h
      obtain ⟨k, hk, ha, h3, h4, h5⟩ := hpl
      simp only [ObOk] at hok
      obtain ⟨k', c, f, us, rest, hk', _, hh, hcl, hre⟩ := hok
      rw [hk] at hk'; cases hk'
      obtain ⟨g1, g2⟩ := z33 hre ix z hxi
      have gl := jP g1
      simp only [List.length_take, List.length_drop] at gl
      have hlen : (((z.cells.drop off).take len).map V.d).length = len := by simp; omega
      have g3 := z4g (P := P) (S := S) (ρ := ρ) (z2e (z20 len (z2r off (wG g1))))
      refine ⟨a, cap, 1, _, by rw [hlen], by omega, g3, ?_⟩
      rcases ha with rfl | ha
      ·refine .inr ⟨_, _, rfl, ?_⟩
       have := qG hh hcl (ix * k + off) len
       rw [List.drop_take, List.take_take, List.drop_drop, show min len (k - off) = len by omega]
       exact this
      ·exact .inl (List.length_eq_zero_iff.1 (by rw [hlen]; omega))
     ·cases h
   | _ => simp at h
 ·rename_i s
  simp only [Option.some.injEq] at h; subst h
  exact .inl ⟨s, rfl, z2j hx, rfl⟩
 ·cases h
theorem z7w : ∀ (s : List UInt8), qJ P S ρ A w 1 (s.map fun b => .d (.int .u8 b.toNat)) (s.map fun b => .int .u8 b.toNat)
 | [] => by simp [qJ]
 | b :: r => by
  simp only [List.map_cons, qJ]
  exact ⟨[.int .u8 b.toNat], _, rfl, rfl, by simp [zP, RepC], z7w r⟩
theorem z2q {k : Nat} {z : V} {us : Array Value} (hz : zP P S ρ A w z us.toList) (hk : us.size = k) : ∀ n, qJ P S ρ A w k (List.replicate n z) ((Array.range (n * k)).map (fun i => us[i % k]!)).toList
 | 0 => by simp [qJ]
 | n + 1 => by
  have ih := z2q hz hk n
  simp only [List.replicate_succ, qJ]
  rcases Nat.eq_zero_or_pos k with h0 | hp
  ·subst h0
   refine ⟨us.toList, [], ?_, by simpa using hk, hz, by simpa using ih⟩
   have : us.toList = [] := List.length_eq_zero_iff.1 (by simpa using hk)
   simp [this]
  ·refine ⟨us.toList, _, ?_, by simpa using hk, hz, ih⟩
   have e : (n + 1) * k = k + n * k := by rw [Nat.succ_mul, Nat.add_comm]
   apply List.ext_getElem?
   intro i
   rw [e]
   by_cases hi : i < k
   ·rw [List.getElem?_append_left (by simpa [hk] using hi)]
    have hi2 : i < k + n * k := by omega
    have hius : i < us.size := by omega
    simp [hi2, Nat.mod_eq_of_lt hi, hius, getElem!_pos us i hius]
   ·rw [List.getElem?_append_right (by simp [hk]; omega)]
    simp only [Array.length_toList, hk, Array.toList_map, Array.toList_range, List.getElem?_map, List.getElem?_range']
    by_cases hj : i < k + n * k
    ·have hj2 : i - k < n * k := by omega
     have hm : i % k = (i - k) % k := by
      conv => lhs; rw [show i = (i - k) + k by omega, Nat.add_mod_right]
     simp [hj, hj2, hm]
    ·have hj2 : ¬ i - k < n * k := by omega
     simp [hj, hj2]
def SrcG (P : Program) (e : TypeId) (k : Nat) (tx : TypeId) (u : Value) (n : Nat) (us : List Value) (w : World) : Prop :=
 Src P k tx u n us w ∨ (P.underlying tx = some (.int .i64) ∧ u = .int .i64 (n : Int) ∧ 1 ≤ n ∧ n ≤ 1000000 ∧ k ≠ 0 ∧ (∀ v ∈ us, v.oneCell' = true) ∧ us.length = n * k ∧ ∃ i z, P.info? e = some i ∧ i.size = k ∧ i.zero = some z ∧ z.cells.size = k ∧ us = (Builtin.zeroCells z.cells n).toList)
theorem SrcG.src {e : TypeId} {k : Nat} {tx : TypeId} {u : Value} {us : List Value} (h : SrcG P e k tx u 0 us w) : Src P k tx u 0 us w := by
 rcases h with h | ⟨_, _, h1, _⟩
 ·exact h
 ·omega
theorem zm3 (hI : Inv P S ρ A w) {e tx : TypeId} {x : V} {ys : List V} {u : Value} (hu : P.underlying tx = some (.int .i64)) (h : zlo P e x = some ys) (hx : RepV P S ρ A w x u) :
  ∃ k us, sz P e = some k ∧ qJ P S ρ A w k ys us ∧ SrcG P e k tx u ys.length us w := by
 unfold zlo at h
 split at h
 ·rename_i n
  split at h
  ·rename_i hn
   split at h
   ·rename_i z hz
    split at h
    ·rename_i hf
     simp only [Bool.and_eq_true] at hf
     simp only [Option.some.injEq] at h; subst h
     rw [vI hx]
     obtain ⟨k, hk⟩ := Option.isSome_iff_exists.1 hf.1.2
     have hk0 : k ≠ 0 := by
      rintro rfl
      have := hf.2
      simp [hk] at this
     obtain ⟨i, d, hi, hik, hd⟩ := z2s hk
     unfold zeroV at hz
     simp only [hi, Option.bind_some] at hz
     cases hzz : i.zero with
     | none => simp [hzz] at hz
     | some z0 =>
      simp only [hzz, Option.bind_some] at hz
      have hzr := z0h (P := P) (S := S) (ρ := ρ) (A := A) (w := w) hz
      have hzc := jB hzr
      have h3 := (z0x hf.1.1).2.2
      have hzl : z0.cells.size = k := by
       have := qX hzc
       simp only [Array.length_toList] at this
       rw [hk] at h3
       simp only [Option.some.injEq] at h3
       omega
      have hrow := z2q hzc hzl n.toNat
      have e1 : ((Array.range (n.toNat * k)).map fun i => z0.cells[i % k]!) = Builtin.zeroCells z0.cells n.toNat := by
       unfold Builtin.zeroCells
       rw [hzl]
      rw [e1] at hrow
      refine ⟨k, _, hk, hrow, .inr ⟨hu, ?_, ?_, ?_, hk0, z36 hrow, qS hrow, i, z0, hi, hik, hzz, hzl, ?_⟩⟩
      ·rw [List.length_replicate, Int.toNat_of_nonneg (by omega)]
      ·rw [List.length_replicate]; omega
      ·rw [List.length_replicate]; omega
      ·rw [List.length_replicate]
    ·cases h
   ·cases h
  ·cases h
 ·cases h
theorem zg0 (hI : Inv P S ρ A w) {e tx : TypeId} {x : V} {ys : List V} {u : Value} (h : srcV P S e tx x = some ys) (hx : RepV P S ρ A w x u) :
  ∃ k us, sz P e = some k ∧ qJ P S ρ A w k ys us ∧ SrcG P e k tx u ys.length us w ∧ (intT P tx = false → Src P k tx u ys.length us w ∧ ∀ m, m ≤ ys.length → (Builtin.firstCells k m u).run P w = .ok (us.take (m * k)).toArray w) := by
 suffices hh : (∃ k us, sz P e = some k ∧ qJ P S ρ A w k ys us ∧ Src P k tx u ys.length us w ∧ ∀ m, m ≤ ys.length → (Builtin.firstCells k m u).run P w = .ok (us.take (m * k)).toArray w) ∨ (intT P tx = true ∧ ∃ k us, sz P e = some k ∧ qJ P S ρ A w k ys us ∧ SrcG P e k tx u ys.length us w) by
  rcases hh with ⟨k, us, h1, h2, h3, h4⟩ | ⟨hi, k, us, h1, h2, h3⟩
  ·exact ⟨k, us, h1, h2, .inl h3, fun _ => ⟨h3, h4⟩⟩
  ·exact ⟨k, us, h1, h2, h3, fun h => by rw [hi] at h; cases h⟩
 unfold srcV at h
 split at h
 ·rename_i s
  split at h
  ·rename_i hu
   split at h
   ·rename_i hk
    simp only [Option.some.injEq] at h; subst h
    rw [z2j hx]
    have := Src.ofString w hu (⟨s.toArray⟩ : ByteArray)
    have hs : (⟨s.toArray⟩ : ByteArray).size = s.length := by simp [ByteArray.size]
    have hb : byteCells (⟨s.toArray⟩ : ByteArray) = s.map fun b => Value.int .u8 b.toNat := by simp [byteCells]
    rw [hs, hb] at this
    refine .inl ⟨1, _, hk, z7w s, by simpa using this, fun m hm => ?_⟩
    simp only [Builtin.firstCells, Sem.run_pure, Result.ok.injEq, and_true, Nat.mul_one]
    apply Array.ext'
    simp [List.map_take]
   ·cases h
  ·cases h
 ·rename_i hns
  split at h
  ·rename_i e' hu
   cases hel : kA S x with
   | none => simp [hel] at h
   | some zs =>
    simp only [hel] at h
    split at h
    ·rename_i hf
     simp only [Bool.and_eq_true] at hf
     simp only [Option.some.injEq] at h; subst h
     obtain ⟨k, hk⟩ := Option.isSome_iff_exists.1 hf.2
     rcases z9i hI hel hx with ⟨s, rfl, _⟩ | ⟨a, cap, k', us, rfl, hcap, hE, hc⟩
     ·exact absurd rfl (hns s)
     ·cases zs with
      | nil =>
       simp only [qJ] at hE; subst hE
       refine .inl ⟨k, [], hk, by simp [qJ], ?_⟩
       have nocells : ∀ w' : World, (Builtin.firstCells k 0 (.slice a 0 cap)).run P w' = .ok #[] w' := fun w' => by
        cases a with
        | none => simp [Builtin.firstCells]
        | some a => simp [Builtin.firstCells, loadCells, loadCellsFrom]
       exact ⟨⟨.inl ⟨e', hu⟩, fun _ => rfl, nocells w, nocells w.drew, by simp, by simp⟩, fun m hm => by
        have : m = 0 := by simpa using hm
        subst this
        simpa using nocells w⟩
      | cons z r =>
       have hkk : k' = k := by
        have h2 := (z0x (List.all_eq_true.1 hf.1 z (by simp))).2.2
        simp only [qJ] at hE
        obtain ⟨u1, u2, _, h3, h4, _⟩ := hE
        have h5 := qX h4
        rw [hk] at h2; simp at h2; omega
       subst hkk
       rcases hc with hc | ⟨b, off, rfl, hc⟩
       ·cases hc
       ·refine .inl ⟨k', us, hk, hE, Src.ofSlice w hu _ _ _ us (by rw [qS hE]) (fun j v hv => hc.cell hv) (z36 hE), fun m hm => ?_⟩
        have hl := qS hE
        refine run_firstCells_some w k' m _ _ _ _ (by rw [List.length_take, hl]; exact Nat.min_eq_left (Nat.mul_le_mul_right _ hm)) (fun j v hv => ?_)
        rw [List.getElem?_take] at hv
        split at hv
        ·exact hc.cell hv
        ·cases hv
    ·cases h
  ·rename_i hu
   exact .inr ⟨by simp [intT, hu], zm3 hI hu h hx⟩
  ·cases h
theorem z2w {t tx ty e : TypeId} {i : TypeInfo} {z : Value} (ht : P.underlying t = some (.slice e)) (hi : P.info? e = some i) (hk : P.underlying tx = some (.int .i64)) (hz : i.zero = some z) {b sLen sCap n : Nat} {news : List Value} (hn1 : 1 ≤ n) (hn2 : n ≤ 1000000) (hs0 : i.size ≠ 0) (h48 : n * i.bytes ≤ 281474976710656) (hnews : news = (Builtin.zeroCells z.cells n).toList) (hone : ∀ u ∈ news, u.oneCell' = true)
  (hroom : sLen + n ≤ sCap) {c : Array Value} {e' : TypeId} (hh : w.heap[b]? = some (.cells c e' (0, 0))) (hfit : sLen * i.size + news.length ≤ c.size) :
  (Builtin.append_ #[t, tx] ty #[.slice (some ⟨b, 0, none⟩) sLen sCap, .int .i64 (n : Int)]).run P w = .ok (.slice (some ⟨b, 0, none⟩) (sLen + n) sCap) (w.setRow b (c.toList.take (sLen * i.size) ++ news ++ c.toList.drop (sLen * i.size + news.length)).toArray) := by
 have hst := run_storeCells_at P b (sLen * i.size) e' news 0 c w hh (by simpa using hfit) hone
 simp only [Nat.add_zero] at hst
 have wn : IntKind.i64.wrap (n : Int) = (n : Int) := IntWalk.i64_in _ (by omega)
 have h1 : ¬ ((n : Int) < 0) := by omega
 have h2 : ¬ (281474976710656 < (n : Int) * (i.bytes : Int)) := by
  have : (n : Int) * (i.bytes : Int) = ((n * i.bytes : Nat) : Int) := by rw [Int.natCast_mul]
  rw [this]; omega
 have h3 : ¬ n * i.size = 0 := by
  intro h
  rcases Nat.mul_eq_zero.1 h with h | h <;> omega
 have h4 : ¬ (n = 0 ∨ i.size = 0) := by omega
 subst hnews
 simp [Builtin.append_, run_underlying ht, run_underlying hk, sizeOf, typeInfo, zeroValue, hi, hz, asInt, asIntOf, wn, h1, h2, h3, h4, hroom, Addr.add_lit, hst]
theorem z3p {t tx ty e : TypeId} {i : TypeInfo} (ht : P.underlying t = some (.slice e)) (hi : P.info? e = some i) {b sLen sCap n : Nat} {x : Value} {news : List Value} (hs : Src P i.size tx x n news w)
  (hroom : sLen + n ≤ sCap) {c : Array Value} {e' : TypeId} (hh : w.heap[b]? = some (.cells c e' (0, 0))) (hfit : sLen * i.size + news.length ≤ c.size) :
  (Builtin.append_ #[t, tx] ty #[.slice (some ⟨b, 0, none⟩) sLen sCap, x]).run P w = .ok (.slice (some ⟨b, 0, none⟩) (sLen + n) sCap) (w.setRow b (c.toList.take (sLen * i.size) ++ news ++ c.toList.drop (sLen * i.size + news.length)).toArray) := by
 have hst := run_storeCells_at P b (sLen * i.size) e' news 0 c w hh (by simpa using hfit) hs.one
 simp only [Nat.add_zero] at hst
 rcases hs.kind with ⟨e2, hk⟩ | hk <;> simp [Builtin.append_, run_underlying ht, run_underlying hk, sizeOf, typeInfo, hi, hs.len, hroom, hs.cells, Addr.add_lit, hst]
theorem z2x {t tx ty e : TypeId} {i : TypeInfo} {z : Value} (ht : P.underlying t = some (.slice e)) (hi : P.info? e = some i) (hk : P.underlying tx = some (.int .i64)) (hz : i.zero = some z) (base : Option Addr) (sLen sCap : Nat) (olds : List Value)
  (hold : (Builtin.firstCells i.size sLen (.slice base sLen sCap)).run P w.drew = .ok olds.toArray w.drew) (n : Nat) (news : List Value) (hn1 : 1 ≤ n) (hn2 : n ≤ 1000000) (hs0 : i.size ≠ 0) (h48 : n * i.bytes ≤ 281474976710656) (hnews : news = (Builtin.zeroCells z.cells n).toList)
  (hg : sCap < sLen + n) (h63 : ((sLen + n : Nat) : Int) ≤ 9223372036854775807) (hfit : Builtin.nextslicecap (sLen + n) sCap * i.bytes ≤ 281474976710656) :
  (Builtin.append_ #[t, tx] ty #[.slice base sLen sCap, .int .i64 (n : Int)]).run P w =
   .ok (.slice (some ⟨w.heap.size, 0, none⟩) (sLen + n) (grownCap w (sLen + n) sCap e))
    (w.drew.alloc (.cells ((olds ++ news).toArray ++ Builtin.zeroCells z.cells (grownCap w (sLen + n) sCap e - (sLen + n))) e)) := by
 have hn : ¬ (sLen + n ≤ sCap) := by omega
 have h63' : ¬ (9223372036854775807 < ((sLen : Int) + (n : Int))) := by omega
 have h48' : ¬ (281474976710656 < Builtin.nextslicecap (sLen + n) sCap * i.bytes) := by omega
 have wn : IntKind.i64.wrap (n : Int) = (n : Int) := IntWalk.i64_in _ (by omega)
 have h1 : ¬ ((n : Int) < 0) := by omega
 have h2 : ¬ (281474976710656 < (n : Int) * (i.bytes : Int)) := by
  have : (n : Int) * (i.bytes : Int) = ((n * i.bytes : Nat) : Int) := by rw [Int.natCast_mul]
  rw [this]; omega
 have h4 : ¬ (n = 0 ∨ i.size = 0) := by omega
 subst hnews
 simp [Builtin.append_, run_underlying ht, run_underlying hk, sizeOf, typeInfo, zeroValue, hi, hz, asInt, asIntOf, wn, h1, h2, h4, hn, h63', h48', Question.forced, hold, newRow, grownCap]
 have h5 : ¬ n * i.size = 0 := by
  intro h
  rcases Nat.mul_eq_zero.1 h with h | h <;> omega
 have e5 : ∀ q : Array Value, olds.toArray ++ (Builtin.zeroCells z.cells n ++ q) = (olds ++ (Builtin.zeroCells z.cells n).toList).toArray ++ q := by
  intro q
  apply Array.ext'
  simp [List.append_assoc]
 rw [if_neg h5, e5]
theorem z5q {t tx ty e : TypeId} {i : TypeInfo} (ht : P.underlying t = some (.slice e)) (hi : P.info? e = some i) {b sLen sCap n : Nat} {x : Value} {news : List Value} (hs : SrcG P e i.size tx x n news w) (h48 : n * i.bytes ≤ 281474976710656)
  (hroom : sLen + n ≤ sCap) {c : Array Value} {e' : TypeId} (hh : w.heap[b]? = some (.cells c e' (0, 0))) (hfit : sLen * i.size + news.length ≤ c.size) :
  (Builtin.append_ #[t, tx] ty #[.slice (some ⟨b, 0, none⟩) sLen sCap, x]).run P w = .ok (.slice (some ⟨b, 0, none⟩) (sLen + n) sCap) (w.setRow b (c.toList.take (sLen * i.size) ++ news ++ c.toList.drop (sLen * i.size + news.length)).toArray) := by
 rcases hs with hs | ⟨hk, rfl, hn1, hn2, hk0, hone, hl, i', z, hi', hik, hz, hzs, hnews⟩
 ·exact z3p ht hi hs hroom hh hfit
 ·rw [hi] at hi'; cases hi'
  exact z2w ht hi hk hz hn1 hn2 hk0 h48 hnews hone hroom hh hfit
theorem z5y {t tx ty e : TypeId} {i : TypeInfo} {z : Value} (ht : P.underlying t = some (.slice e)) (hi : P.info? e = some i) (hz : i.zero = some z) (base : Option Addr) (sLen sCap : Nat) (olds : List Value)
  (hold : (Builtin.firstCells i.size sLen (.slice base sLen sCap)).run P w.drew = .ok olds.toArray w.drew) (x : Value) (n : Nat) (news : List Value) (hs : SrcG P e i.size tx x n news w) (h48 : n * i.bytes ≤ 281474976710656)
  (hg : sCap < sLen + n) (h63 : ((sLen + n : Nat) : Int) ≤ 9223372036854775807) (hfit : Builtin.nextslicecap (sLen + n) sCap * i.bytes ≤ 281474976710656) :
  (Builtin.append_ #[t, tx] ty #[.slice base sLen sCap, x]).run P w =
   .ok (.slice (some ⟨w.heap.size, 0, none⟩) (sLen + n) (grownCap w (sLen + n) sCap e))
    (w.drew.alloc (.cells ((olds ++ news).toArray ++ Builtin.zeroCells z.cells (grownCap w (sLen + n) sCap e - (sLen + n))) e)) := by
 rcases hs with hs | ⟨hk, rfl, hn1, hn2, hk0, hone, hl, i', z', hi', hik, hz', hzs, hnews⟩
 ·exact run_append_grow_src w t tx ty e i z ht hi hz base sLen sCap olds hold x n news hs hg h63 hfit
 ·rw [hi] at hi'; cases hi'
  rw [hz] at hz'; cases hz'
  exact z2x ht hi hk hz base sLen sCap olds hold n news hn1 hn2 hk0 h48 hnews hg h63 hfit
theorem z57 {e : TypeId} {n : Nat} {i : TypeInfo} (h : room P e n = true) (hi : P.info? e = some i) : n * i.bytes ≤ 140737488355328 ∧ n ≤ 9223372036854775807 := by
 simpa [room, bytesOf, hi] using h
theorem znc {e : TypeId} {i : TypeInfo} (h : zOk P e = true) (hi : P.info? e = some i) : ∃ z, i.zero = some z ∧ z.cells.size = i.size := by
 unfold zOk at h
 cases hz : zeroV P e with
 | none => simp [hz] at h
 | some v =>
  simp only [hz] at h
  unfold zeroV at hz
  simp only [hi, Option.bind_some] at hz
  cases hzz : i.zero with
  | none => simp [hzz] at hz
  | some z =>
   simp only [hzz, Option.bind_some] at hz
   obtain ⟨_, k, hk, h1, _⟩ := wR (P := P) (S := []) (ρ := fun _ => 0) (A := fun _ => False) (w := default) h (zT (z0h hz))
   obtain ⟨i', _, hi', hk', _⟩ := z2s hk
   rw [hi] at hi'; cases hi'
   exact ⟨z, rfl, by omega⟩
theorem zf6 (hI : Inv P S ρ A w) {t tx ty : TypeId} {s x y : V} {S' : Store} {c : Nat} {us ux : Value} (h : qE P S t tx s x = some (y, S', c)) (hs : RepV P S ρ A w s us) (hx : RepV P S ρ A w x ux) :
  ∃ v w' ρ', (Builtin.append_ #[t, tx] ty #[us, ux]).run P w = .ok v w' ∧ Inv P S' ρ' A w' ∧ Step S ρ A w S' ρ' A w' ∧ RepW P S' ρ' A w' y v := by
 unfold qE at h
 split at h
 ·rename_i e hu
  cases hsrc : srcV P S e tx x with
  | none => simp [hsrc] at h
  | some ys =>
   obtain ⟨k, news, hk, hE, hsr, _⟩ := zg0 hI hsrc hx
   obtain ⟨i, d, hi, hik, hd⟩ := z2s hk
   subst hik
   simp only [hsrc] at h
   cases ys with
   | nil =>
    simp only at h
    simp only [qJ] at hE; subst hE
    have nothing : ∀ a n cap, n ≤ cap → us = .slice a n cap → (Builtin.append_ #[t, tx] ty #[us, ux]).run P w = .ok us w := fun a n cap hle he => by
     subst he; exact run_append_nothing w t tx ty e i hu hi a n cap hle ux (SrcG.src (by simpa using hsr))
    split at h <;> simp only [Option.some.injEq, Prod.mk.injEq, reduceCtorEq] at h
    ·rename_i xs
     obtain ⟨rfl, rfl, rfl⟩ := h
     obtain ⟨a, he, _⟩ := zci hs
     exact ⟨us, w, ρ, nothing a _ _ (Nat.le_refl _) he, hI, .refl, (zY rfl).1 hs⟩
    ·rename_i id off len
     obtain ⟨rfl, rfl, rfl⟩ := h
     have hs' := (zY rfl).1 hs
     have hs2 := (zG rfl).1 hs'
     simp only [zP, List.cons.injEq, and_true] at hs2
     obtain ⟨a, cap, he, hpl⟩ := hs2
     have hle : len ≤ cap := by
      unfold RowPl at hpl
      cases ho : S[id]? with
      | none => simp [ho] at hpl
      | some o =>
       simp only [ho] at hpl
       cases o <;> first | exact hpl.elim | exact hpl | (obtain ⟨_, _, _, _, h4, _⟩ := hpl; exact h4)
     exact ⟨us, w, ρ, nothing a _ _ hle he, hI, .refl, hs'⟩
    ·rename_i xs
     obtain ⟨rfl, rfl, rfl⟩ := h
     obtain ⟨a, cap, he, hle, _⟩ := z85 (jH.1 hs)
     exact ⟨us, w, ρ, nothing a _ _ hle he, hI, .refl, (zY rfl).1 hs⟩
   | cons y0 r =>
    simp only at h
    split at h
    ·rename_i hz
     obtain ⟨z0, hz0, hzc⟩ := znc hz hi
     have grow : ∀ (S1 : Store) (ρ1 : Nat → Nat) (old : List V) (base : Option Addr) (cap : Nat) (olds : List Value), Inv P S1 ρ1 A w → qJ P S1 ρ1 A w i.size old olds → qJ P S1 ρ1 A w i.size (y0 :: r) news → us = .slice base old.length cap → cap < old.length + (r.length + 1) → room P e (old.length + (r.length + 1)) = true →
       (base = none ∧ old = [] ∨ ∃ a, base = some a ∧ ∀ j u, olds[j]? = some u → w.cell? (a.add j) = some u) →
       ∃ v w', (Builtin.append_ #[t, tx] ty #[us, ux]).run P w = .ok v w' ∧ ∃ ρ', Inv P (S1 ++ [.row (old ++ y0 :: r) e]) ρ' A w' ∧ Step S1 ρ1 A w (S1 ++ [.row (old ++ y0 :: r) e]) ρ' A w' ∧ RepW P (S1 ++ [.row (old ++ y0 :: r) e]) ρ' A w' (.rs S1.length 0 (old.length + (r.length + 1))) v := by
      intro S1 ρ1 old base cap olds hI1 hold hnew he hcap hroom hb
      obtain ⟨r1, r2⟩ := z57 hroom hi
      have hol := qS hold
      have hld : (Builtin.firstCells i.size old.length (.slice base old.length cap)).run P w.drew = .ok olds.toArray w.drew := by
       rcases hb with ⟨rfl, rfl⟩ | ⟨a, rfl, ha⟩
       ·simp only [qJ] at hold; subst hold
        exact run_firstCells_none w.drew i.size 0 0 cap
       ·exact run_firstCells_some w.drew i.size old.length a old.length cap olds hol (by simpa using ha)
      have hrun := z5y (ty := ty) hu hi hz0 base old.length cap olds hld ux (r.length + 1) news (by simpa using hsr) (by rw [Nat.add_mul] at r1; omega) hcap (by omega) (growslice_fits hcap r1)
      rw [← he] at hrun
      refine ⟨_, _, hrun, ?_⟩
      obtain ⟨g1, g2⟩ := hI1.push (o := .row (old ++ y0 :: r) e) (w' := w.drew.alloc (.cells ((olds ++ news).toArray ++ Builtin.zeroCells z0.cells (grownCap w (old.length + (r.length + 1)) cap e - (old.length + (r.length + 1)))) e)) rfl (by simp) (fun b hb => kG _ hb) rfl rfl rfl (fun hss hA => by
       simp only [ObOk]
       refine ⟨i.size, _, olds ++ news, (Builtin.zeroCells z0.cells (grownCap w (old.length + (r.length + 1)) cap e - (old.length + (r.length + 1)))).toList, hk, jC (w := w.drew) _, by simp, ?_⟩
       exact vR (qZ (fun _ h => h) hA hss _ _ _ hold) (qZ (fun _ h => h) hA hss _ _ _ hnew))
      refine ⟨_, g1, g2, (zG rfl).2 ?_⟩
      simp only [zP]
      refine ⟨_, _, rfl, ?_⟩
      unfold RowPl
      simp only [List.getElem?_concat_length]
      have hg := grownCap_ge w (old.length + (r.length + 1)) cap e
      have hnl := qS hnew
      refine ⟨i.size, hk, .inl ?_, by simp, hg, _, e, (0, 0), by simp only [if_true]; exact jC (w := w.drew) _, ?_⟩
      ·simp
      ·simp only [Array.size_append, List.size_toArray, List.length_append, size_zeroCells, hol, hnl, List.length_cons]
       rw [hzc]
       have : grownCap w (old.length + (r.length + 1)) cap e = (old.length + (r.length + 1)) + (grownCap w (old.length + (r.length + 1)) cap e - (old.length + (r.length + 1))) := by omega
       generalize grownCap w (old.length + (r.length + 1)) cap e - (old.length + (r.length + 1)) = q at *
       rw [this]
       simp only [Nat.zero_add, Nat.add_mul]
       omega
     split at h
     ·rename_i xs
      split at h
      ·rename_i hf
       simp only [Bool.and_eq_true] at hf
       simp only [Option.some.injEq, Prod.mk.injEq] at h
       obtain ⟨rfl, rfl, rfl⟩ := h
       obtain ⟨a, he, hxs⟩ := zci hs
       obtain ⟨a2, cap2, he2, _, hr⟩ := z85 hxs
       rw [he] at he2
       simp only [Value.slice.injEq] at he2
       obtain ⟨rfl, _, rfl⟩ := he2
       have hl : (xs.map V.d).length = xs.length := by simp
       rcases hr with rfl | ⟨b, off, k', olds, rfl, _, hc, hE0⟩
       ·obtain ⟨v, w', e1, ρ', e2, e3, e4⟩ := grow S ρ [] a 0 [] hI (by simp [qJ]) hE (by simpa using he) (by simp) (by simpa using hf.2) (by
         cases a with
         | none => exact .inl ⟨rfl, rfl⟩
         | some a => exact .inr ⟨a, rfl, by simp⟩)
        exact ⟨v, w', ρ', e1, by simpa using e2, by simpa using e3, by simpa using e4⟩
       ·cases xs with
        | nil =>
         simp only [RepE] at hE0; subst hE0
         obtain ⟨v, w', e1, ρ', e2, e3, e4⟩ := grow S ρ [] _ 0 [] hI (by simp [qJ]) hE (by simpa using he) (by simp) (by simpa using hf.2) (.inr ⟨_, rfl, by simp⟩)
         exact ⟨v, w', ρ', e1, by simpa using e2, by simpa using e3, by simpa using e4⟩
        | cons x0 r0 =>
         have hkk : k' = i.size := by
          have h2 := (z66 (List.all_eq_true.1 hf.1 x0 (by simp))).2
          simp only [RepE] at hE0
          obtain ⟨u1, u2, _, h3, h4, _⟩ := hE0
          have h5 := jP h4
          rw [hk] at h2; simp at h2; omega
         subst hkk
         obtain ⟨v, w', e1, ρ', e2, e3, e4⟩ := grow S ρ ((x0 :: r0).map V.d) _ _ olds hI (z4g hE0) hE (by rw [hl]; exact he) (by simp) (by rw [hl]; exact hf.2) (.inr ⟨_, rfl, fun j u hu => hc.cell hu⟩)
         rw [hl] at e4
         exact ⟨v, w', ρ', e1, e2, e3, e4⟩
      ·cases h
     ·rename_i id off len
      cases ho : S[id]? with
      | none => simp [ho] at h
      | some o =>
       simp only [ho] at h
       cases o with
       | row xs e' =>
        simp only at h
        split at h
        ·rename_i hf
         simp only [Bool.and_eq_true, decide_eq_true_eq] at hf
         obtain ⟨⟨⟨rfl, hee⟩, hle⟩, hroom⟩ := hf
         subst hee
         simp only [Option.some.injEq, Prod.mk.injEq] at h
         obtain ⟨rfl, rfl, rfl⟩ := h
         have hok := hI.ok id _ ho
         have hs2 := (zG rfl).1 ((zY rfl).1 hs)
         simp only [zP, List.cons.injEq, and_true] at hs2
         obtain ⟨a, cap, he, hpl⟩ := hs2
         unfold RowPl at hpl
         simp only [ho] at hpl
         obtain ⟨k2, hk2, ha, h3, h4, c2, e2, f2, h5, h6⟩ := hpl
         rw [hk] at hk2; cases hk2
         simp only [ObOk] at hok
         obtain ⟨k3, c, olds, rest, hk3, hh, hcl, hre⟩ := hok
         rw [hk] at hk3; cases hk3
         rw [hh] at h5
         simp only [Option.some.injEq, Obj.cells.injEq] at h5
         rw [← h5.1] at h6
         have hol := qS hre
         have hcs : c.size = olds.length + rest.length := by rw [← Array.length_toList, hcl, List.length_append]
         have hnl := qS hE
         have hpre := (kK len hle hre).1
         by_cases hcap : len + (r.length + 1) ≤ cap
         ·
          have ha' : a = some ⟨ρ id, 0, none⟩ := by
           rcases ha with ha | ha
           ·simpa using ha
           ·omega
          subst ha'
          subst he
          have hfit : len * i.size + news.length ≤ c.size := by
           rw [hnl]
           have : (len + (r.length + 1)) * i.size ≤ cap * i.size := Nat.mul_le_mul_right _ hcap
           simp only [List.length_cons, Nat.zero_add] at h6 ⊢
           rw [Nat.add_mul] at this
           omega
          have hrun := z5q (ty := ty) hu hi (by simpa using hsr) (by have r1 := (z57 hroom hi).1; rw [Nat.add_mul] at r1; omega) hcap hh hfit
          obtain ⟨g1, g2⟩ := hI.move (o' := .row (xs.take len ++ y0 :: r) e') (w' := w.setRow (ρ id) (c.toList.take (len * i.size) ++ news ++ c.toList.drop (len * i.size + news.length)).toArray) ho rfl (by simp) (fun b hb => setRow_other w _ b _ hb) rfl rfl rfl rfl (fun hss hA => by
           simp only [ObOk]
           refine ⟨i.size, _, olds.take (len * i.size) ++ news, c.toList.drop (len * i.size + news.length), hk, setRow_heap w _ _ _ _ _ hh, ?_, ?_⟩
           ·rw [List.toList_toArray, hcl, List.take_append_of_le_length (by rw [hol]; exact Nat.mul_le_mul_right _ hle)]
           ·exact vR (qZ (fun _ h => h) hA hss _ _ _ hpre) (qZ (fun _ h => h) hA hss _ _ _ hE))
          refine ⟨_, _, _, hrun, g1, g2, (zG rfl).2 ?_⟩
          simp only [zP]
          refine ⟨_, _, rfl, ?_⟩
          unfold RowPl
          rw [List.getElem?_append_right (by simp)]
          simp only [List.length_set, Nat.sub_self, List.getElem?_cons_zero]
          refine ⟨i.size, hk, .inl (by simp), by simp; omega, hcap, _, _, _, by simp only [if_true]; exact setRow_heap w _ _ _ _ _ hh, ?_⟩
          simp only [List.size_toArray, List.length_append, List.length_take, List.length_drop, Array.length_toList]
          have := hfit
          simp only [Nat.zero_add] at h6 ⊢
          omega
         ·
          obtain ⟨g1, g2⟩ := hI.turn (o' := .dead) (w' := w) ho rfl (by simp [Ob.le]) rfl (fun _ _ => rfl) (.inl rfl) rfl rfl rfl (.inr rfl) (fun _ _ => trivial)
          have hlen : (xs.take len).length = len := by simp; omega
          have hb : a = none ∧ xs.take len = [] ∨ ∃ a', a = some a' ∧ ∀ j u, (olds.take (len * i.size))[j]? = some u → w.cell? (a'.add j) = some u := by
           rcases ha with rfl | ha
           ·refine .inr ⟨_, rfl, fun j u hu => ?_⟩
            have := qG hh hcl 0 (len * i.size)
            simp only [List.drop_zero] at this
            simpa using this.cell hu
           ·have : len = 0 := by omega
            subst this
            cases a with
            | none => exact .inl ⟨rfl, by simp⟩
            | some a => exact .inr ⟨a, rfl, by simp⟩
          obtain ⟨v, w', e1, ρ', e2, e3, e4⟩ := grow (S.set id .dead) ρ (xs.take len) a cap (olds.take (len * i.size)) g1 (qZ (fun _ h => h) (fun _ _ => rfl) g2.sle _ _ _ hpre) (qZ (fun _ h => h) (fun _ _ => rfl) g2.sle _ _ _ hE) (by rw [hlen]; exact he) (by rw [hlen]; omega) (by rw [hlen]; exact hroom) hb
          rw [hlen, List.length_set] at e4
          exact ⟨v, w', ρ', e1, e2, g2.trans e3, e4⟩
        ·cases h
       | _ => simp at h
     ·cases h
    ·cases h
 ·cases h
theorem zl0 (hI : Inv P S ρ A w) {t tx ty : TypeId} {s x y : V} {S' : Store} {us ux : Value} (h : copyV P S t tx s x = some (y, S')) (hs : RepV P S ρ A w s us) (hx : RepV P S ρ A w x ux) :
  ∃ v w', (Builtin.copy_ #[t, tx] ty #[us, ux]).run P w = .ok v w' ∧ Inv P S' ρ A w' ∧ Step S ρ A w S' ρ A w' ∧ RepW P S' ρ A w' y v := by
 unfold copyV at h
 split at h
 ·rename_i e hu
  split at h
  ·cases h
  rename_i hni
  have hni : intT P tx = false := by simpa using hni
  cases hsrc : srcV P S e tx x with
  | none => simp [hsrc] at h
  | some ys =>
   obtain ⟨k, news, hk, hE, _, hG⟩ := zg0 hI hsrc hx
   obtain ⟨hsr, hfirst⟩ := hG hni
   simp only [hsrc] at h
   split at h
   ·rename_i id off len
    cases ho : S[id]? with
    | none => simp [ho] at h
    | some o =>
     simp only [ho] at h
     cases o with
     | row xs e' =>
      simp only at h
      split at h
      ·rename_i hf
       simp only [Bool.and_eq_true, decide_eq_true_eq] at hf
       obtain ⟨hee, hle⟩ := hf
       subst hee
       simp only [Option.some.injEq, Prod.mk.injEq] at h
       obtain ⟨rfl, rfl⟩ := h
       have hok := hI.ok id _ ho
       have hs2 := (zG rfl).1 ((zY rfl).1 hs)
       simp only [zP, List.cons.injEq, and_true] at hs2
       obtain ⟨a, cap, rfl, hpl⟩ := hs2
       unfold RowPl at hpl
       simp only [ho] at hpl
       obtain ⟨k2, hk2, ha, h3, h4, c2, e2, f2, h5, h6⟩ := hpl
       rw [hk] at hk2; cases hk2
       simp only [ObOk] at hok
       obtain ⟨k3, c, olds, rest, hk3, hh, hcl, hre⟩ := hok
       rw [hk] at hk3; cases hk3
       have hol := qS hre
       have hcs : c.size = olds.length + rest.length := by rw [← Array.length_toList, hcl, List.length_append]
       have hnl := qS hE
       generalize hm : min ys.length len = m
       have hm1 : m ≤ ys.length := by omega
       have hm2 : m ≤ len := by omega
       obtain ⟨hE1, _⟩ := kK m hm1 hE
       have hE1l : (news.take (m * k)).length = m * k := by
        rw [List.length_take, hnl]; exact Nat.min_eq_left (Nat.mul_le_mul_right _ hm1)
       have hlen : (Builtin.lenOf ux).run P w = .ok ys.length w := hsr.len w
       have hfc := hfirst m hm1
       have hone := z36 hE1
       by_cases hc0 : a = some ⟨ρ id, off * k, none⟩
       ·subst hc0
        have hmk : (off + m) * k ≤ xs.length * k := Nat.mul_le_mul_right _ (by omega)
        rw [Nat.add_mul] at hmk
        have hst := run_storeCells_at P (ρ id) (off * k) e' (news.take (m * k)) 0 c w hh (by rw [hE1l]; omega) hone
        simp only [Nat.add_zero, hE1l] at hst
        refine ⟨goInt m, w.setRow (ρ id) (c.toList.take (off * k) ++ news.take (m * k) ++ c.toList.drop (off * k + m * k)).toArray, ?_, ?_⟩
        ·have hmin : Nat.min ys.length len = m := hm
         simp [Builtin.copy_, run_underlying hu, hlen, run_sizeOf hk, hmin, hfc, hst]
        ·obtain ⟨g1, g2⟩ := hI.turn (o' := .row (xs.take off ++ ys.take m ++ xs.drop (off + m)) e') (w' := w.setRow (ρ id) (c.toList.take (off * k) ++ news.take (m * k) ++ c.toList.drop (off * k + m * k)).toArray) ho rfl ⟨by simp; omega, rfl⟩ (by simp) (fun b hb => setRow_other w _ b _ hb) (.inr fun c0 e0 f0 hc0 => by
           rw [hh] at hc0; cases hc0
           refine ⟨_, _, _, setRow_heap w _ _ _ _ _ hh, ?_⟩
           simp only [List.size_toArray, List.length_append, List.length_drop, Array.length_toList, hE1l]
           rw [List.length_take, Array.length_toList]
           omega) rfl rfl rfl (.inl rfl) (fun hss hA => by
           simp only [ObOk]
           refine ⟨k, _, olds.take (off * k) ++ news.take (m * k) ++ olds.drop (off * k + m * k), rest, hk, setRow_heap w _ _ _ _ _ hh, ?_, ?_⟩
           ·rw [List.toList_toArray, hcl, List.take_append_of_le_length (by omega), List.drop_append_of_le_length (by omega)]
            simp [List.append_assoc]
           ·have e1 := (kK off (by omega) hre).1
            have e2 := (kK (off + m) (by omega) hre).2
            rw [Nat.add_mul] at e2
            exact vR (vR (qZ (fun _ h => h) hA hss _ _ _ e1) (qZ (fun _ h => h) hA hss _ _ _ hE1)) (qZ (fun _ h => h) hA hss _ _ _ e2))
         exact ⟨g1, g2, z8m⟩
       ·have hcap0 : cap = 0 := by
         rcases ha with ha | ha
         ·exact absurd ha hc0
         ·exact ha
        have hm0 : m = 0 := by omega
        subst hm0
        have hsame : S.set id (Ob.row (xs.take off ++ ys.take 0 ++ xs.drop (off + 0)) e') = S := by
         simp only [List.take_zero, List.append_nil, Nat.add_zero, List.take_append_drop]
         apply List.ext_getElem?
         intro j
         rw [List.getElem?_set]
         by_cases hj : id = j
         ·subst hj
          have hlt : id < S.length := by
           rcases Nat.lt_or_ge id S.length with h' | h'
           ·exact h'
           ·simp [List.getElem?_eq_none h'] at ho
          rw [if_pos rfl, if_pos hlt, ho]
         ·simp [hj]
        rw [hsame]
        refine ⟨goInt (0 : Nat), w, ?_, hI, .refl, z8m⟩
        have hmin : Nat.min ys.length len = 0 := hm
        simp only [Nat.zero_mul, List.take_zero] at hfc
        cases a with
        | none => simp [Builtin.copy_, run_underlying hu, hlen, run_sizeOf hk, hmin, hfc]
        | some a => simp [Builtin.copy_, run_underlying hu, hlen, run_sizeOf hk, hmin, hfc, storeCells]
      ·cases h
     | _ => simp at h
   ·cases h
 ·cases h
end
section
variable {P : Program} {S : Store} {ρ : Nat → Nat} {A : Nat → Prop} {w w' : World}
theorem z8z (hI : Inv P S ρ A w) {t : TypeId} {l c y : V} {S' : Store} {ul uc : Value} (h : jG P S t l c = some (y, S')) (hl : RepV P S ρ A w l ul) (hc : RepV P S ρ A w c uc) :
  ∃ v w' ρ', (Instr.makeSlice t ul uc).run P w = .ok v w' ∧ Inv P S' ρ' A w' ∧ Step S ρ A w S' ρ' A w' ∧ RepW P S' ρ' A w' y v := by
 unfold jG at h
 split at h
 ·rename_i e hu
  split at h
  ·rename_i l c z hz
   split at h
   ·rename_i hb
    split at h
    ·rename_i hr
     simp only [Bool.and_eq_true] at hr
     simp only [Option.some.injEq, Prod.mk.injEq] at h
     obtain ⟨rfl, rfl⟩ := h
     rw [vI hl, vI hc]
     obtain ⟨h1, h2, h3⟩ := z0x hr.2
     obtain ⟨i, d, hi, hik, hd⟩ := z2s h3
     obtain ⟨r1, r2⟩ := z57 hr.1 hi
     unfold zeroV at hz
     simp only [hi, Option.bind_some] at hz
     cases hzz : i.zero with
     | none => simp [hzz] at hz
     | some z0 =>
      simp only [hzz, Option.bind_some] at hz
      have hzr := z0h (P := P) (S := S) (ρ := ρ) (A := A) (w := w) hz
      have hzc := jB hzr
      have hzl : z0.cells.size = i.size := by
       have := qX hzc
       simp only [Array.length_toList] at this
       omega
      have wl : IntKind.i64.wrap l = l := IntWalk.i64_in _ (by omega)
      have wc : IntKind.i64.wrap c = c := IntWalk.i64_in _ (by omega)
      have hrow := z2q hzc hzl c.toNat
      have t1 : ¬ ((i.bytes : Int) * c > 2 ^ 48) := by
       have : (i.bytes : Int) * c = ((c.toNat * i.bytes : Nat) : Int) := by
        rw [Nat.mul_comm, Int.natCast_mul, Int.toNat_of_nonneg (by omega)]
       rw [this]; omega
      have hrun : (Instr.makeSlice t (.int .i64 l) (.int .i64 c)).run P w = .ok (.slice (some ⟨w.heap.size, 0, none⟩) l.toNat c.toNat) (w.alloc (.cells ((Array.range (c.toNat * i.size)).map fun j => z0.cells[j % i.size]!) e)) := by
       have hneg : ¬ c < 0 := by omega
       have hl0 : ¬ l < 0 := by omega
       have hlc : ¬ c < l := by omega
       have t1' : ¬ (281474976710656 < (i.bytes : Int) * c) := by have := t1; omega
       by_cases hn : c.toNat * i.size = 0
       ·simp [Instr.makeSlice, run_underlying hu, asInt, asIntOf, typeInfo, hi, wl, wc, hneg, hl0, hlc, t1', sizeOf, newRow, hn, Array.range_zero']
       ·simp [Instr.makeSlice, run_underlying hu, asInt, asIntOf, typeInfo, hi, wl, wc, hneg, hl0, hlc, t1', sizeOf, newRow, hn, zeroValue, hzz, hzl]
      obtain ⟨g1, g2⟩ := hI.push (o := .row (List.replicate c.toNat z) e) (w' := w.alloc (.cells ((Array.range (c.toNat * i.size)).map fun j => z0.cells[j % i.size]!) e)) rfl (by simp) (fun b hb => kG _ hb) rfl rfl rfl (fun hs hA => by
       simp only [ObOk]
       exact ⟨i.size, _, _, [], by rw [h3, hik], jC _, by rw [List.append_nil], qZ (fun _ h => h) hA hs _ _ _ hrow⟩)
      refine ⟨_, _, _, hrun, g1, g2, (zG rfl).2 ?_⟩
      simp only [zP]
      refine ⟨_, _, rfl, ?_⟩
      unfold RowPl
      simp only [List.getElem?_concat_length]
      refine ⟨i.size, by rw [h3, hik], .inl (by simp), by simp; omega, by omega, _, e, (0, 0), by simp only [if_true]; exact jC _, by simp⟩
    ·cases h
   ·cases h
  ·cases h
 ·cases h
theorem z51 : ∀ (vs : List Value) (off j : Nat) (cells : List Value), off + j + vs.length ≤ cells.length → (vs.zipIdx j).foldl (fun cs (x : Value × Nat) => cs.set (off + x.2) x.1) cells = cells.take (off + j) ++ vs ++ cells.drop (off + j + vs.length)
 | [], off, j, cells, h => by simp
 | v :: r, off, j, cells, h => by
  simp only [List.zipIdx_cons, List.foldl_cons]
  rw [z51 r off (j + 1) _ (by simp at h ⊢; omega)]
  have := list_seg_step cells (off + j) v r (by simp at h; omega)
  rw [show off + (j + 1) = off + j + 1 by omega]
  rw [show off + j + (v :: r).length = off + j + (r.length + 1) by simp]
  exact this
theorem z3m (v : Array Value) (off : Nat) (cells : Array Value) (h : off + v.size ≤ cells.size) : (v.zipIdx.foldl (fun cs (x : Value × Nat) => cs.setIfInBounds (off + x.2) x.1) cells).toList = cells.toList.take off ++ v.toList ++ cells.toList.drop (off + v.size) := by
 have e : ∀ (l : List (Value × Nat)) (cs : Array Value), (l.foldl (fun cs (x : Value × Nat) => cs.setIfInBounds (off + x.2) x.1) cs).toList = l.foldl (fun cs (x : Value × Nat) => cs.set (off + x.2) x.1) cs.toList := by
  intro l
  induction l with
  | nil => intro cs; rfl
  | cons x r ih => intro cs; simp only [List.foldl_cons]; rw [ih]; simp
 rw [← Array.foldl_toList, e]
 have := z51 v.toList off 0 cells.toList (by simpa using h)
 simpa using this
def z0g (P : Program) (S : Store) (ρ : Nat → Nat) (A : Nat → Prop) (w : World) : List (Nat × V) → List (Nat × Value) → Prop
 | [], us => us = []
 | p :: r, us => ∃ u ws, us = u :: ws ∧ u.1 = p.1 ∧ RepV P S ρ A w p.2 u.2 ∧ z0g P S ρ A w r ws
theorem z0v {T : List V} {a : Act} (hT : RepT P S ρ A w T a.tmps.toList) : ∀ (ps : List (Nat × Operand)), z0g P S ρ A w (ps.map fun p => (p.1, zB T p.2)) (ps.map fun p => (p.1, a.eval p.2))
 | [] => by simp [z0g]
 | p :: r => by
  simp only [List.map_cons, z0g]
  exact ⟨_, _, rfl, rfl, z0w hT p.2, z0v hT r⟩
theorem zb8 {place : Nat → Option (Nat × Nat)} : ∀ {parts : List (Nat × V)} {parts' : List (Nat × Value)} {cs cs' : List V} {cells : Array Value}, zi5 place cs parts = some cs' → z0g P S ρ A w parts parts' → qY P S ρ A w cs cells.toList → ∃ cells', Instr.fill place cells parts' = some cells' ∧ qY P S ρ A w cs' cells'.toList
  | [], parts', cs, cs', cells, h, hp, hc => by
    simp only [zi5, Option.some.injEq] at h; subst h
    simp only [z0g] at hp; subst hp
    exact ⟨cells, rfl, hc⟩
  | (i, v) :: r, parts', cs, cs', cells, h, hp, hc => by
    simp only [z0g] at hp
    obtain ⟨⟨i', u⟩, ws, rfl, he, hv, hr⟩ := hp
    simp only at he hv; subst he
    simp only [zi5] at h
    cases hpl : place i' with
    | none => simp [hpl] at h
    | some q =>
      obtain ⟨off, n⟩ := q
      simp only [hpl] at h
      split at h
      · rename_i hcond
        simp only [Bool.and_eq_true, decide_eq_true_eq] at hcond
        obtain ⟨⟨h1, h2⟩, h3⟩ := hcond
        have hvw := (zY h1).1 hv
        have hvc := jB hvw
        have hus : u.cells.size = n := by
          have := qX hvc
          simp only [Array.length_toList] at this
          omega
        have hcl := z2l hc
        simp only [Array.length_toList] at hcl
        have hle : off + u.cells.size ≤ cells.size := by omega
        have hnew := z3m u.cells off cells hle
        obtain ⟨cells', e1, e2⟩ := zb8 (cells := u.cells.zipIdx.foldl (fun cs (x : Value × Nat) => cs.setIfInBounds (off + x.2) x.1) cells) h hr (by
          rw [hnew, hus]
          exact vS (vS (z06 off hc) (kO hvc)) (z05 (off + n) hc))
        refine ⟨cells', ?_, e2⟩
        simp only [Instr.fill, hpl]
        rw [if_neg (by simp [hus]; omega)]
        exact e1
      · cases h
theorem run_places (fs : List Field) (h : fs.all (fun f => (sz P f.type).isSome) = true) : (fs.mapM (fun f => do pure (f.offset, ← sizeOf f.type) : Field → Sem (Nat × Nat))).run P w = .ok (fs.map fun f => (f.offset, (sz P f.type).getD 0)) w := by
 induction fs with
 | nil => simp
 | cons f r ih =>
  simp only [List.all_cons, Bool.and_eq_true] at h
  obtain ⟨k, hk⟩ := Option.isSome_iff_exists.1 h.1
  simp only [List.mapM_cons, Sem.run_bind, run_sizeOf hk, Result.andThen_ok, Sem.run_pure, ih h.2, List.map_cons, hk, Option.getD_some]
theorem z2i {t : TypeId} {z : V} (h : zeroV P t = some z) : ∃ v, (zeroValue t).run P w = .ok v w ∧ RepW P S ρ A w z v := by
 unfold zeroV at h
 cases hi : P.info? t with
 | none => simp [hi] at h
 | some i =>
  simp only [hi, Option.bind_some] at h
  cases hz : i.zero with
  | none => simp [hz] at h
  | some v =>
   simp only [hz, Option.bind_some] at h
   exact ⟨v, by simp [zeroValue, typeInfo, hi, hz], z0h h⟩
theorem zhj {t : TypeId} {parts : List (Nat × V)} {parts' : Array (Nat × Value)} {y : V} (h : wP P t parts = some y) (hp : z0g P S ρ A w parts parts'.toList) :
  ∃ v, (Instr.build t parts').run P w = .ok v w ∧ RepW P S ρ A w y v := by
 unfold wP at h
 cases hz : zeroV P t with
 | none => simp [hz] at h
 | some z =>
  simp only [hz] at h
  split at h
  ·rename_i hg
   obtain ⟨zv, e1, e2⟩ := z2i (S := S) (ρ := ρ) (A := A) (w := w) hz
   obtain ⟨zc, rfl, hzc⟩ := z0r hg e2
   split at h
   ·rename_i fs hu
    split at h
    ·rename_i hall
     obtain ⟨cs, hcs, rfl⟩ := Option.map_eq_some_iff.1 h
     obtain ⟨cells', f1, f2⟩ := zb8 hcs hp hzc
     refine ⟨.agg cells', ?_, zb0.2 ⟨cells', rfl, f2⟩⟩
     have hpl := run_places (P := P) (w := w) fs.toList hall
     have hpl' : (fs.mapM (fun f => do pure (f.offset, ← sizeOf f.type) : Field → Sem (Nat × Nat))).run P w = .ok (fs.map fun f => (f.offset, (sz P f.type).getD 0)) w := by
      rw [← Array.toArray_toList (xs := fs)]
      rw [List.mapM_toArray]
      simp only [Sem.run_map, hpl, Result.andThen_ok, List.map_toArray]
     have hfun : (fun (i : Nat) => (fs.map fun (f : Field) => (f.offset, (sz P f.type).getD 0))[i]?) = (fun (i : Nat) => (fs[i]?).map fun (f : Field) => (f.offset, (sz P f.type).getD 0)) := by
      funext i; simp
     simp only [Instr.build, Sem.run_bind, e1, Result.andThen_ok, run_underlying hu, hpl', Value.cells, hfun, f1, Sem.run_pure]
    ·cases h
   ·rename_i n e hu
    split at h
    ·rename_i k hk
     obtain ⟨cs, hcs, rfl⟩ := Option.map_eq_some_iff.1 h
     obtain ⟨cells', f1, f2⟩ := zb8 hcs hp hzc
     refine ⟨.agg cells', ?_, zb0.2 ⟨cells', rfl, f2⟩⟩
     simp only [Instr.build, Sem.run_bind, e1, Result.andThen_ok, run_underlying hu, run_sizeOf hk, Value.cells, f1, Sem.run_pure]
    ·cases h
   ·cases h
  ·cases h
theorem zyb {k : Nat} : ∀ {xs : List V} {ds : List D} {us : List Value}, allO asD xs = some ds → qJ P S ρ A w k xs us → RepE A w k ds us
 | [], ds, us, h, hr => by simp only [allO, Option.some.injEq] at h; subst h; simpa [RepE, qJ] using hr
 | v :: r, ds, us, h, hr => by
  obtain ⟨y, zs, h1, h2, rfl⟩ := wL h
  simp only [qJ] at hr
  obtain ⟨u, ws, rfl, h3, h4, h5⟩ := hr
  simp only [RepE]
  exact ⟨u, ws, rfl, h3, (zf8 h1 h4).1, zyb h2 h5⟩
theorem zfj {k : Nat} {e : TypeId} (hk : sz P e = some k) : ∀ {parts : List (Nat × V)} {parts' : List (Nat × Value)} {xs : List V} {cells : Array Value}, (parts.all fun p => p.1 < xs.length && zZ P e p.2) = true → z0g P S ρ A w parts parts' → qJ P S ρ A w k xs cells.toList → ∃ cells', Instr.fill (fun i => some (i * k, k)) cells parts' = some cells' ∧ qJ P S ρ A w k (parts.foldl (fun xs p => xs.set p.1 p.2) xs) cells'.toList
  | [], parts', xs, cells, h, hp, hc => by
    simp only [z0g] at hp; subst hp
    exact ⟨cells, rfl, hc⟩
  | (i, v) :: r, parts', xs, cells, h, hp, hc => by
    simp only [z0g] at hp
    obtain ⟨⟨i', u⟩, ws, rfl, he, hv, hr⟩ := hp
    simp only at he hv; subst he
    simp only [List.all_cons, Bool.and_eq_true, decide_eq_true_eq] at h
    obtain ⟨⟨h1, h2⟩, h3⟩ := h
    obtain ⟨hvw, k', hk', hn1, hn2⟩ := wR h2 hv
    rw [hk] at hk'; cases hk'
    have hvc := jB hvw
    have hcl := qS hc
    simp only [Array.length_toList] at hcl
    have hle : i' * k + u.cells.size ≤ cells.size := by
      have : (i' + 1) * k ≤ xs.length * k := Nat.mul_le_mul_right _ h1
      rw [Nat.succ_mul] at this
      omega
    have hnew := z3m u.cells (i' * k) cells hle
    obtain ⟨cells', e1, e2⟩ := zfj hk (cells := u.cells.zipIdx.foldl (fun cs (x : Value × Nat) => cs.setIfInBounds (i' * k + x.2) x.1) cells) (xs := xs.set i' v) (by simpa using h3) hr (by
      rw [hnew, hn1]
      exact z8h hc i' v _ h1 (by simpa using hn1) hvc)
    refine ⟨cells', ?_, by simpa using e2⟩
    simp only [Instr.fill]
    rw [if_neg (by simp [hn1]; omega)]
    exact e1
end
section
variable {P : Program} {S : Store} {ρ : Nat → Nat} {A : Nat → Prop} {w w' : World}
theorem z9m : ∀ {ys : List V} {s : List UInt8} {k : Nat} {us : List Value}, z6m ys = some s → qJ P S ρ A w k ys us → ∃ ns : List Int, us = ns.map (Value.int .u8) ∧ s = ns.map (fun n => UInt8.ofNat n.toNat) ∧ (ys ≠ [] → k = 1)
 | [], s, k, us, h, hr => by
  simp only [z6m, Option.some.injEq] at h; subst h
  simp only [qJ] at hr; subst hr
  exact ⟨[], rfl, rfl, fun h => absurd rfl h⟩
 | y :: r, s, k, us, h, hr => by
  simp only [qJ] at hr
  obtain ⟨u1, u2, rfl, h2, h3, h4⟩ := hr
  unfold z6m at h
  split at h
  ·rename_i heq; cases heq
  ·rename_i n r' heq
   cases heq
   cases hb : z6m r with
   | none => simp [hb] at h
   | some s' =>
    simp only [hb, Option.some.injEq] at h; subst h
    simp only [zP, RepC] at h3
    subst h3
    obtain ⟨ns, rfl, rfl, _⟩ := z9m hb h4
    exact ⟨n :: ns, rfl, rfl, fun _ => h2.symm⟩
  ·cases h
theorem fold_push : ∀ (ns : List Int) (b : ByteArray), ns.foldl (fun r n => r.push (UInt8.ofNat n.toNat)) b = ⟨(b.data.toList ++ ns.map (fun n => UInt8.ofNat n.toNat)).toArray⟩
 | [], b => by cases b; simp
 | n :: r, b => by
  simp only [List.foldl_cons]
  rw [fold_push r]
  cases b
  simp [ByteArray.push]
theorem zbn (hI : Inv P S ρ A w) {src dst : TypeId} {x y : V} {c : Nat} {u : Value} (h : qD P S src dst x = some (y, c)) (hx : RepV P S ρ A w x u) :
  ∃ v w' A', (convert src dst u).run P w = .ok v w' ∧ Inv P S ρ A' w' ∧ Step S ρ A w S ρ A' w' ∧ RepW P S ρ A' w' y v := by
 unfold qD at h
 split at h
 ·rename_i d k k' n hs hd
  simp only [Option.some.injEq, Prod.mk.injEq] at h
  obtain ⟨rfl, rfl⟩ := h
  rw [vI hx]
  exact ⟨_, w, A, by simp [convert, run_underlying hs, run_underlying hd, Conv.intToInt], hI, .refl, z8m⟩
 ·rename_i d s hs hd
  simp only [Option.some.injEq, Prod.mk.injEq] at h
  obtain ⟨rfl, rfl⟩ := h
  rw [z2j hx]
  exact ⟨_, w, A, by simp [convert, run_underlying hs, run_underlying hd], hI, .refl, zix⟩
 ·rename_i d e s hs hd
  split at h
  ·rename_i he
   split at h
   ·simp only [Option.some.injEq, Prod.mk.injEq] at h
    obtain ⟨rfl, rfl⟩ := h
    rw [z2j hx]
    have hsz : (⟨s.toArray⟩ : ByteArray).size = s.length := by simp [ByteArray.size]
    have hrun := Lib.run_convert_string_bytes w src dst e ⟨s.toArray⟩ hs hd he
    have hnew := Lib.bytesWorld_at_new w e ⟨s.toArray⟩
    have hge := grownCap_ge w s.length 0 e
    obtain ⟨g1, g2⟩ := hI.fresh (w' := Lib.bytesWorld w e ⟨s.toArray⟩) (Lib.bytesWorld_size w e _) (fun b hb => Lib.bytesWorld_at_old w e _ b hb) rfl rfl rfl
    refine ⟨_, _, _, hrun, g1, g2, jN.2 ((zD rfl).2 ?_)⟩
    simp only [RepC, List.length_map, hsz]
    refine ⟨_, _, rfl, hge, .inr ⟨_, 1, s.map fun b => .int .u8 b.toNat, rfl, rfl, .inr rfl, ⟨_, _, _, hnew, fun i v hv => ?_⟩, ?_⟩⟩
    ·have hi : i < s.length := by
      rcases Nat.lt_or_ge i s.length with h' | h'
      ·exact h'
      ·simp [h'] at hv
     simp only [Nat.zero_add, Lib.bytesCells]
     rw [Array.getElem?_append_left (by simpa using hi)]
     simpa using hv
    ·have : ∀ (B : Nat → Prop) (w2 : World) (l : List UInt8), RepE B w2 1 (l.map fun b => D.int .u8 b.toNat) (l.map fun b => Value.int .u8 b.toNat) := fun B w2 l => by
      induction l with
      | nil => simp [RepE]
      | cons b r ih => simp only [List.map_cons, RepE]; exact ⟨[.int .u8 b.toNat], _, rfl, rfl, by simp [RepC], ih⟩
     exact this _ _ s
   ·cases h
  ·cases h
 ·rename_i x _ _ _ e hs hd _
  split at h
  ·rename_i he
   split at h
   ·cases h
   ·rename_i hns
    cases hel : kA S x with
    | none => simp [hel] at h
    | some ys =>
     simp only [hel] at h
     obtain ⟨s, hs', heq⟩ := Option.map_eq_some_iff.1 h
     simp only [Prod.mk.injEq] at heq
     obtain ⟨rfl, rfl⟩ := heq
     rcases z9i hI hel hx with ⟨s2, rfl, _⟩ | ⟨a, cap, k, us, rfl, hcap, hE, hc⟩
     ·exact absurd rfl (hns s2)
     ·obtain ⟨ns, rfl, rfl, hk⟩ := z9m hs' hE
      refine ⟨_, w, A, ?_, hI, .refl, zix⟩
      rw [run_convert_bytes_string w src dst e a _ _ hs he hd]
      cases ys with
      | nil =>
       simp only [qJ, List.map_eq_nil_iff] at hE; subst hE
       cases a with
       | none => rfl
       | some a =>
        show (Conv.bytesToString (.slice (some a) 0 cap)).run P w = _
        rw [run_bytesToString w a 0 cap [] (by simp [loadCells, loadCellsFrom])]
        rfl
      | cons y r =>
       have := hk (by simp); subst this
       have hl := qS hE
       simp only [List.length_map, Nat.mul_one] at hl
       rcases hc with hc | ⟨b, off, rfl, hc⟩
       ·cases hc
       ·rw [run_bytesToString w _ _ cap ns (by rw [← hl]; simpa using run_loadCells_list (P := P) w ⟨b, off, none⟩ (ns.map (Value.int .u8)) (fun j v hv => hc.cell hv))]
        rw [fold_push]; rfl
  ·cases h
 ·cases h
end
section
variable {P : Program} {S : Store} {ρ : Nat → Nat} {A : Nat → Prop} {w w' : World}
def z1l (P : Program) (S : Store) (ρ : Nat → Nat) (A : Nat → Prop) (w : World) : List (D × V) → List MapEntry → Prop
 | [], ms => ms = []
 | e :: r, ms => ∃ m ms', ms = m :: ms' ∧ RepX A w e.1 m.key ∧ RepW P S ρ A w e.2 m.val ∧ z1l P S ρ A w r ms'
theorem z5m : ∀ {es : List (D × D)} {ms : List MapEntry}, RepM A w es ms → z1l P S ρ A w (es.map fun e => (e.1, V.d e.2)) ms
  | [], ms, h => by simpa [RepM, z1l] using h
  | (k, x) :: r, ms, h => by
    simp only [RepM, RepP] at h
    obtain ⟨m, ms', rfl, ⟨h1, h2⟩, h3⟩ := h
    simp only [List.map_cons, z1l]
    exact ⟨m, ms', rfl, h1, jN.2 h2, z5m h3⟩
theorem z4a : ∀ {es : List (D × V × Nat)} {ms : List MapEntry}, jD P S ρ A w es ms → z1l P S ρ A w (es.map fun e => (e.1, e.2.1)) ms
 | [], ms, h => by simpa [jD, z1l] using h
 | e :: r, ms, h => by
  simp only [jD] at h
  obtain ⟨m, ms', rfl, h1, h2, _, h3⟩ := h
  simp only [List.map_cons, z1l]
  exact ⟨m, ms', rfl, h1, h2, z4a h3⟩
theorem z6n (hI : Inv P S ρ A w) {x : V} {es : List (D × V)} {u : Value} (h : kE S x = some es) (hx : RepV P S ρ A w x u) :
  (u = .map none ∧ es = []) ∨ ∃ r en clock, u = .map (some r) ∧ w.heap[r]? = some (.map en clock) ∧ z1l P S ρ A w es en.toList := by
 unfold kE at h
 split at h
 ·rename_i ds
  simp only [Option.some.injEq] at h; subst h
  have hx := (zD rfl).1 (jH.1 hx)
  simp only [RepC, List.cons.injEq, and_true] at hx
  obtain ⟨r, rfl, h2⟩ := hx
  rcases h2 with ⟨rfl, rfl⟩ | ⟨b, en, clock, rfl, _, h3, h4⟩
  ·exact .inl ⟨rfl, rfl⟩
  ·exact .inr ⟨b, en, clock, rfl, h3, z5m h4⟩
 ·simp only [Option.some.injEq] at h; subst h
  have hx := (zD rfl).1 (jH.1 hx)
  simp only [RepC, List.cons.injEq, and_true] at hx
  exact .inl ⟨hx, rfl⟩
 ·rename_i id
  right
  have hx := (zG rfl).1 ((zY rfl).1 hx)
  simp only [zP, List.cons.injEq, and_true] at hx
  obtain ⟨r, rfl, hpl⟩ := hx
  unfold MapPl at hpl
  cases ho : S[id]? with
  | none => simp [ho] at hpl
  | some o =>
   have hok := hI.ok id o ho
   simp only [ho] at hpl h
   cases o with
   | mp ms clock =>
    simp only [Option.some.injEq] at h hpl; subst h; subst hpl
    simp only [ObOk] at hok
    obtain ⟨en, h1, h2, _⟩ := hok
    exact ⟨_, en, clock, rfl, h1, z4a h2⟩
   | fm ms =>
    simp only [Option.some.injEq] at h hpl; subst h; subst hpl
    simp only [ObOk] at hok
    obtain ⟨en, clock, _, h1, h2⟩ := hok
    exact ⟨_, en, clock, rfl, h1, z5m h2⟩
   | _ => simp at h
 ·cases h
theorem z5w {t : TypeId} (h : zh6 P t = true) : ∃ td, P.underlying t = some td ∧ zmo td = true ∧ ∀ (e : Bool) (n : Nat) (v : Value) (w : World), (Instr.checkKey e (n + 1) t v).run P w = .ok () w := by
 unfold zh6 at h
 cases hu : P.underlying t with
 | none => simp [hu] at h
 | some td =>
  simp only [hu] at h
  refine ⟨td, rfl, ?_, ?_⟩
  ·cases td <;> first | rfl | simp at h
  ·intro e n v w
   cases td <;> simp only [Bool.false_eq_true] at h <;> simp [Instr.checkKey, run_underlying hu]
theorem vP {kt : TypeId} {k : V} {u : Value} (h : z93 P kt k = true) (hk : RepV P S ρ A w k u) (e : Bool) (n : Nat) : (Instr.checkKey e (n + 2) kt u).run P w = .ok () w := by
 unfold z93 at h
 split at h
 ·rename_i fs xs hu hd
  obtain ⟨us, rfl, hr⟩ := wM.1 (kU hd hk)
  have hl := z4b hr
  simp only [Array.length_toList] at hl
  have loop : ∀ (l : List Field) (w : World), (l.all fun f => zh6 P f.type && decide (f.offset < xs.length)) = true → (forIn l PUnit.unit (fun f (_ : PUnit) => do
    if f.name ≠ "_" then do
     let a ← part f.type us f.offset
     Instr.checkKey e (n + 1) f.type a
    pure (ForInStep.yield PUnit.unit) : Field → PUnit → Sem (ForInStep PUnit))).run P w = .ok PUnit.unit w := by
   intro l
   induction l with
   | nil => intro w _; simp
   | cons f r ih =>
    intro w hl2
    simp only [List.all_cons, Bool.and_eq_true, decide_eq_true_eq] at hl2
    obtain ⟨td, htd, hf, hck⟩ := z5w hl2.1.1
    have hlt : f.offset < us.size := by omega
    have hpart := wX (P := P) (w := w) htd hf (us := us) (off := f.offset) (v := us[f.offset]) (by simp [hlt])
    by_cases hn : f.name = "_"
    ·simp only [List.forIn_cons, Sem.run_bind, hn, ne_eq, not_true_eq_false, if_false, Sem.run_pure, Result.andThen_ok]
     exact ih w (by simpa using hl2.2)
    ·simp only [List.forIn_cons, Sem.run_bind, ne_eq, hn, not_false_eq_true, if_true, hpart, Result.andThen_ok, hck, Sem.run_pure]
     exact ih w (by simpa using hl2.2)
  have := loop fs.toList w h
  rw [Instr.checkKey]
  simp only [Sem.run_bind, run_underlying hu, Result.andThen_ok]
  rw [← Array.forIn_toList]
  simp at this ⊢
  rw [this]; rfl
 ·rename_i k' hk' hne
  simp only [Bool.and_eq_true] at h
  obtain ⟨_, _, _, hck⟩ := z5w h.1
  exact hck e (n + 1) u w
 ·cases h
theorem zh5 {kt : TypeId} {td : TypeDesc} {k x : D} {b : Bool} {u v : Value} (hu : P.underlying kt = some td) (h : vC P kt k x = some b) (hk : RepX A w k u) (hx : RepX A w x v) : Instr.sameNow td u v = some b := by
 unfold vC at h
 rw [hu] at h
 split at h
 ·rename_i a c heq
  cases heq
  simp only [Option.some.injEq] at h; subst h
  have h1 := (zD rfl).1 hk
  have h2 := (zD rfl).1 hx
  simp only [RepC, List.cons.injEq, and_true] at h1 h2
  subst h1; subst h2; rfl
 ·rename_i k0 k1 a k2 c heq
  cases heq
  split at h
  ·rename_i hkk
   subst hkk
   simp only [Option.some.injEq] at h; subst h
   have h1 := (zD rfl).1 hk
   have h2 := (zD rfl).1 hx
   simp only [RepC, List.cons.injEq, and_true] at h1 h2
   subst h1; subst h2
   simp [Instr.sameNow]
  ·cases h
 ·rename_i a c heq
  cases heq
  simp only [Option.some.injEq] at h; subst h
  have h1 := (zD rfl).1 hk
  have h2 := (zD rfl).1 hx
  simp only [RepC, List.cons.injEq, and_true] at h1 h2
  subst h1; subst h2
  have := beq_toListBytes (⟨a.toArray⟩ : ByteArray) ⟨c.toArray⟩
  rw [ByteArray.toList_eq, ByteArray.toList_eq] at this
  simp only [Instr.sameNow, this, Option.some.injEq]
 ·cases h
def Found (P : Program) (S : Store) (ρ : Nat → Nat) (A : Nat → Prop) (w : World) (es : List (D × V)) (i : Nat) : Option (Nat × V) → Option (Nat × Value) → Prop
 | none, r => r = none
 | some (j, x), r => ∃ v, r = some (j, v) ∧ RepW P S ρ A w x v ∧ i ≤ j ∧ ∃ kd, es[j - i]? = some (kd, x)
theorem Found.step {e : D × V} {es : List (D × V)} {i : Nat} {r : Option (Nat × V)} {r' : Option (Nat × Value)} (h : Found P S ρ A w es (i + 1) r r') : Found P S ρ A w (e :: es) i r r' := by
 cases r with
 | none => exact h
 | some q =>
  obtain ⟨j, x⟩ := q
  obtain ⟨v, h1, h2, h3, kd, h4⟩ := h
  refine ⟨v, h1, h2, by omega, kd, ?_⟩
  rw [show j - i = (j - (i + 1)) + 1 by omega]
  simpa using h4
theorem z8s {kt : TypeId} {td : TypeDesc} {k : V} {kd : D} {u : Value} (hu : P.underlying kt = some td) (hkd : asD k = some kd) (hg : kd.isAgg = false) (hp : ptrT P kt = false ∧ mapT P kt = false ∧ fnT P kt = false) (hk : RepV P S ρ A w k u) :
  ∀ {es : List (D × V)} {en : List MapEntry} {i : Nat} {r : Option (Nat × V)}, findD P kt k es i = some r → z1l P S ρ A w es en → ∃ r', Instr.findNow td u en i = some r' ∧ Found P S ρ A w es i r r'
 | [], en, i, r, h, he => by
  simp only [findD, Option.some.injEq] at h; subst h
  simp only [z1l] at he; subst he
  exact ⟨none, rfl, rfl⟩
 | e :: es, en, i, r, h, he => by
  simp only [z1l] at he
  obtain ⟨m, ms, rfl, h1, h2, h3⟩ := he
  simp only [findD] at h
  cases hq : eqV P kt k (.d e.1) with
  | none => simp [hq] at h
  | some b =>
   have hq' := hq
   unfold eqV at hq
   rw [if_neg (by simp [hp.1]), if_neg (by simp [hp.2.1]), if_neg (by simp [hp.2.2])] at hq
   rw [hkd, show asD (.d e.1) = some e.1 from rfl] at hq
   have hleaf : vC P kt kd e.1 = some b := by
    cases kd <;> first | simpa using hq | simp [D.isAgg] at hg
   have hsn := zh5 hu hleaf (kU hkd hk) h1
   cases b with
   | true =>
    simp only [hq', Option.some.injEq] at h; subst h
    exact ⟨some (i, m.val), by simp [Instr.findNow, hsn], m.val, rfl, h2, Nat.le_refl _, e.1, by simp⟩
   | false =>
    simp only [hq'] at h
    obtain ⟨r', e1, e2⟩ := z8s hu hkd hg hp hk h h3
    exact ⟨r', by simp [Instr.findNow, hsn, e1], e2.step⟩
theorem z3k {kt : TypeId} {k : V} {u : Value} (hk : RepV P S ρ A w k u) : ∀ {es : List (D × V)} {en : List MapEntry} {i : Nat} {r : Option (Nat × V)}, findD P kt k es i = some r → z1l P S ρ A w es en → ∃ r', (Instr.findAsking kt u en i).run P w = .ok r' w ∧ Found P S ρ A w es i r r'
 | [], en, i, r, h, he => by
  simp only [findD, Option.some.injEq] at h; subst h
  simp only [z1l] at he; subst he
  exact ⟨none, rfl, rfl⟩
 | e :: es, en, i, r, h, he => by
  simp only [z1l] at he
  obtain ⟨m, ms, rfl, h1, h2, h3⟩ := he
  simp only [findD] at h
  cases hq : eqV P kt k (.d e.1) with
  | none => simp [hq] at h
  | some b =>
   obtain ⟨g1, _⟩ := zdy hq hk (jH.2 h1)
   cases b with
   | true =>
    simp only [hq, Option.some.injEq] at h; subst h
    exact ⟨some (i, m.val), by simp [Instr.findAsking, g1], m.val, rfl, h2, Nat.le_refl _, e.1, by simp⟩
   | false =>
    simp only [hq] at h
    obtain ⟨r', e1, e2⟩ := z3k hk h h3
    exact ⟨r', by simp [Instr.findAsking, g1, e1], e2.step⟩
theorem z3o {kt : TypeId} {k : V} {u : Value} (hok : z93 P kt k = true) (hk : RepV P S ρ A w k u) {es : List (D × V)} {en : List MapEntry} {r : Option (Nat × V)} (h : findD P kt k es 0 = some r) (he : z1l P S ρ A w es en) :
  ∃ r', (Instr.findKey kt u en).run P w = .ok r' w ∧ Found P S ρ A w es 0 r r' := by
 unfold z93 at hok
 split at hok
 ·rename_i fs xs hu hd
  obtain ⟨us, rfl, hr⟩ := wM.1 (kU hd hk)
  cases en with
  | nil =>
   cases es with
   | nil =>
    simp only [findD, Option.some.injEq] at h; subst h
    exact ⟨none, by simp [Instr.findKey, run_underlying hu, Instr.findNow], rfl⟩
   | cons e es => simp [z1l] at he
  | cons m ms =>
   obtain ⟨r', e1, e2⟩ := z3k hk h he
   exact ⟨r', by simp [Instr.findKey, run_underlying hu, Instr.findNow, Instr.sameNow, e1], e2⟩
 ·rename_i kd hkd hne
  simp only [Bool.and_eq_true, Bool.not_eq_eq_eq_not, Bool.not_true] at hok
  obtain ⟨td, htd, hf, _⟩ := z5w hok.1
  have hp : ptrT P kt = false ∧ mapT P kt = false ∧ fnT P kt = false := by
   have := hok.1
   unfold zh6 at this
   unfold ptrT mapT fnT
   cases hu : P.underlying kt with
   | none => exact ⟨rfl, rfl, rfl⟩
   | some td => simp only [hu] at this; cases td <;> first | exact ⟨rfl, rfl, rfl⟩ | simp at this
  obtain ⟨r', e1, e2⟩ := z8s htd hkd hok.2 hp hk h he
  exact ⟨r', by simp [Instr.findKey, run_underlying htd, e1], e2⟩
 ·cases hok
theorem zdz (hI : Inv P S ρ A w) {t : TypeId} {x k y : V} {ok : Bool} {ux uk : Value} (h : wA P S t x k ok = some y) (hx : RepV P S ρ A w x ux) (hk : RepV P S ρ A w k uk) :
  ∃ v, (Instr.lookup t ux uk ok).run P w = .ok v w ∧ RepV P S ρ A w y v := by
 unfold wA at h
 split at h
 ·rename_i kt et hu
  split at h
  ·rename_i hok
   cases hes : kE S x with
   | none => simp [hes] at h
   | some es =>
    cases hz : zeroV P et with
    | none => simp [hes, hz] at h
    | some z =>
     simp only [hes, hz] at h
     obtain ⟨zv, hz1, hz2⟩ := z2i (S := S) (ρ := ρ) (A := A) (w := w) hz
     cases hf : findD P kt k es 0 with
     | none => simp [hf] at h
     | some r =>
      simp only [hf] at h
      have hfin : ∃ r' : Option (Nat × Value), Found P S ρ A w es 0 r r' ∧ ∀ v b, (r' = none → v = zv ∧ b = false) → (∀ i q, r' = some (i, q) → v = q ∧ b = true) → (Instr.lookup t ux uk ok).run P w = .ok (if ok then .tuple #[v, .bool b] else v) w := by
       rcases z6n hI hes hx with ⟨rfl, rfl⟩ | ⟨rr, en, clock, rfl, h1, h2⟩
       ·obtain ⟨r', f1, f2⟩ := z3o hok hk hf (en := []) rfl
        have hck := vP (P := P) hok hk true 9998
        refine ⟨r', f2, fun v b hv1 hv2 => ?_⟩
        have f1' : (Instr.findKey kt uk #[].toList).run P w = .ok r' w := f1
        simp only [Instr.lookup, Sem.run_bind, run_underlying hu, Result.andThen_ok, Sem.run_pure, Array.isEmpty_empty, f1', show (10000 : Nat) = 9998 + 2 from rfl, hck]
        cases r' with
        | none => obtain ⟨rfl, rfl⟩ := hv1 rfl; simp [hz1]
        | some q => obtain ⟨i, q⟩ := q; obtain ⟨rfl, rfl⟩ := hv2 i q rfl; simp
       ·obtain ⟨r', f1, f2⟩ := z3o hok hk hf h2
        have hck := vP (P := P) hok hk en.isEmpty 9998
        have hg : (getObj rr).run P w = .ok (.map en clock) w := by simp [getObj, Sem.run, h1]
        refine ⟨r', f2, fun v b hv1 hv2 => ?_⟩
        simp only [Instr.lookup, Sem.run_bind, run_underlying hu, Result.andThen_ok, Sem.run_pure, hg, f1, show (10000 : Nat) = 9998 + 2 from rfl, hck]
        cases r' with
        | none => obtain ⟨rfl, rfl⟩ := hv1 rfl; simp [hz1]
        | some q => obtain ⟨i, q⟩ := q; obtain ⟨rfl, rfl⟩ := hv2 i q rfl; simp
      obtain ⟨r', f2, hrun⟩ := hfin
      have mkt : ∀ (v : Value) (x : V) (b : Bool), RepW P S ρ A w x v → RepV P S ρ A w (if ok then .tup [x, .d (.bool b)] else x) (if ok then .tuple #[v, .bool b] else v) := by
       intro v x b hxv
       cases ok with
       | false => exact zT hxv
       | true =>
        simp only [if_true, RepV]
        exact ⟨_, rfl, by simp only [qQ]; exact ⟨v, [.bool b], rfl, hxv, .bool b, [], rfl, zbg, rfl⟩⟩
      cases r with
      | none =>
       simp only [Option.some.injEq] at h; subst h
       have : r' = none := f2
       subst this
       exact ⟨_, hrun zv false (fun _ => ⟨rfl, rfl⟩) (fun _ _ h => by cases h), mkt zv z false hz2⟩
      | some q =>
       obtain ⟨j, v0⟩ := q
       simp only [Option.some.injEq] at h; subst h
       obtain ⟨v, rfl, g1, _⟩ := f2
       exact ⟨_, hrun v true (fun h => by cases h) (fun i q h => by cases h; exact ⟨rfl, rfl⟩), mkt v v0 true g1⟩
  ·cases h
 ·cases h
end
section
variable {P : Program} {S : Store} {ρ : Nat → Nat} {A : Nat → Prop} {w w' : World}
def setO (w : World) (b : Nat) (o : Obj) : World := { w with heap := w.heap.setIfInBounds b o }
theorem z8l (w : World) (b : Nat) (o : Obj) : (setO w b o).heap.size = w.heap.size := by simp [setO]
theorem z5j (w : World) {b c : Nat} (o : Obj) (h : c ≠ b) : (setO w b o).heap[c]? = w.heap[c]? := by
 simp [setO, Array.getElem?_setIfInBounds, Ne.symm h]
theorem z8t {w : World} {b : Nat} {x : Obj} (o : Obj) (h : w.heap[b]? = some x) : (setO w b o).heap[b]? = some o := by
 have := jV h
 simp [setO, this]
theorem vJ {b : Nat} {en : Array MapEntry} {c : Nat} (h : w.heap[b]? = some (.map en c)) (o : Obj) : (setObj b o).run P w = .ok () (setO w b o) := by
 simp [setObj, Sem.run, h, setO]
theorem jU {b : Nat} {en : Array MapEntry} {c : Nat} (h : w.heap[b]? = some (.map en c)) : (getObj b).run P w = .ok (.map en c) w := by
 simp [getObj, Sem.run, h]
theorem zf2 {b : Nat} {s : ByteArray} {c : Nat} (h : w.heap[b]? = some (.stringIter s c)) (o : Obj) : (setObj b o).run P w = .ok () (setO w b o) := by
 simp [setObj, Sem.run, h, setO]
theorem z7r {b : Nat} {s : ByteArray} {c : Nat} (h : w.heap[b]? = some (.stringIter s c)) : (getObj b).run P w = .ok (.stringIter s c) w := by
 simp [getObj, Sem.run, h]
theorem z46 (hI : Inv P S ρ A w) {id : Nat} {es es' : List (D × V × Nat)} {clock clock' : Nat} {en en' : Array MapEntry} (ho : S[id]? = some (.mp es clock)) (hh : w.heap[ρ id]? = some (.map en clock))
  (hr : jD P S ρ A w es' en'.toList) (h1 : ∀ e ∈ es', e.2.2 < clock') (h2 : (es'.map fun e => e.2.2).Nodup) :
  Inv P (S.set id (.mp es' clock')) ρ A (setO w (ρ id) (.map en' clock')) ∧ Step S ρ A w (S.set id (.mp es' clock')) ρ A (setO w (ρ id) (.map en' clock')) :=
 hI.turn ho rfl trivial (z8l ..) (fun b hb => z5j _ _ hb) (.inr fun c e f hc => by rw [hh] at hc; cases hc) rfl rfl rfl (.inl rfl) (fun hs hA => by
  simp only [ObOk]
  exact ⟨en', z8t _ hh, z5z (fun _ h => h) hA hs _ _ hr, h1, h2⟩)
theorem z8j : ∀ {es : List (D × V × Nat)} {ms : List MapEntry} {i : Nat} {e : D × V × Nat}, jD P S ρ A w es ms → es[i]? = some e → ∃ m, ms[i]? = some m ∧ RepX A w e.1 m.key ∧ RepW P S ρ A w e.2.1 m.val ∧ e.2.2 = m.born
 | [], ms, i, e, h, he => by simp at he
 | e0 :: r, ms, i, e, h, he => by
  simp only [jD] at h
  obtain ⟨m, ms', rfl, h1, h2, h3, h4⟩ := h
  cases i with
  | zero => simp at he; subst he; exact ⟨m, by simp, h1, h2, h3⟩
  | succ i => simp at he; simpa using z8j h4 he
theorem z4k : ∀ {es : List (D × V × Nat)} {ms : List MapEntry} {i : Nat} {e : D × V × Nat} {m : MapEntry}, jD P S ρ A w es ms → RepX A w e.1 m.key → RepW P S ρ A w e.2.1 m.val → e.2.2 = m.born → jD P S ρ A w (es.set i e) (ms.set i m)
 | [], ms, i, e, m, h, _, _, _ => by simp only [jD] at h; subst h; simp [jD]
 | e0 :: r, ms, i, e, m, h, h1, h2, h3 => by
  simp only [jD] at h
  obtain ⟨m0, ms', rfl, g1, g2, g3, g4⟩ := h
  cases i with
  | zero => simp only [List.set_cons_zero, jD]; exact ⟨m, ms', rfl, h1, h2, h3, g4⟩
  | succ i => simp only [List.set_cons_succ, jD]; exact ⟨m0, _, rfl, g1, g2, g3, z4k g4 h1 h2 h3⟩
theorem z5v : ∀ {es : List (D × V × Nat)} {ms : List MapEntry} {e : D × V × Nat} {m : MapEntry}, jD P S ρ A w es ms → RepX A w e.1 m.key → RepW P S ρ A w e.2.1 m.val → e.2.2 = m.born → jD P S ρ A w (es ++ [e]) (ms ++ [m])
 | [], ms, e, m, h, h1, h2, h3 => by simp only [jD] at h; subst h; simp only [List.nil_append, jD]; exact ⟨m, [], rfl, h1, h2, h3, rfl⟩
 | e0 :: r, ms, e, m, h, h1, h2, h3 => by
  simp only [jD] at h
  obtain ⟨m0, ms', rfl, g1, g2, g3, g4⟩ := h
  simp only [List.cons_append, jD]
  exact ⟨m0, _, rfl, g1, g2, g3, z5v g4 h1 h2 h3⟩
theorem z8v : ∀ {es : List (D × V × Nat)} {ms : List MapEntry} {i : Nat}, jD P S ρ A w es ms → jD P S ρ A w (es.eraseIdx i) (ms.eraseIdx i)
 | [], ms, i, h => by simp only [jD] at h; subst h; simp [jD]
 | e0 :: r, ms, i, h => by
  simp only [jD] at h
  obtain ⟨m0, ms', rfl, g1, g2, g3, g4⟩ := h
  cases i with
  | zero => simpa using g4
  | succ i => simp only [List.eraseIdx_cons_succ, jD]; exact ⟨m0, _, rfl, g1, g2, g3, z8v g4⟩
theorem z9e (a : ByteArray) : (a == a) = true := by
 obtain ⟨a⟩ := a
 rw [beq_toListBytes]; simp
theorem z5d {x y : D} {u v : Value} {n : Nat} (h : jI x y = true) (hx : RepC A w x [u]) (hy : RepC A w y [v]) : Instr.sameBits n u v = true := by
 cases x <;> cases y <;> simp only [jI, Bool.false_eq_true] at h <;>
  ·simp only [RepC, List.cons.injEq, and_true] at hx hy
   subst hx; subst hy
   simp only [beq_iff_eq, Bool.and_eq_true] at h
   first
    | (subst h; cases n <;> simp [Instr.sameBits, z9e])
    | (obtain ⟨rfl, rfl⟩ := h; cases n <;> simp [Instr.sameBits])
theorem z6c {n : Nat} : ∀ {xs ys : List D} {us vs : List Value}, wO xs ys = true → RepL A w xs us → RepL A w ys vs → us.length = vs.length ∧ (us.zip vs).all (fun (x, y) => Instr.sameBits n x y) = true
 | [], [], us, vs, _, h1, h2 => by simp only [RepL] at h1 h2; subst h1; subst h2; simp
 | [], _ :: _, _, _, h, _, _ => by simp [wO] at h
 | _ :: _, [], _, _, h, _, _ => by simp [wO] at h
 | x :: xs, y :: ys, us, vs, h, h1, h2 => by
  simp only [wO, Bool.and_eq_true] at h
  simp only [RepL] at h1 h2
  obtain ⟨u, us', rfl, _, h3, h4⟩ := h1
  obtain ⟨v, vs', rfl, _, h5, h6⟩ := h2
  obtain ⟨g1, g2⟩ := z6c (n := n) h.2 h4 h6
  refine ⟨by simp [g1], ?_⟩
  simp only [List.zip_cons_cons, List.all_cons, Bool.and_eq_true]
  exact ⟨z5d h.1 h3 h5, g2⟩
theorem zcp {x y : D} {u v : Value} (h : z95 x y = true) (hx : RepX A w x u) (hy : RepX A w y v) : (Instr.keyThatStays u v).run P w = .ok v w := by
 have : Instr.sameBits 10000 u v = true := by
  unfold z95 at h
  split at h
  ·obtain ⟨us, rfl, h1⟩ := wM.1 hx
   obtain ⟨vs, rfl, h2⟩ := wM.1 hy
   obtain ⟨g1, g2⟩ := z6c (n := 9999) h h1 h2
   show Instr.sameBits (9999 + 1) _ _ = true
   simp only [Instr.sameBits, Bool.and_eq_true, beq_iff_eq]
   exact ⟨by simpa using g1, g2⟩
  ·have gx : x.isAgg = false := by cases x <;> first | rfl | simp [jI] at h
   have gy : y.isAgg = false := by cases y <;> first | rfl | (cases x <;> simp [jI] at h)
   exact z5d h ((zD gx).1 hx) ((zD gy).1 hy)
 simp [Instr.keyThatStays, this]
theorem zdh (hI : Inv P S ρ A w) {id : Nat} {es : List (D × V × Nat)} {clock : Nat} {u : Value} (ho : S[id]? = some (.mp es clock)) (hx : RepV P S ρ A w (.mr id) u) :
  ∃ en, u = .map (some (ρ id)) ∧ w.heap[ρ id]? = some (.map en clock) ∧ jD P S ρ A w es en.toList ∧ (∀ e ∈ es, e.2.2 < clock) ∧ (es.map fun e => e.2.2).Nodup := by
 have hok := hI.ok id _ ho
 have hx := (zG rfl).1 ((zY rfl).1 hx)
 simp only [zP, List.cons.injEq, and_true] at hx
 obtain ⟨r, rfl, hpl⟩ := hx
 simp only [MapPl, ho] at hpl
 subst hpl
 simp only [ObOk] at hok
 obtain ⟨en, h1, h2, h3, h4⟩ := hok
 exact ⟨en, rfl, h1, h2, h3, h4⟩
theorem zc2 {α β : Type} (f : α → β) {t : TypeId} {k : V} : ∀ {es : List (D × α)} {i : Nat}, findD P t k (es.map fun e => (e.1, f e.2)) i = (findD P t k es i).map fun r => r.map fun q => (q.1, f q.2)
 | [], i => rfl
 | e :: r, i => by
  simp only [List.map_cons, findD]
  cases eqV P t k (.d e.1) with
  | none => rfl
  | some b => cases b with
   | true => rfl
   | false => exact zc2 f
theorem z8w {es : List (D × V × Nat)} {i : Nat} {e e' : D × V × Nat} (he : es[i]? = some e) (hb : e'.2.2 = e.2.2) : (es.set i e').map (fun e => e.2.2) = es.map fun e => e.2.2 := by
 rw [List.map_set, hb]
 refine List.ext_getElem? fun j => ?_
 rw [List.getElem?_set]
 by_cases hj : i = j
 ·subst hj
  simp only [if_true, List.length_map, List.getElem?_map, he, Option.map_some]
  have : i < es.length := by
   rcases Nat.lt_or_ge i es.length with h | h
   ·exact h
   ·simp [List.getElem?_eq_none h] at he
  simp [this]
 ·simp [hj]
theorem zb6 {es : List (D × V × Nat)} {i : Nat} {e e' : D × V × Nat} {clock : Nat} (he : es[i]? = some e) (hb : e'.2.2 = e.2.2) (h : ∀ e ∈ es, e.2.2 < clock) : ∀ e ∈ es.set i e', e.2.2 < clock := by
 intro x hx
 rcases List.mem_or_eq_of_mem_set hx with hx | rfl
 ·exact h x hx
 ·rw [hb]; exact h e (List.mem_of_getElem? he)
theorem zca {es : List (D × V × Nat)} {k : D} {v : V} {clock : Nat} (h : ∀ e ∈ es, e.2.2 < clock) (h2 : (es.map fun e => e.2.2).Nodup) :
  (∀ e ∈ es ++ [(k, v, clock)], e.2.2 < clock + 1) ∧ ((es ++ [(k, v, clock)]).map fun e => e.2.2).Nodup := by
 refine ⟨fun e he => ?_, ?_⟩
 ·rcases List.mem_append.1 he with he | he
  ·have := h e he; omega
  ·simp at he; subst he; simp
 ·rw [List.map_append, List.nodup_append]
  refine ⟨h2, by simp, fun a ha b hb => ?_⟩
  obtain ⟨e, he, rfl⟩ := List.mem_map.1 ha
  simp at hb; subst hb
  have := h e he; omega
theorem z8g {en : Array MapEntry} {i : Nat} {m : MapEntry} (f : MapEntry → MapEntry) (h : en.toList[i]? = some m) : (en.modify i f).toList = en.toList.set i (f m) := by
 have hi : i < en.toList.length := by
  rcases Nat.lt_or_ge i en.toList.length with h' | h'
  ·exact h'
  ·simp [List.getElem?_eq_none h'] at h
 rw [Array.toList_modify]
 refine List.ext_getElem? fun j => ?_
 rw [List.getElem?_modify, List.getElem?_set]
 by_cases hj : i = j
 ·subst hj; simp only [if_true, h, Option.map_some]; rw [if_pos hi]; rfl
 ·simp [hj]
theorem z2f {kt : TypeId} {k : V} {u : Value} (hok : z93 P kt k = true) (hk : RepV P S ρ A w k u) {es : List (D × V × Nat)} {en : List MapEntry} {r : Option (Nat × V × Nat)} (h : findD P kt k es 0 = some r) (he : jD P S ρ A w es en) :
  ∃ r', (Instr.findKey kt u en).run P w = .ok r' w ∧ (match r with | none => r' = none | some q => ∃ e m v, es[q.1]? = some e ∧ e.2 = q.2 ∧ en[q.1]? = some m ∧ r' = some (q.1, v) ∧ RepW P S ρ A w q.2.1 v ∧ RepX A w e.1 m.key ∧ RepW P S ρ A w e.2.1 m.val ∧ e.2.2 = m.born) := by
 have h' := zc2 (P := P) (fun (q : V × Nat) => q.1) (t := kt) (k := k) (es := es) (i := 0)
 rw [h] at h'
 obtain ⟨r', h1, h2⟩ := z3o hok hk h' (z4a he)
 refine ⟨r', h1, ?_⟩
 cases r with
 | none => exact h2
 | some q =>
  obtain ⟨j, x⟩ := q
  obtain ⟨v, rfl, g1, _, kd, g2⟩ := h2
  have hget : ∀ {l : List (D × V × Nat)} {i : Nat} {q : Nat × V × Nat}, findD P kt k l i = some (some q) → ∃ e, i ≤ q.1 ∧ l[q.1 - i]? = some e ∧ e.2 = q.2 := by
   intro l
   induction l with
   | nil => intro i q hq; simp [findD] at hq
   | cons e l ih =>
    intro i q hq
    simp only [findD] at hq
    cases hb : eqV P kt k (.d e.1) with
    | none => simp [hb] at hq
    | some b =>
     cases b with
     | true => simp only [hb, Option.some.injEq] at hq; subst hq; exact ⟨e, Nat.le_refl _, by simp, rfl⟩
     | false =>
      simp only [hb] at hq
      obtain ⟨e', h1, h2, h3⟩ := ih hq
      exact ⟨e', by omega, by rw [show q.1 - i = (q.1 - (i + 1)) + 1 by omega]; simpa using h2, h3⟩
  obtain ⟨e, _, he1, he2⟩ := hget h
  simp only [Nat.sub_zero] at he1
  obtain ⟨m, hm1, hm2, hm3, hm4⟩ := z8j he he1
  exact ⟨e, m, v, he1, he2, hm1, rfl, g1, hm2, hm3, hm4⟩
theorem z9a (hI : Inv P S ρ A w) {t : TypeId} {x k v : V} {S' : Store} {ux uk uv : Value} (h : jO P S t x k v = some S') (hx : RepV P S ρ A w x ux) (hk : RepV P S ρ A w k uk) (hv : RepV P S ρ A w v uv) :
  ∃ w', (Instr.mapUpdate t ux uk uv).run P w = .ok () w' ∧ Inv P S' ρ A w' ∧ Step S ρ A w S' ρ A w' := by
 unfold jO at h
 split at h
 ·rename_i kt et hu
  split at h
  ·rename_i hok
   simp only [Bool.and_eq_true] at hok
   have hvw := (zY hok.2).1 hv
   split at h
   ·rename_i id kd hkd
    have hkx := kU hkd hk
    cases ho : S[id]? with
    | none => simp [ho] at h
    | some o =>
     cases o with
     | mp es clock =>
      obtain ⟨en, rfl, hh, hr, hb, hn⟩ := zdh hI ho hx
      simp only [ho] at h
      have hck := vP (P := P) hok.1 hk false 9998
      cases hf : findD P kt k es 0 with
      | none => simp [hf] at h
      | some r =>
       obtain ⟨r', h1, h2⟩ := z2f hok.1 hk hf hr
       simp only [hf] at h
       cases r with
       | none =>
        simp only [Option.some.injEq] at h; subst h
        simp only at h2; subst h2
        obtain ⟨b1, b2⟩ := zca (k := kd) (v := v) hb hn
        refine ⟨_, ?_, z46 hI ho hh (en' := en.push { key := uk, val := uv, born := clock }) (by simpa using z5v (e := (kd, v, clock)) (m := { key := uk, val := uv, born := clock }) hr hkx hvw rfl) b1 b2⟩
        simp [Instr.mapUpdate, run_underlying hu, jU hh, show (10000 : Nat) = 9998 + 2 from rfl, hck, h1, vJ hh]
       | some q =>
        obtain ⟨i, u⟩ := q
        obtain ⟨e, m, v0, g1, g2, g3, rfl, g4, g5, g6, g7⟩ := h2
        simp only [g1] at h
        split at h
        ·rename_i hsame
         simp only [Option.some.injEq] at h; subst h
         have hst := zcp (P := P) hsame g5 hkx
         have hget : (en[i]?).map (·.key) = some m.key := by
          have : en[i]? = some m := by simpa using g3
          simp [this]
         simp only at g2
         have hb2 : ((kd, v, u.2) : D × V × Nat).2.2 = e.2.2 := by rw [g2]
         refine ⟨_, ?_, z46 hI ho hh (en' := en.modify i fun e => { e with key := uk, val := uv }) ?_ (zb6 g1 hb2 hb) (by rw [z8w g1 hb2]; exact hn)⟩
         ·simp [Instr.mapUpdate, run_underlying hu, jU hh, show (10000 : Nat) = 9998 + 2 from rfl, hck, h1, vJ hh, hget, hst]
         ·rw [z8g _ g3]
          exact z4k (e := (kd, v, u.2)) hr hkx hvw (by show u.2 = m.born; rw [← g7, g2])
        ·cases h
     | _ => simp [ho] at h
   ·cases h
  ·cases h
 ·cases h
theorem zbh (hI : Inv P S ρ A w) {t : TypeId} {x k y : V} {S' : Store} {ux uk : Value} (h : wZ P S t x k = some (y, S')) (hx : RepV P S ρ A w x ux) (hk : RepV P S ρ A w k uk) :
  ∃ v w', (Instr.mapEntry t ux uk).run P w = .ok v w' ∧ Inv P S' ρ A w' ∧ Step S ρ A w S' ρ A w' ∧ RepV P S' ρ A w' y v := by
 unfold wZ at h
 split at h
 ·rename_i kt et hu
  split at h
  ·rename_i hok
   split at h
   ·rename_i id kd z hkd hz
    have hkx := kU hkd hk
    cases ho : S[id]? with
    | none => simp [ho] at h
    | some o =>
     cases o with
     | mp es clock =>
      obtain ⟨en, rfl, hh, hr, hb, hn⟩ := zdh hI ho hx
      simp only [ho] at h
      have hck := vP (P := P) hok hk false 9998
      have tupRep : ∀ {S' : Store} {w' : World} {a : V} {n : Nat} {u : Value}, RepW P S' ρ A w' a u → RepV P S' ρ A w' (.tup [a, .d (.int .i64 n)]) (.tuple #[u, goInt n]) := fun h0 => by
       simp only [RepV]
       refine ⟨_, rfl, ?_⟩
       simp only [qQ]
       exact ⟨_, [_], rfl, h0, _, [], rfl, jN.2 ((zD rfl).2 (by simp [RepC, goInt])), rfl⟩
      cases hf : findD P kt k es 0 with
      | none => simp [hf] at h
      | some r =>
       obtain ⟨r', h1, h2⟩ := z2f hok hk hf hr
       simp only [hf] at h
       cases r with
       | none =>
        simp only [Option.some.injEq, Prod.mk.injEq] at h
        obtain ⟨rfl, rfl⟩ := h
        simp only at h2; subst h2
        obtain ⟨zv, hz1, hz2⟩ := z2i (S := S) (ρ := ρ) (A := A) (w := w) hz
        obtain ⟨b1, b2⟩ := zca (k := kd) (v := z) hb hn
        obtain ⟨t1, t2⟩ := z46 hI ho hh (en' := en.push { key := uk, val := zv, born := clock }) (by simpa using z5v (e := (kd, z, clock)) (m := { key := uk, val := zv, born := clock }) hr hkx hz2 rfl) b1 b2
        refine ⟨_, _, ?_, t1, t2, tupRep (z0b t2.amono t2.keepA t2.sle hz2)⟩
        simp [Instr.mapEntry, run_underlying hu, jU hh, show (10000 : Nat) = 9998 + 2 from rfl, hck, h1, vJ hh, hz1]
       | some q =>
        obtain ⟨i, u⟩ := q
        obtain ⟨e, m, v0, g1, g2, g3, rfl, g4, g5, g6, g7⟩ := h2
        simp only [g1] at h
        split at h
        ·rename_i hsame
         simp only [Option.some.injEq, Prod.mk.injEq] at h
         obtain ⟨rfl, rfl⟩ := h
         have hst := zcp (P := P) hsame g5 hkx
         have hge : en[i]? = some m := by simpa using g3
         simp only at g2 g4
         have hb2 : ((kd, u) : D × V × Nat).2.2 = e.2.2 := by rw [g2]
         obtain ⟨t1, t2⟩ := z46 hI ho hh (en' := en.modify i fun e => { e with key := uk }) (by
          rw [z8g _ g3]
          exact z4k (e := (kd, u)) hr hkx (by rw [← g2]; exact g6) (by show u.2 = m.born; rw [← g7, g2])) (zb6 g1 hb2 hb) (by rw [z8w g1 hb2]; exact hn)
         refine ⟨_, _, ?_, t1, t2, tupRep (n := u.2) (z0b t2.amono t2.keepA t2.sle g4)⟩
         have : u.2 = m.born := by rw [← g7, g2]
         simp [Instr.mapEntry, run_underlying hu, jU hh, show (10000 : Nat) = 9998 + 2 from rfl, hck, h1, vJ hh, hge, hst, this]
        ·cases h
     | _ => simp [ho] at h
   ·cases h
  ·cases h
 ·cases h
theorem z8k {n : Int} : ∀ {es : List (D × V × Nat)} {ms : List MapEntry} {i j : Nat}, z4i n es i = some j → jD P S ρ A w es ms → i ≤ j ∧ ms.findIdx? (fun e => (e.born : Int) == n) = some (j - i)
 | [], ms, i, j, h, hr => by simp [z4i] at h
 | e :: r, ms, i, j, h, hr => by
  simp only [jD] at hr
  obtain ⟨m, ms', rfl, _, _, h3, h4⟩ := hr
  simp only [z4i] at h
  split at h
  ·rename_i hq
   simp only [Option.some.injEq] at h; subst h
   exact ⟨Nat.le_refl _, by simp [List.findIdx?_cons, ← h3, hq]⟩
  ·rename_i hq
   obtain ⟨g1, g2⟩ := z8k h h4
   refine ⟨by omega, ?_⟩
   have hq' : ((m.born : Int) == n) = false := by rw [← h3]; simpa using hq
   simp only [List.findIdx?_cons, hq', g2, Option.map_some, Bool.false_eq_true, if_false]
   congr 1; omega
theorem z8q (hI : Inv P S ρ A w) {t : TypeId} {x st v : V} {S' : Store} {ux us uv : Value} (h : kM S x st v = some S') (hx : RepV P S ρ A w x ux) (hs : RepV P S ρ A w st us) (hv : RepV P S ρ A w v uv) :
  ∃ w', (Instr.entryStore t ux us uv).run P w = .ok () w' ∧ Inv P S' ρ A w' ∧ Step S ρ A w S' ρ A w' := by
 unfold kM at h
 split at h
 ·cases h
 ·rename_i hone
  simp only [Bool.not_eq_true', Bool.not_eq_false] at hone
  have hvw := (zY hone).1 hv
  split at h
  ·rename_i id kk n
   have hs := (zD rfl).1 (jH.1 hs)
   simp only [RepC, List.cons.injEq, and_true] at hs
   subst hs
   cases ho : S[id]? with
   | none => simp [ho] at h
   | some o =>
    cases o with
    | mp es clock =>
     obtain ⟨en, rfl, hh, hr, hb, hn⟩ := zdh hI ho hx
     simp only [ho] at h
     cases hf : z4i n es 0 with
     | none => simp [hf] at h
     | some i =>
      obtain ⟨_, g2⟩ := z8k hf hr
      simp only [hf] at h
      cases hg : es[i]? with
      | none => simp [hg] at h
      | some e =>
       simp only [hg, Option.some.injEq] at h; subst h
       obtain ⟨m, hm1, hm2, hm3, hm4⟩ := z8j hr hg
       have hb2 : ((e.1, v, e.2.2) : D × V × Nat).2.2 = e.2.2 := rfl
       obtain ⟨t1, t2⟩ := z46 hI ho hh (en' := en.modify i fun e => { e with val := uv }) (by
        rw [z8g _ hm1]
        exact z4k (e := (e.1, v, e.2.2)) hr hm2 hvw hm4) (zb6 hg hb2 hb) (by rw [z8w hg hb2]; exact hn)
       refine ⟨_, ?_, t1, t2⟩
       have g3 : en.findIdx? (fun e => (e.born : Int) == n) = some i := by
        obtain ⟨l⟩ := en; simpa using g2
       simp [Instr.entryStore, jU hh, asInt, asIntOf, g3, vJ hh]
    | _ => simp [ho] at h
  ·cases h
theorem zf7 (hI : Inv P S ρ A w) {t ty : TypeId} {ts : List TypeId} {x k : V} {S' : Store} {ux uk : Value} (h : z07 P S t x k = some S') (hx : RepV P S ρ A w x ux) (hk : RepV P S ρ A w k uk) :
  ∃ w', (Builtin.delete_ (t :: ts).toArray ty #[ux, uk]).run P w = .ok (.tuple #[]) w' ∧ Inv P S' ρ A w' ∧ Step S ρ A w S' ρ A w' := by
 unfold z07 at h
 split at h
 ·rename_i kt et hu
  split at h
  ·rename_i hok
   split at h
   ·rename_i id
    cases ho : S[id]? with
    | none => simp [ho] at h
    | some o =>
     cases o with
     | mp es clock =>
      obtain ⟨en, rfl, hh, hr, hb, hn⟩ := zdh hI ho hx
      simp only [ho] at h
      have hck := vP (P := P) hok hk en.isEmpty 9998
      cases hf : findD P kt k es 0 with
      | none => simp [hf] at h
      | some r =>
       obtain ⟨r', h1, h2⟩ := z2f hok hk hf hr
       simp only [hf] at h
       cases r with
       | none =>
        simp only [Option.some.injEq] at h; subst h
        simp only at h2; subst h2
        obtain ⟨t1, t2⟩ := z46 hI ho hh (en' := en) hr hb hn
        refine ⟨_, ?_, t1, t2⟩
        simp [Builtin.delete_, run_underlying hu, jU hh, show (10000 : Nat) = 9998 + 2 from rfl, hck, h1, vJ hh]
       | some q =>
        obtain ⟨i, u⟩ := q
        obtain ⟨e, m, v0, g1, g2, g3, rfl, g4, g5, g6, g7⟩ := h2
        simp only [Option.some.injEq] at h; subst h
        obtain ⟨t1, t2⟩ := z46 hI ho hh (en' := en.eraseIdxIfInBounds i) (clock' := clock) (es' := es.eraseIdx i) (by
         rw [Array.toList_eraseIdxIfInBounds]
         exact z8v hr) (fun e he => hb e (List.mem_of_mem_eraseIdx he)) (hn.sublist ((List.eraseIdx_sublist _ _).map _))
        refine ⟨_, ?_, t1, t2⟩
        simp [Builtin.delete_, run_underlying hu, jU hh, show (10000 : Nat) = 9998 + 2 from rfl, hck, h1, vJ hh]
     | _ => simp [ho] at h
   ·cases h
  ·cases h
 ·cases h
end
section
variable {P : Program} {S : Store} {ρ : Nat → Nat} {A : Nat → Prop} {w w' : World}
theorem z0z {T : List V} {a : Act} (hT : RepT P S ρ A w T a.tmps.toList) : ∀ (xs : List Operand), (xs.map (zB T)).all V.one = true → qQ P S ρ A w (xs.map (zB T)) (xs.map a.eval)
 | [], _ => by simp [qQ]
 | x :: r, h => by
  simp only [List.map_cons, List.all_cons, Bool.and_eq_true] at h
  simp only [List.map_cons, qQ]
  exact ⟨_, _, rfl, (zY h.1).1 (z0w hT x), z0z hT r h.2⟩
theorem zg2 {T : List V} {a : Act} (hT : RepT P S ρ A w T a.tmps.toList) : ∀ (xs : List Operand), RepT P S ρ A w (xs.map (zB T)) (xs.map a.eval)
 | [] => by simp [RepT]
 | x :: r => by
  simp only [List.map_cons, RepT]
  exact ⟨_, _, rfl, z0w hT x, zg2 hT r⟩
theorem z15 {xs : List V} {us : Array Value} (h : qQ P S ρ A w xs us.toList) : RepV P S ρ A w (.tup xs) (.tuple us) := ⟨us, rfl, h⟩
theorem z49 : ∀ {xs : List V} {us : List Value}, qQ P S ρ A w xs us → z13 P S ρ A w xs us
 | [], us, h => by simpa [qQ, z13] using h
 | x :: r, us, h => by
  simp only [qQ] at h
  obtain ⟨v, us', rfl, h1, h2⟩ := h
  simp only [z13]
  exact ⟨v, us', rfl, h1, z49 h2⟩
theorem z3r : ∀ {xs : List V} {us : List Value}, z13 P S ρ A w xs us → qQ P S ρ A w xs us
 | [], us, h => by simpa [qQ, z13] using h
 | x :: r, us, h => by
  simp only [z13] at h
  obtain ⟨v, us', rfl, h1, h2⟩ := h
  simp only [qQ]
  exact ⟨v, us', rfl, h1, z3r h2⟩
theorem vF : ∀ {xs : List D} {us : List Value}, RepS A w xs us → qQ P S ρ A w (xs.map .d) us
 | [], us, h => by simpa [qQ, RepS] using h
 | x :: r, us, h => by
  simp only [RepS] at h
  obtain ⟨v, us', rfl, h1, h2⟩ := h
  simp only [List.map_cons, qQ]
  exact ⟨v, us', rfl, jN.2 h1, vF h2⟩
theorem zfv {f : Fn} {a b : List V} {u : Value} (h : RepV P S ρ A w (.fn f a b) u) : ∃ fa ca, u = .func f fa ca ∧ qQ P S ρ A w a fa.toList ∧ qQ P S ρ A w b ca.toList := by
 have h := (zG rfl).1 ((zY rfl).1 h)
 simp only [zP, List.cons.injEq, and_true] at h
 obtain ⟨fa, ca, rfl, h1, h2⟩ := h
 exact ⟨fa, ca, rfl, z3r h1, z3r h2⟩
theorem zrj {f : Fn} {a b : List D} {u : Value} (h : RepV P S ρ A w (.d (.fn f a b)) u) : ∃ fa ca, u = .func f fa ca ∧ qQ P S ρ A w (a.map .d) fa.toList ∧ qQ P S ρ A w (b.map .d) ca.toList := by
 have h := (zD rfl).1 (jH.1 h)
 simp only [RepC, List.cons.injEq, and_true] at h
 obtain ⟨fa, ca, rfl, h1, h2⟩ := h
 exact ⟨fa, ca, rfl, vF h1, vF h2⟩
theorem z2y {f : FuncId} (h : (zA P f).isSome = true) (us : Array Value) (w : World) : (callFunc f us).run P w = .ok (.enter f us) w := by
 unfold zA at h
 cases hf : P.funcs[f]? with
 | none => simp [hf] at h
 | some fn =>
  simp only [hf] at h
  split at h
  ·cases h
  ·rename_i hn
   cases hb : fn.body with
   | none => simp [hb] at h
   | some c =>
    have hn' : (fn.name == "runtime.NumGoroutine") = false := by simpa using hn
    have hn2 : ¬ fn.name = "runtime.NumGoroutine" := by simpa using hn
    simp [callFunc, program, Sem.run, hf, hn2, hb]
theorem zt9 (hI : Inv P S ρ A w) {t ty : TypeId} {ts : List TypeId} {x : V} {u : Value} {r : Rs} (h : zI P S .len (t :: ts) [x] = some r) (hx : RepV P S ρ A w x u) :
  ∃ n c, r = .val (.d (.int .i64 (n : Nat))) S c ∧ (Builtin.len_ (t :: ts).toArray ty #[u]).run P w = .ok (goInt (n : Nat)) w := by
 unfold zI at h
 simp only at h
 split at h
 ·rename_i n e hu
  simp only [Option.some.injEq] at h; subst h
  exact ⟨n, 0, rfl, by simp [Builtin.len_, run_underlying hu]⟩
 ·rename_i hu
  split at h
  ·rename_i s
   simp only [Option.some.injEq] at h; subst h
   have hx := (zD rfl).1 (jH.1 hx)
   simp only [RepC, List.cons.injEq, and_true] at hx
   subst hx
   have hl : (⟨s.toArray⟩ : ByteArray).size = s.length := rfl
   exact ⟨s.length, 0, rfl, by simp [Builtin.len_, run_underlying hu, hl]⟩
  ·cases h
 ·rename_i e hu
  have key : ∀ a n cap, u = .slice a n cap → (Builtin.len_ (t :: ts).toArray ty #[u]).run P w = .ok (goInt (n : Nat)) w := by
   rintro a n cap rfl
   simp [Builtin.len_, run_underlying hu]
  split at h
  ·rename_i xs
   simp only [Option.some.injEq] at h; subst h
   obtain ⟨a, cap, rfl, _⟩ := z85 (jH.1 hx)
   exact ⟨_, 0, rfl, key _ _ _ rfl⟩
  ·rename_i xs
   simp only [Option.some.injEq] at h; subst h
   have hx := (zG rfl).1 ((zY rfl).1 hx)
   simp only [zP, List.cons.injEq, and_true] at hx
   obtain ⟨a, rfl, _⟩ := hx
   exact ⟨_, 0, rfl, key _ _ _ rfl⟩
  ·rename_i id off n
   simp only [Option.some.injEq] at h; subst h
   have hx := (zG rfl).1 ((zY rfl).1 hx)
   simp only [zP, List.cons.injEq, and_true] at hx
   obtain ⟨a, cap, rfl, _⟩ := hx
   exact ⟨_, 0, rfl, key _ _ _ rfl⟩
  ·rename_i id ix off n
   simp only [Option.some.injEq] at h; subst h
   have hx := (zG rfl).1 ((zY rfl).1 hx)
   simp only [zP, List.cons.injEq, and_true] at hx
   obtain ⟨a, cap, rfl, _⟩ := hx
   exact ⟨_, 0, rfl, key _ _ _ rfl⟩
  ·cases h
 ·rename_i kt et hu
  split at h
  ·rename_i es hes
   simp only [Option.some.injEq] at h; subst h
   refine ⟨es.length, 1, rfl, ?_⟩
   rcases z6n hI hes hx with ⟨rfl, rfl⟩ | ⟨rr, en, clock, rfl, h1, h2⟩
   ·simp [Builtin.len_, run_underlying hu]
   ·have hl : ∀ {es : List (D × V)} {ms : List MapEntry}, z1l P S ρ A w es ms → ms.length = es.length := by
     intro es
     induction es with
     | nil => intro ms h; simp only [z1l] at h; simp [h]
     | cons e r ih =>
      intro ms h
      simp only [z1l] at h
      obtain ⟨m, ms', rfl, _, _, h3⟩ := h
      simp [ih h3]
    have := hl h2
    simp only [Array.length_toList] at this
    simp [Builtin.len_, run_underlying hu, jU h1, this]
  ·cases h
 ·cases h
theorem zlx {e : TypeId} {z : V} (h : zeroV P e = some z) : ∃ v i, P.info? e = some i ∧ i.zero = some v ∧ zi7 v = some z := by
 unfold zeroV at h
 cases hi : P.info? e with
 | none => simp [hi] at h
 | some i =>
  simp only [hi, Option.bind_some] at h
  cases hz : i.zero with
  | none => simp [hz] at h
  | some v => simp only [hz, Option.bind_some] at h; exact ⟨v, i, rfl, hz, h⟩
theorem zgi (hI : Inv P S ρ A w) {t e : TypeId} {len k : Nat} {z : V} {parts : List (Nat × V)} {parts' : Array (Nat × Value)} (hu : P.underlying t = some (.slice e)) (hz : zeroV P e = some z) (hk : sz P e = some k) (hf : zZ P e z = true) (hp : (parts.all fun p => p.1 < len && zZ P e p.2) = true) (hlk : len * k ≤ 16777216) (hk0 : k ≠ 0)
  (hr : z0g P S ρ A w parts parts'.toList) :
  ∃ cells', (Instr.buildSlice t len parts').run P w = .ok (.slice (some ⟨w.heap.size, 0, none⟩) len len) (w.alloc (.cells cells' e)) ∧ qJ P S ρ A w k (litV z len parts) cells'.toList ∧ (litV z len parts).length = len := by
 obtain ⟨zv, i, hi, hiz, hzo⟩ := zlx hz
 have hzr := z0h (P := P) (S := S) (ρ := ρ) (A := A) (w := w) hzo
 obtain ⟨_, k', hk', hk1, _⟩ := wR hf (zT hzr)
 rw [hk] at hk'; cases hk'
 have hzc := jB hzr
 have hrow := z2q hzc hk1 len
 have hp' : (parts.all fun p => p.1 < (List.replicate len z).length && zZ P e p.2) = true := by simpa using hp
 obtain ⟨cells', hc1, hc2⟩ := zfj hk hp' hr hrow
 have hll : (litV z len parts).length = len := by
  have : ∀ (ps : List (Nat × V)) (xs : List V), (ps.foldl (fun xs p => xs.set p.1 p.2) xs).length = xs.length := by
   intro ps
   induction ps with
   | nil => intro xs; rfl
   | cons p r ih => intro xs; simp [ih]
  simp [litV, this]
 have hfz : zv.cells.size = k := hk1
 have hrun : (Instr.buildSlice t len parts').run P w = .ok (.slice (some ⟨w.heap.size, 0, none⟩) len len) (w.alloc (.cells cells' e)) := by
  have h2 : ¬ (len * k > 2 ^ 24) := by omega
  by_cases h0 : len * k = 0
  ·have hr0 : (Array.range (len * k)).map (fun i => (zv.cells)[i % k]!) = #[] := by rw [h0]; simp
   rw [hr0] at hc1
   simp [Instr.buildSlice, run_underlying hu, run_sizeOf hk, h0, hc1, newRow, Array.range_zero']
  ·have h2' : ¬ (16777216 < len * k) := by omega
   simp [Instr.buildSlice, run_underlying hu, run_sizeOf hk, h0, h2', zeroValue, typeInfo, hi, hiz, hfz, hc1, newRow]
 exact ⟨cells', hrun, hc2, hll⟩
theorem zg5 (hI : Inv P S ρ A w) {t e : TypeId} {len k : Nat} {z : V} {parts : List (Nat × V)} {parts' : Array (Nat × Value)} {ds : List D} (hu : P.underlying t = some (.slice e)) (hz : zeroV P e = some z) (hk : sz P e = some k) (hf : zZ P e z = true) (hp : (parts.all fun p => p.1 < len && zZ P e p.2) = true) (hlk : len * k ≤ 16777216) (hk0 : k ≠ 0)
  (hds : allO asD (litV z len parts) = some ds) (hr : z0g P S ρ A w parts parts'.toList) :
  ∃ cells', (Instr.buildSlice t len parts').run P w = .ok (.slice (some ⟨w.heap.size, 0, none⟩) len len) (w.alloc (.cells cells' e)) ∧ RepE A w k ds cells'.toList ∧ ds.length = len ∧ cells'.size = len * k := by
 obtain ⟨cells', h1, h2, h3⟩ := zgi hI hu hz hk hf hp hlk hk0 hr
 have hds' := zyb hds h2
 have hdl : ds.length = len := by rw [← h3]; exact (z10 hds).1.symm
 refine ⟨cells', h1, hds', hdl, ?_⟩
 have := z8o hds'
 rw [hdl] at this
 simpa using this
theorem zo3 (hI : Inv P S ρ A w) {t e : TypeId} {len k : Nat} {z : V} {parts : List (Nat × V)} {parts' : Array (Nat × Value)} (hu : P.underlying t = some (.slice e)) (hz : zeroV P e = some z) (hk : sz P e = some k) (hf : zZ P e z = true) (hp : (parts.all fun p => p.1 < len && zZ P e p.2) = true) (hlk : len * k ≤ 16777216) (hk0 : k ≠ 0)
  (hr : z0g P S ρ A w parts parts'.toList) :
  ∃ v w' ρ', (Instr.buildSlice t len parts').run P w = .ok v w' ∧ Inv P (S ++ [.row (litV z len parts) e]) ρ' A w' ∧ Step S ρ A w (S ++ [.row (litV z len parts) e]) ρ' A w' ∧ RepV P (S ++ [.row (litV z len parts) e]) ρ' A w' (.rs S.length 0 len) v := by
 obtain ⟨cells', h1, h2, h3⟩ := zgi hI hu hz hk hf hp hlk hk0 hr
 obtain ⟨g1, g2⟩ := hI.push (o := .row (litV z len parts) e) (w' := w.alloc (.cells cells' e)) rfl (by simp) (fun b hb => kG _ hb) rfl rfl rfl (fun hs hA => by
  simp only [ObOk]
  exact ⟨k, _, _, [], hk, jC _, by rw [List.append_nil], qZ (fun _ h => h) hA hs _ _ _ h2⟩)
 refine ⟨_, _, _, h1, g1, g2, zT ((zG rfl).2 ?_)⟩
 have hl := qS h2
 rw [h3] at hl
 simp only [zP]
 refine ⟨_, _, rfl, ?_⟩
 unfold RowPl
 simp only [List.getElem?_concat_length]
 exact ⟨k, hk, .inl (by simp), by omega, Nat.le_refl _, cells', e, (0, 0), by simp only [if_true]; exact jC _, by simp at hl ⊢; omega⟩
theorem zq1 {e : TypeId} {k len : Nat} {cells' : Array Value} {ds : List D} {f : Nat × Nat} (hI : Inv P S ρ A w) (h : RepE A w k ds cells'.toList) (hl : ds.length = len) (hsz : w'.heap.size = w.heap.size + 1) (hold : ∀ b, b < w.heap.size → w'.heap[b]? = w.heap[b]?) (hnew : w'.heap[w.heap.size]? = some (.cells cells' e f)) (h1 : w'.os = w.os) (h2 : w'.tape = w.tape) (h3 : w'.output = w.output) :
  ∃ A', Inv P S ρ A' w' ∧ Step S ρ A w S ρ A' w' ∧ RepV P S ρ A' w' (.ts ds) (.slice (some ⟨w.heap.size, 0, none⟩) len len) := by
 obtain ⟨g1, g2⟩ := hI.fresh hsz hold h1 h2 h3
 refine ⟨_, g1, g2, zT ((zG rfl).2 ?_)⟩
 have hsl : RepC (fun b => A b ∨ b = w.heap.size) w' (.sl ds) [.slice (some ⟨w.heap.size, 0, none⟩) len len] := by
  simp only [RepC]
  refine ⟨_, len, by rw [hl], by omega, .inr ⟨_, k, cells'.toList, rfl, rfl, .inr rfl, ⟨cells', e, f, hnew, fun i v hv => by simpa using hv⟩, ?_⟩⟩
  exact z27 g2.amono g2.keepA k _ _ h
 simp only [zP]
 exact ⟨some ⟨w.heap.size, 0, none⟩, by rw [hl], by simpa only [hl] using hsl⟩
theorem zmu (hI : Inv P S ρ A w) {t e : TypeId} {len k : Nat} {z : V} {parts : List (Nat × V)} {parts' : Array (Nat × Value)} {ds : List D} (hu : P.underlying t = some (.slice e)) (hz : zeroV P e = some z) (hk : sz P e = some k) (hf : zZ P e z = true) (hp : (parts.all fun p => p.1 < len && zZ P e p.2) = true) (hlk : len * k ≤ 16777216) (hk0 : k ≠ 0)
  (hds : allO asD (litV z len parts) = some ds) (hr : z0g P S ρ A w parts parts'.toList) :
  ∃ v w' A', (Instr.buildSlice t len parts').run P w = .ok v w' ∧ Inv P S ρ A' w' ∧ Step S ρ A w S ρ A' w' ∧ RepV P S ρ A' w' (.ts ds) v := by
 obtain ⟨cells', hrun, h1, h2, _⟩ := zg5 hI hu hz hk hf hp hlk hk0 hds hr
 obtain ⟨A', g1, g2, g3⟩ := zq1 (w' := w.alloc (.cells cells' e)) hI h1 h2 (by simp) (fun b hb => kG _ hb) (jC _) rfl rfl rfl
 exact ⟨_, _, A', hrun, g1, g2, g3⟩
theorem zos (hI : Inv P S ρ A w) {id : Nat} {s : List UInt8} {pos : Nat} {u : Value} {ty : TypeId} (ho : S[id]? = some (.iter s pos)) (hx : RepV P S ρ A w (.it id) u) :
  if pos < s.length then
   ∃ w', (Instr.next u true ty).run P w = .ok (.tuple #[.bool true, goInt pos, .int .i32 (Utf8.decode ⟨s.toArray⟩ pos).1]) w' ∧ Inv P (S.set id (.iter s (pos + (Utf8.decode ⟨s.toArray⟩ pos).2))) ρ A w' ∧ Step S ρ A w (S.set id (.iter s (pos + (Utf8.decode ⟨s.toArray⟩ pos).2))) ρ A w'
  else (Instr.next u true ty).run P w = .ok (.tuple #[.bool false]) w := by
 have hok := hI.ok id _ ho
 have hx := (zG rfl).1 ((zY rfl).1 hx)
 simp only [zP, List.cons.injEq, and_true] at hx
 obtain ⟨r, rfl, hpl⟩ := hx
 simp only [ItPl, ho] at hpl
 subst hpl
 simp only [ObOk] at hok
 have hl : (⟨s.toArray⟩ : ByteArray).size = s.length := rfl
 split
 ·rename_i hlt
  obtain ⟨t1, t2⟩ := hI.turn (o' := .iter s (pos + (Utf8.decode ⟨s.toArray⟩ pos).2)) (w' := setO w (ρ id) (.stringIter ⟨s.toArray⟩ (pos + (Utf8.decode ⟨s.toArray⟩ pos).2))) ho rfl trivial (z8l ..) (fun b hb => z5j _ _ hb) (.inr fun c e f hc => by rw [hok] at hc; cases hc) rfl rfl rfl (.inl rfl) (fun hs hA => by
   simp only [ObOk]
   exact z8t _ hok)
  refine ⟨_, ?_, t1, t2⟩
  simp [Instr.next, z7r hok, hl, hlt, zf2 hok]
 ·rename_i hlt
  simp [Instr.next, z7r hok, hl, hlt]
end
section
variable {P : Program} {S : Store} {ρ : Nat → Nat} {A : Nat → Prop} {w w' : World}
theorem wT (s : Sem Value) {u : Value} {w' : World} (h : s.run P w = .ok u w') : (do pure (Next.value (← s)) : Sem Next).run P w = .ok (.value u) w' := by simp [h]
theorem zs7 (s : Sem Unit) {w' : World} (h : s.run P w = .ok () w') : (do s; pure Next.skip : Sem Next).run P w = .ok .skip w' := by simp [h]
theorem vZ (hI : Inv P S ρ A w) {s : Sem Value} {u : Value} {v : V} {c : Nat} (h : s.run P w = .ok u w) (hv : RepW P S ρ A w v u) : zf3 P S ρ A w ((do pure (Next.value (← s)) : Sem Next).run P w) (.val v S c) :=
 jA hI (wT s h) (zT hv)
theorem zbm (hI : Inv P S ρ A w) {b : Builtin} {ts : List TypeId} {ty : TypeId} {cs : Array Bool} {xs : List V} {us : Array Value} {r : Rs} (h : zI P S b ts xs = some r) (hx : RepT P S ρ A w xs us.toList) :
  zf3 P S ρ A w ((builtin b ts.toArray ty cs us).run P w) r := by
 have h0 := h
 unfold zI at h
 split at h
 ·rename_i t ts' x
  simp only [RepT] at hx
  obtain ⟨u, us', hus, h1, rfl⟩ := hx
  have : us = #[u] := by rw [← Array.toList_inj]; exact hus
  subst this
  obtain ⟨n, c, rfl, g2⟩ := zt9 (ty := ty) hI h0 h1
  exact vZ hI (s := Builtin.len_ _ ty _) g2 (jN.2 ((zD rfl).2 (by simp [RepC, goInt])))
 ·rename_i t tx s x
  obtain ⟨⟨y, S', c⟩, hr, rfl⟩ := Option.map_eq_some_iff.1 h
  simp only [RepT] at hx
  obtain ⟨u, us', hus, h1, u2, us2, rfl, h2, rfl⟩ := hx
  have : us = #[u, u2] := by rw [← Array.toList_inj]; exact hus
  subst this
  obtain ⟨v, w', ρ', g1, g2, g3, g4⟩ := zf6 (ty := ty) hI hr h1 h2
  exact ⟨v, w', ρ', A, wT _ g1, g2, g3, zT g4⟩
 ·rename_i t tx s x
  obtain ⟨⟨y, S'⟩, hr, rfl⟩ := Option.map_eq_some_iff.1 h
  simp only [RepT] at hx
  obtain ⟨u, us', hus, h1, u2, us2, rfl, h2, rfl⟩ := hx
  have : us = #[u, u2] := by rw [← Array.toList_inj]; exact hus
  subst this
  obtain ⟨v, w', g1, g2, g3, g4⟩ := zl0 (ty := ty) hI hr h1 h2
  exact ⟨v, w', ρ, A, wT _ g1, g2, g3, zT g4⟩
 ·rename_i t ts' s x
  obtain ⟨S', hr, rfl⟩ := Option.map_eq_some_iff.1 h
  simp only [RepT] at hx
  obtain ⟨u, us', hus, h1, u2, us2, rfl, h2, rfl⟩ := hx
  have : us = #[u, u2] := by rw [← Array.toList_inj]; exact hus
  subst this
  obtain ⟨w', g1, g2, g3⟩ := zf7 (ty := ty) (ts := ts') hI hr h1 h2
  exact ⟨_, w', ρ, A, wT _ g1, g2, g3, z15 (by simp [qQ])⟩
 ·rename_i x r'
  obtain ⟨z, hr, rfl⟩ := Option.map_eq_some_iff.1 h
  simp only [RepT] at hx
  obtain ⟨u, us', hus, h1, h2⟩ := hx
  obtain ⟨v, g1, g2⟩ := z7i (g := Builtin.max2) (fun a b c => zk6 a b c) hr h1 h2
  refine jA hI (wT _ ?_) g2
  simp only [Builtin.max_, hus, g1]
 ·rename_i x r'
  obtain ⟨z, hr, rfl⟩ := Option.map_eq_some_iff.1 h
  simp only [RepT] at hx
  obtain ⟨u, us', hus, h1, h2⟩ := hx
  obtain ⟨v, g1, g2⟩ := z7i (g := Builtin.min2) (fun a b c => zkn a b c) hr h1 h2
  refine jA hI (wT _ ?_) g2
  simp only [Builtin.min_, hus, g1]
 ·cases h
theorem zgp (hI : Inv P S ρ A w) {t k e : TypeId} {x : V} {u : Value} {r : Rs} (hu : P.underlying t = some (.map k e)) (h : z1n S x = some r) (hx : RepV P S ρ A w x u) :
  zf3 P S ρ A w ((do pure (Next.value (← Instr.range t u)) : Sem Next).run P w) r := by
 cases x <;> simp only [z1n, reduceCtorEq] at h
 rename_i id
 cases ho : S[id]? with
 | none => simp [ho] at h
 | some ob =>
  cases ob with
  | mp es clock =>
   simp only [ho, Option.some.injEq] at h; subst h
   obtain ⟨en, rfl, g1, g2, _⟩ := zdh hI ho hx
   have hlt := jV g1
   have hid : id < S.length := by
    rcases Nat.lt_or_ge id S.length with h' | h'
    ·exact h'
    ·simp [List.getElem?_eq_none h'] at ho
   obtain ⟨k1, k2⟩ := hI.push (o := .mit id clock [] clock) (w' := w.alloc (.mapIter (some (ρ id)) clock #[] clock)) rfl (by simp) (fun b hb => kG _ hb) rfl rfl rfl (fun hs hA => by
    simp only [ObOk]
    refine ⟨ρ id, jC _, ?_⟩
    unfold MapPl
    rw [List.getElem?_append_left hid, ho]
    simp only
    rw [if_neg (by omega)])
   refine ⟨_, _, _, A, wT _ (u := .pointer (some ⟨w.heap.size, 0, none⟩)) ?_, k1, k2, zT ((zG rfl).2 ?_)⟩
   ·simp [Instr.range, run_underlying hu, jU g1]
   ·simp only [zP]
    exact ⟨_, rfl, by unfold ItPl; simp⟩
  | _ => simp [ho] at h
theorem z5x {b : Nat} {m : Option Nat} {a c : Nat} {s : Array Nat} (h : w.heap[b]? = some (.mapIter m a s c)) : (getObj b).run P w = .ok (.mapIter m a s c) w := by
 simp [getObj, Sem.run, h]
theorem zic {b : Nat} {m : Option Nat} {a c : Nat} {s : Array Nat} (h : w.heap[b]? = some (.mapIter m a s c)) (o : Obj) : (setObj b o).run P w = .ok () (setO w b o) := by
 simp [setObj, Sem.run, h, setO]
theorem z69 {seen : List Nat} : ∀ {es : List (D × V × Nat)} {en : List MapEntry}, jD P S ρ A w es en → jD P S ρ A w (es.filter fun e => !seen.contains e.2.2) (en.filter fun e => !seen.contains e.born)
 | [], en, h => by simp only [jD] at h; subst h; simp [jD]
 | e :: r, en, h => by
  simp only [jD] at h
  obtain ⟨m, ms, rfl, h1, h2, h3, h4⟩ := h
  have ih := z69 (seen := seen) h4
  simp only [List.filter_cons, h3]
  cases hc : seen.contains m.born with
  | true => simpa [hc] using ih
  | false =>
   simp only [Bool.not_false, if_true, jD]
   exact ⟨m, _, rfl, h1, h2, h3, ih⟩
theorem zcc {last : Nat} : ∀ {es : List (D × V × Nat)} {en : List MapEntry}, jD P S ρ A w es en → (es.all fun e => decide (e.2.2 ≥ last)) = (en.all fun e => decide (e.born ≥ last)) ∧ es.isEmpty = en.isEmpty
 | [], en, h => by simp only [jD] at h; subst h; simp
 | e :: r, en, h => by
  simp only [jD] at h
  obtain ⟨m, ms, rfl, h1, h2, h3, h4⟩ := h
  simp only [List.all_cons, h3, (zcc h4).1, List.isEmpty_cons, and_self]
theorem zjl (hI : Inv P S ρ A w) {ty : TypeId} {x : V} {u : Value} {r : Rs} (h : z4e S x = some r) (hx : RepV P S ρ A w x u) :
  zf3 P S ρ A w ((do pure (Next.value (← Instr.next u false ty)) : Sem Next).run P w) r := by
 cases x <;> simp only [z4e, reduceCtorEq] at h
 rename_i id
 cases ho : S[id]? with
 | none => simp [ho] at h
 | some ob =>
  cases ob with
  | mit mid since seen last =>
   simp only [ho] at h
   cases hm : S[mid]? with
   | none => simp [hm] at h
   | some om =>
    cases om with
    | mp es clock =>
     simp only [hm] at h
     have hok := hI.ok id _ ho
     have hmk := hI.ok mid _ hm
     have hx := (zG rfl).1 ((zY rfl).1 hx)
     simp only [zP, List.cons.injEq, and_true] at hx
     obtain ⟨r', rfl, hpl⟩ := hx
     simp only [ItPl, ho] at hpl
     subst hpl
     simp only [ObOk] at hok hmk
     obtain ⟨r0, hh, hp0⟩ := hok
     simp only [MapPl, hm] at hp0
     subst hp0
     obtain ⟨en, hme, hM, hcl, hnd⟩ := hmk
     obtain ⟨ha1, ha2⟩ := zcc (last := last) hM
     have hF := z69 (seen := seen) hM
     have hsz : seen.toArray.isEmpty = seen.isEmpty := by cases seen <;> rfl
     have hez : en.isEmpty = es.isEmpty := by rw [ha2]; cases en with | mk l => cases l <;> rfl
     have hall : (en.all fun e => decide (e.born ≥ last)) = (es.all fun e => decide (e.2.2 ≥ last)) := by rw [ha1]; simp
     have hfl : (en.filter fun e => !seen.toArray.contains e.born) = (en.toList.filter fun e => !seen.contains e.born).toArray := by
      apply Array.toList_inj.1
      simp
     split at h
     ·cases h
     ·rename_i hc
      have hc' : (!seen.toArray.isEmpty && !en.isEmpty && en.all fun e => decide (e.born ≥ last)) = false := by
       rw [hsz, hez, hall]; simpa using hc
      split at h
      ·rename_i hfe
       simp only [Option.some.injEq] at h; subst h
       rw [hfe] at hF
       simp only [jD] at hF
       rw [hF] at hfl
       refine jA hI (wT _ (u := .tuple #[.bool false]) ?_) (z15 ?_)
       ·simp only [Instr.next, Sem.run_bind, z5x hh, jU hme, Result.andThen, hc', hfl, Bool.false_eq_true, if_false]
        simp [choose, Sem.run, Question.forced]
       ·simp only [qQ]
        exact ⟨_, _, rfl, jN.2 ((zD rfl).2 (by simp [RepC])), rfl⟩
      ·rename_i e rest hfe
       split at h
       ·rename_i hlt
        simp only [Bool.and_eq_true, List.isEmpty_iff, decide_eq_true_eq] at hlt
        obtain ⟨rfl, hlt⟩ := hlt
        simp only [Option.some.injEq] at h; subst h
        rw [hfe] at hF
        simp only [jD] at hF
        obtain ⟨m, ms, hms, h1, h2, h3, rfl⟩ := hF
        rw [hms] at hfl
        have hb : m.born < since := h3 ▸ hlt
        obtain ⟨t1, t2⟩ := hI.turn (o' := .mit mid since (seen ++ [e.2.2]) clock) (w' := setO w (ρ id) (.mapIter (some (ρ mid)) since (seen.toArray.push m.born) clock)) ho rfl trivial (z8l ..) (fun b hb => z5j _ _ hb) (.inr fun c e f hc => by rw [hh] at hc; cases hc) rfl rfl rfl (.inl rfl) (fun hs hA => by
         simp only [ObOk]
         refine ⟨ρ mid, ?_, ?_⟩
         ·rw [z8t _ hh, h3]; simp
         ·have : MapPl S ρ mid (ρ mid) := by simp [MapPl, hm]
          exact this.mono hs)
        refine ⟨_, _, ρ, A, wT _ (u := .tuple #[.bool true, m.key, m.val]) ?_, t1, t2, z15 ?_⟩
        ·simp only [Instr.next, Sem.run_bind, z5x hh, jU hme, Result.andThen, hc', hfl, Bool.false_eq_true, if_false]
         simp [choose, Sem.run, Question.forced, hb, Nat.not_le.2 hb, zic hh]
        ·simp only [qQ]
         exact ⟨_, _, rfl, jN.2 ((zD rfl).2 (by simp [RepC])), _, _, rfl, jN.2 (z2u t2.amono t2.keepA h1), _, _, rfl, z0b t2.amono t2.keepA t2.sle h2, rfl⟩
       ·cases h
    | _ => simp [hm] at h
  | _ => simp [ho] at h
theorem za4 {st : Nat} : ∀ {es : List (D × V × Nat)} {en : List MapEntry} {e : D × V × Nat}, jD P S ρ A w es en → (es.find? fun e => e.2.2 == st) = some e → ∃ m, (en.find? fun m => m.born == st) = some m ∧ RepX A w e.1 m.key ∧ RepW P S ρ A w e.2.1 m.val
 | [], en, e, h, hf => by simp at hf
 | x :: r, en, e, h, hf => by
  simp only [jD] at h
  obtain ⟨m, ms, rfl, h1, h2, h3, h4⟩ := h
  rw [List.find?_cons] at hf ⊢
  rw [h3] at hf
  cases hc : m.born == st with
  | true =>
   rw [hc] at hf
   simp only [Option.some.injEq] at hf
   subst hf
   exact ⟨m, rfl, h1, h2⟩
  | false =>
   rw [hc] at hf
   exact za4 h4 hf
theorem zi6 (hI : Inv P S ρ A w) {x : V} {u : Value} {r : Rs} (h : z1e S x = some r) (hx : RepV P S ρ A w x u) :
  zf3 P S ρ A w ((do pure (Next.value (← Instr.entry u)) : Sem Next).run P w) r := by
 cases x <;> simp only [z1e, reduceCtorEq] at h
 rename_i id
 cases ho : S[id]? with
 | none => simp [ho] at h
 | some ob =>
  cases ob with
  | mit mid since seen last =>
   simp only [ho] at h
   cases hm : S[mid]? with
   | none => simp [hm] at h
   | some om =>
    cases om with
    | mp es clock =>
     simp only [hm] at h
     have hok := hI.ok id _ ho
     have hmk := hI.ok mid _ hm
     have hx := (zG rfl).1 ((zY rfl).1 hx)
     simp only [zP, List.cons.injEq, and_true] at hx
     obtain ⟨r', rfl, hpl⟩ := hx
     simp only [ItPl, ho] at hpl
     subst hpl
     simp only [ObOk] at hok hmk
     obtain ⟨r0, hh, hp0⟩ := hok
     simp only [MapPl, hm] at hp0
     subst hp0
     obtain ⟨en, hme, hM, hcl, hnd⟩ := hmk
     split at h
     ·rename_i hcl
      split at h
      ·rename_i st hst
       split at h
       ·rename_i e hfe
        simp only [Option.some.injEq] at h; subst h
        obtain ⟨m, hm1, hm2, hm3⟩ := za4 hM hfe
        have hb : seen.toArray.back? = some st := by rw [← Array.getLast?_toList]; exact hst
        have hf : en.find? (fun m => m.born == st) = some m := by rw [← Array.find?_toList]; exact hm1
        refine jA hI (wT _ (u := .tuple #[m.key, m.val]) ?_) (z15 ?_)
        ·simp [Instr.entry, z5x hh, jU hme, hb, hcl, hf]
        ·simp only [qQ]
         exact ⟨_, _, rfl, jN.2 hm2, _, _, rfl, hm3, rfl⟩
       ·cases h
      ·cases h
     ·cases h
    | _ => simp [hm] at h
  | _ => simp [ho] at h
theorem zry (hI : Inv P S ρ A w) {T : List V} {a : Act} (hT : RepT P S ρ A w T a.tmps.toList) {o : Oper} {r : Rs} (h : opV P S T o = some r) : zf3 P S ρ A w ((execOp a.eval o).run P w) r := by
  have ev := fun x => z0w hT x
  unfold opV at h
  unfold execOp
  split at h
  · rename_i x hop
    simp only [Option.some.injEq] at h; subst h
    simp only [hop]
    exact jA hI rfl (ev x)
  · rename_i x hop
    simp only [Option.some.injEq] at h; subst h
    simp only [hop]
    exact jA hI rfl (ev x)
  · rename_i c x y hop
    simp only [hop]
    have hc := ev c
    split at h
    · rename_i hcv
      rw [hcv] at hc
      have hb := z32 hc
      simp only [Option.some.injEq] at h; subst h
      refine jA hI (u := a.eval x) ?_ (ev x)
      simp [hb, asBool]
    · rename_i hcv
      rw [hcv] at hc
      have hb := z32 hc
      simp only [Option.some.injEq] at h; subst h
      refine jA hI (u := a.eval y) ?_ (ev y)
      simp [hb, asBool]
    · cases h
  · rename_i e hop
    simp only [hop]
    split at h
    · rename_i z hz
      split at h
      · rename_i hf
        simp only [Option.some.injEq] at h; subst h
        obtain ⟨zv, hz1, hz2⟩ := z2i (S := S) (ρ := ρ) (A := A) (w := w) hz
        obtain ⟨ρ', g1, g2, g3⟩ := zpz hI hf (zT hz2)
        refine ⟨_, _, ρ', A, wT _ (u := .pointer (some ⟨w.heap.size, 0, none⟩)) ?_, g1, g2, g3⟩
        simp [Instr.alloc, hz1, newVar, newRow]
      · cases h
    · cases h
  · rename_i e x hop
    simp only [hop]
    split at h
    · rename_i hf
      simp only [Option.some.injEq] at h; subst h
      obtain ⟨ρ', g1, g2, g3⟩ := zpz hI hf (ev x)
      refine ⟨_, _, ρ', A, wT _ (u := .pointer (some ⟨w.heap.size, 0, none⟩)) ?_, g1, g2, g3⟩
      simp [Instr.box, newVar, newRow]
    · cases h
  · rename_i t parts hop
    simp only [hop]
    obtain ⟨y, hy, rfl⟩ := Option.map_eq_some_iff.1 h
    obtain ⟨v, g1, g2⟩ := zhj (parts' := parts.map fun (i, x) => (i, a.eval x)) hy (by simpa using z0v hT parts.toList)
    exact vZ hI g1 g2
  · rename_i t len parts hop
    simp only [hop]
    split at h
    · rename_i e hu
      split at h
      · rename_i z k hz hk
        split at h
        · rename_i hc
          simp only [Bool.and_eq_true, decide_eq_true_eq, ne_eq] at hc
          obtain ⟨⟨⟨c1, c2⟩, c3⟩, c4⟩ := hc
          split at h
          · rename_i ds hds
            simp only [Option.some.injEq] at h; subst h
            obtain ⟨v, w', A', g1, g2, g3, g4⟩ := zmu (parts' := parts.map fun (i, x) => (i, a.eval x)) hI hu hz hk c1 (by simpa [List.all_map] using c2) c3 (by simpa using c4) hds (by simpa using z0v hT parts.toList)
            exact ⟨v, w', ρ, A', wT _ g1, g2, g3, g4⟩
          · simp only [Option.some.injEq] at h; subst h
            obtain ⟨v, w', ρ', g1, g2, g3, g4⟩ := zo3 (parts := parts.toList.map fun p => (p.1, zB T p.2)) (parts' := parts.map fun (i, x) => (i, a.eval x)) hI hu hz hk c1 (by simpa [List.all_map] using c2) c3 (by simpa using c4) (by simpa using z0v hT parts.toList)
            exact ⟨v, w', ρ', A, wT _ g1, g2, g3, g4⟩
        · cases h
      · cases h
    · cases h
  · rename_i t x hop
    simp only [hop]
    obtain ⟨y, hy, rfl⟩ := Option.map_eq_some_iff.1 h
    obtain ⟨v, g1, g2⟩ := zc0 hI hy (ev x)
    exact vZ hI g1 g2
  · rename_i t x y hop
    simp only [hop]
    obtain ⟨S', hy, rfl⟩ := Option.map_eq_some_iff.1 h
    obtain ⟨w', g1, g2, g3⟩ := zie hI hy (ev x) (ev y)
    exact ⟨w', ρ, A, zs7 _ g1, g2, g3⟩
  · rename_i x hop
    simp only [hop]
    have hx := ev x
    split at h
    · rename_i i ix off hxv
      simp only [Option.some.injEq] at h; subst h
      rw [hxv] at hx
      have hx' := (zG rfl).1 ((zY rfl).1 hx)
      simp only [zP, List.cons.injEq, and_true] at hx'
      obtain ⟨ad, he, _⟩ := hx'
      rw [he] at hx ⊢
      exact jA hI rfl hx
    · rename_i y hxv
      simp only [Option.some.injEq] at h; subst h
      rw [hxv] at hx
      have hx' := (zD rfl).1 (jH.1 hx)
      simp only [RepC, List.cons.injEq, and_true] at hx'
      obtain ⟨ad, us, he, _⟩ := hx'
      rw [he] at hx ⊢
      exact jA hI rfl hx
    · rename_i g f c hxv
      simp only [Option.some.injEq] at h; subst h
      rw [hxv] at hx
      obtain ⟨fa, ca, he, _⟩ := zfv hx
      rw [he] at hx ⊢
      exact jA hI rfl hx
    · cases h
  · rename_i op t x y g hop
    simp only [hop]
    obtain ⟨z, hz, rfl⟩ := Option.map_eq_some_iff.1 h
    obtain ⟨v, g1, g2⟩ := zov x y hz (ev x) (ev y)
    exact vZ hI g1 g2
  · rename_i op t x hop
    simp only [hop]
    obtain ⟨z, hz, rfl⟩ := Option.map_eq_some_iff.1 h
    obtain ⟨v, g1, g2⟩ := zrv hz (ev x)
    exact vZ hI g1 g2
  · rename_i src dst x hop
    simp only [hop]
    obtain ⟨⟨z, c⟩, hz, rfl⟩ := Option.map_eq_some_iff.1 h
    obtain ⟨v, w', A', g1, g2, g3, g4⟩ := zbn hI hz (ev x)
    exact ⟨v, w', ρ, A', wT _ g1, g2, g3, zT g4⟩
  · rename_i t x hop
    simp only [hop]
    split at h
    · cases h
    · rename_i td hne hu
      split at h
      · rename_i hone
        simp only [Option.some.injEq] at h; subst h
        have hx := (zY hone).1 (ev x)
        refine vZ hI (u := .iface t (a.eval x)) ?_ ((zG rfl).2 ?_)
        · cases td <;> first | (simp [Instr.makeInterface, run_underlying hu]; done) | exact (hne _ rfl).elim
        · simp only [zP]
          exact ⟨_, rfl, hx⟩
      · cases h
    · cases h
  · rename_i fn first caps hop
    simp only [hop]
    split at h
    · rename_i hc
      simp only [Bool.and_eq_true] at hc
      simp only [Option.some.injEq] at h; subst h
      refine vZ hI (u := .func fn (first.map a.eval) (caps.map a.eval)) rfl ((zG rfl).2 ?_)
      simp only [zP]
      refine ⟨_, _, rfl, ?_, ?_⟩
      · simpa using z49 (z0z hT first.toList hc.1)
      · simpa using z49 (z0z hT caps.toList hc.2)
    · cases h
  · rename_i t r' hop
    simp only [hop]
    split at h
    · simp only [Option.some.injEq] at h; subst h
      obtain ⟨g1, g2⟩ := hI.push (o := .mp [] 0) (w' := w.alloc (.map #[] 0)) rfl (by simp) (fun b hb => kG _ hb) rfl rfl rfl (fun hs hA => by
        simp only [ObOk]
        exact ⟨#[], jC _, by simp [jD], by simp, by simp⟩)
      refine ⟨_, _, _, A, wT _ (u := .map (some w.heap.size)) ?_, g1, g2, zT ((zG rfl).2 ?_)⟩
      · simp [Instr.makeMap]
      · simp only [zP]
        exact ⟨_, rfl, by unfold MapPl; simp⟩
    · cases h
  · rename_i t l c hop
    simp only [hop]
    obtain ⟨⟨y, S'⟩, hy, rfl⟩ := Option.map_eq_some_iff.1 h
    obtain ⟨v, w', ρ', g1, g2, g3, g4⟩ := z8z hI hy (ev l) (ev c)
    exact ⟨v, w', ρ', A, wT _ g1, g2, g3, zT g4⟩
  · rename_i t x lo hi hop
    simp only [hop]
    obtain ⟨y, hy, rfl⟩ := Option.map_eq_some_iff.1 h
    obtain ⟨v, g1, g2⟩ := zhf (ulo := lo.map a.eval) (uhi := hi.map a.eval) hI hy (ev x)
      (fun z hz => by obtain ⟨q, rfl, rfl⟩ := Option.map_eq_some_iff.1 hz; exact ⟨_, rfl, ev q⟩) (fun hz => by simpa using hz)
      (fun z hz => by obtain ⟨q, rfl, rfl⟩ := Option.map_eq_some_iff.1 hz; exact ⟨_, rfl, ev q⟩) (fun hz => by simpa using hz)
    exact vZ hI g1 g2
  · rename_i s x f hop
    simp only [hop]
    obtain ⟨y, hy, rfl⟩ := Option.map_eq_some_iff.1 h
    obtain ⟨v, g1, g2⟩ := z9b hI hy (ev x)
    exact vZ hI g1 g2
  · rename_i t x ix hop
    simp only [hop]
    obtain ⟨y, hy, rfl⟩ := Option.map_eq_some_iff.1 h
    obtain ⟨v, g1, g2⟩ := z98 hI hy (ev x) (ev ix)
    exact vZ hI g1 g2
  · rename_i s x f hop
    simp only [hop]
    obtain ⟨y, hy, rfl⟩ := Option.map_eq_some_iff.1 h
    obtain ⟨v, g1, g2⟩ := zgw hy (ev x)
    exact vZ hI g1 g2
  · rename_i t x ix hop
    simp only [hop]
    obtain ⟨y, hy, rfl⟩ := Option.map_eq_some_iff.1 h
    obtain ⟨v, g1, g2⟩ := zhz hy (ev x) (ev ix)
    exact vZ hI g1 g2
  · rename_i t x k ok hop
    simp only [hop]
    obtain ⟨y, hy, rfl⟩ := Option.map_eq_some_iff.1 h
    obtain ⟨v, g1, g2⟩ := zdz hI hy (ev x) (ev k)
    exact jA hI (wT _ g1) g2
  · rename_i t m k x hop
    simp only [hop]
    obtain ⟨S', hy, rfl⟩ := Option.map_eq_some_iff.1 h
    obtain ⟨w', g1, g2, g3⟩ := z9a hI hy (ev m) (ev k) (ev x)
    exact ⟨w', ρ, A, zs7 _ g1, g2, g3⟩
  · rename_i t m k hop
    simp only [hop]
    obtain ⟨⟨y, S'⟩, hy, rfl⟩ := Option.map_eq_some_iff.1 h
    obtain ⟨v, w', g1, g2, g3, g4⟩ := zbh hI hy (ev m) (ev k)
    exact ⟨v, w', ρ, A, wT _ g1, g2, g3, g4⟩
  · rename_i t m st x hop
    simp only [hop]
    obtain ⟨S', hy, rfl⟩ := Option.map_eq_some_iff.1 h
    obtain ⟨w', g1, g2, g3⟩ := z8q (t := t) hI hy (ev m) (ev st) (ev x)
    exact ⟨w', ρ, A, zs7 _ g1, g2, g3⟩
  · rename_i t x hop
    simp only [hop]
    have hx := ev x
    split at h
    · rename_i hu
      split at h
      · rename_i s hxv
        simp only [Option.some.injEq] at h; subst h
        rw [hxv] at hx
        have hx' := (zD rfl).1 (jH.1 hx)
        simp only [RepC, List.cons.injEq, and_true] at hx'
        obtain ⟨g1, g2⟩ := hI.push (o := .iter s 0) (w' := w.alloc (.stringIter ⟨s.toArray⟩ 0)) rfl (by simp) (fun b hb => kG _ hb) rfl rfl rfl (fun hs hA => by
          simp only [ObOk]
          exact jC _)
        refine ⟨_, _, _, A, wT _ (u := .pointer (some ⟨w.heap.size, 0, none⟩)) ?_, g1, g2, zT ((zG rfl).2 ?_)⟩
        · simp [Instr.range, run_underlying hu, hx']
        · simp only [zP]
          exact ⟨_, rfl, by unfold ItPl; simp⟩
      · cases h
    · rename_i hu
      exact zgp hI hu h hx
    · cases h
  · rename_i it hop
    simp only [hop]
    have hx := ev it
    split at h
    · rename_i id hxv
      rw [hxv] at hx
      cases ho : S[id]? with
      | none => simp [ho] at h
      | some ob =>
        cases ob with
        | iter s pos =>
          simp only [ho] at h
          have hn := zos (ty := o.type) hI ho hx
          split at h
          · rename_i hlt
            rw [if_pos hlt] at hn
            simp only [Option.some.injEq] at h; subst h
            obtain ⟨w', g1, g2, g3⟩ := hn
            refine ⟨_, w', ρ, A, wT _ g1, g2, g3, z15 ?_⟩
            simp only [qQ]
            exact ⟨_, _, rfl, jN.2 ((zD rfl).2 (by simp [RepC])), _, _, rfl, jN.2 ((zD rfl).2 (by simp [RepC, goInt])), _, _, rfl, jN.2 ((zD rfl).2 (by simp [RepC])), rfl⟩
          · rename_i hlt
            rw [if_neg hlt] at hn
            simp only [Option.some.injEq] at h; subst h
            refine jA hI (wT _ hn) (z15 ?_)
            simp only [qQ]
            exact ⟨_, _, rfl, jN.2 ((zD rfl).2 (by simp [RepC])), rfl⟩
        | _ => simp [ho] at h
    · cases h
  · rename_i it hop
    simp only [hop]
    exact zjl hI h (ev it)
  · rename_i it hop
    simp only [hop]
    exact zi6 hI h (ev it)
  · rename_i t ix hop
    simp only [hop]
    have hx := ev t
    split at h
    · rename_i vs hxv
      rw [hxv] at hx
      obtain ⟨us, hus, hr⟩ := hx
      split at h
      · rename_i v hv
        simp only [Option.some.injEq] at h; subst h
        obtain ⟨u, hu, hvr⟩ := z5c (z5s hr) ix v hv
        have hu' : us[ix]? = some u := by simpa using hu
        exact jA hI (wT _ (u := u) (by simp [Instr.extract, hus, hu'])) hvr
      · cases h
    · cases h
  · rename_i c hop
    simp only [hop]
    split at h
    · rename_i b hcal
      have := fun cs => zbm (ty := o.type) (cs := cs) (us := c.args.map a.eval) hI h (by simpa using zg2 hT c.args.toList)
      simp [resolve, hcal, invoke]
      exact this _
    · rename_i f hcal
      have hf := ev f
      split at h
      · rename_i g first caps hfv
        rw [hfv] at hf
        obtain ⟨fa, ca, he, h1, h2⟩ := zfv hf
        split at h
        · rename_i hc
          simp only [Bool.and_eq_true] at hc
          simp only [Option.some.injEq] at h; subst h
          refine ⟨fa ++ c.args.map a.eval ++ ca, ?_, ?_⟩
          · simp [resolve, hcal, Deferred.ofValue, he, invoke, z2y hc.2]
          · simpa using kI (kI h1 (z0z hT c.args.toList hc.1)) h2
        · cases h
      · rename_i g first caps hfv
        rw [hfv] at hf
        obtain ⟨fa, ca, he, h1, h2⟩ := zrj hf
        split at h
        · rename_i hc
          simp only [Bool.and_eq_true] at hc
          simp only [Option.some.injEq] at h; subst h
          refine ⟨fa ++ c.args.map a.eval ++ ca, ?_, ?_⟩
          · simp [resolve, hcal, Deferred.ofValue, he, invoke, z2y hc.2]
          · simpa using kI (kI h1 (z0z hT c.args.toList hc.1)) h2
        · cases h
      · cases h
    · cases h
  · rename_i c hop
    simp only [hop]
    split at h
    · rename_i f hcal
      have hf := ev f
      split at h
      · rename_i g first caps hfv
        rw [hfv] at hf
        obtain ⟨fa, ca, he, h1, h2⟩ := zfv hf
        split at h
        · rename_i hc
          simp only [Bool.and_eq_true] at hc
          simp only [Option.some.injEq] at h; subst h
          refine ⟨⟨.fn (.func g) ca, fa ++ c.args.map a.eval⟩, .func g, ca, fa ++ c.args.map a.eval ++ ca, ?_, rfl, fun w2 => ?_, ?_⟩
          · simp [resolve, hcal, Deferred.ofValue, he]
          · simp [invoke, z2y hc.2]
          · simpa using kI (kI h1 (z0z hT c.args.toList hc.1)) h2
        · cases h
      · cases h
    · cases h
  · rename_i x hop
    simp only [hop]
    have hx := ev x
    split at h
    · rename_i t v hxv
      simp only [Option.some.injEq] at h; subst h
      rw [hxv] at hx
      have hw := (zY rfl).1 hx
      have hx' := (zG rfl).1 hw
      simp only [zP, List.cons.injEq, and_true] at hx'
      obtain ⟨u, he, _⟩ := hx'
      refine ⟨a.eval x, ?_, hw⟩
      simp [he, Instr.panic, goPanic, Sem.run]
    · rename_i t v hxv
      simp only [Option.some.injEq] at h; subst h
      rw [hxv] at hx
      have hw := (zY rfl).1 hx
      have hx' := (zD rfl).1 (jN.1 hw)
      simp only [RepC, List.cons.injEq, and_true] at hx'
      obtain ⟨u, he, _⟩ := hx'
      refine ⟨a.eval x, ?_, hw⟩
      simp [he, Instr.panic, goPanic, Sem.run]
    · cases h
  · cases h
end
end Go.Vm
end
