/- The value machine: what single operations come to. Eighth part: conversions, maps, texts gone through. -/
import Derived.Test.YtljefklfoieecaaVmN
import Derived.Lib.ConvBytes
set_option linter.unusedVariables false
set_option linter.unusedSimpArgs false
namespace Go.Vm
section
variable {P : Program} {S : Store} {ρ : Nat → Nat} {A : Nat → Prop} {w w' : World}

theorem bytesD_rep : ∀ {ys : List V} {s : List UInt8} {k : Nat} {us : List Value}, bytesD ys = some s → RepVE P S ρ A w k ys us → ∃ ns : List Int, us = ns.map (Value.int .u8) ∧ s = ns.map (fun n => UInt8.ofNat n.toNat) ∧ (ys ≠ [] → k = 1)
  | [], s, k, us, h, hr => by
    simp only [bytesD, Option.some.injEq] at h; subst h
    simp only [RepVE] at hr; subst hr
    exact ⟨[], rfl, rfl, fun h => absurd rfl h⟩
  | y :: r, s, k, us, h, hr => by
    simp only [RepVE] at hr
    obtain ⟨u1, u2, rfl, h2, h3, h4⟩ := hr
    unfold bytesD at h
    split at h
    · rename_i heq; cases heq
    · rename_i n r' heq
      cases heq
      cases hb : bytesD r with
      | none => simp [hb] at h
      | some s' =>
        simp only [hb, Option.some.injEq] at h; subst h
        simp only [RepVC, RepC] at h3
        subst h3
        obtain ⟨ns, rfl, rfl, _⟩ := bytesD_rep hb h4
        exact ⟨n :: ns, rfl, rfl, fun _ => h2.symm⟩
    · cases h
theorem fold_push : ∀ (ns : List Int) (b : ByteArray), ns.foldl (fun r n => r.push (UInt8.ofNat n.toNat)) b = ⟨(b.data.toList ++ ns.map (fun n => UInt8.ofNat n.toNat)).toArray⟩
  | [], b => by cases b; simp
  | n :: r, b => by
    simp only [List.foldl_cons]
    rw [fold_push r]
    cases b
    simp [ByteArray.push]
theorem convertV_run (hI : Inv P S ρ A w) {src dst : TypeId} {x y : V} {c : Nat} {u : Value} (h : convertV P S src dst x = some (y, c)) (hx : RepV P S ρ A w x u) :
    ∃ v w' A', (convert src dst u).run P w = .ok v w' ∧ Inv P S ρ A' w' ∧ Step S ρ A w S ρ A' w' ∧ RepW P S ρ A' w' y v := by
  unfold convertV at h
  split at h
  · rename_i d k k' n hs hd
    simp only [Option.some.injEq, Prod.mk.injEq] at h
    obtain ⟨rfl, rfl⟩ := h
    rw [rep_int hx]
    exact ⟨_, w, A, by simp [convert, run_underlying hs, run_underlying hd, Conv.intToInt], hI, .refl, mk_int⟩
  · rename_i d s hs hd
    simp only [Option.some.injEq, Prod.mk.injEq] at h
    obtain ⟨rfl, rfl⟩ := h
    rw [rep_str hx]
    exact ⟨_, w, A, by simp [convert, run_underlying hs, run_underlying hd], hI, .refl, mk_str⟩
  · rename_i d e s hs hd
    split at h
    · rename_i he
      split at h
      · simp only [Option.some.injEq, Prod.mk.injEq] at h
        obtain ⟨rfl, rfl⟩ := h
        rw [rep_str hx]
        have hsz : (⟨s.toArray⟩ : ByteArray).size = s.length := by simp [ByteArray.size]
        have hrun := Lib.run_convert_string_bytes w src dst e ⟨s.toArray⟩ hs hd he
        have hnew := Lib.bytesWorld_at_new w e ⟨s.toArray⟩
        have hge := grownCap_ge w s.length 0 e
        obtain ⟨g1, g2⟩ := hI.fresh (w' := Lib.bytesWorld w e ⟨s.toArray⟩) (Lib.bytesWorld_size w e _) (fun b hb => Lib.bytesWorld_at_old w e _ b hb) rfl rfl rfl
        refine ⟨_, _, _, hrun, g1, g2, repW_d.2 ((repX_leaf rfl).2 ?_)⟩
        simp only [RepC, List.length_map, hsz]
        refine ⟨_, _, rfl, hge, .inr ⟨_, 1, s.map fun b => .int .u8 b.toNat, rfl, rfl, .inr rfl, ⟨_, _, _, hnew, fun i v hv => ?_⟩, ?_⟩⟩
        · have hi : i < s.length := by
            rcases Nat.lt_or_ge i s.length with h' | h'
            · exact h'
            · simp [h'] at hv
          simp only [Nat.zero_add, Lib.bytesCells]
          rw [Array.getElem?_append_left (by simpa using hi)]
          simpa using hv
        · have : ∀ (B : Nat → Prop) (w2 : World) (l : List UInt8), RepE B w2 1 (l.map fun b => D.int .u8 b.toNat) (l.map fun b => Value.int .u8 b.toNat) := fun B w2 l => by
            induction l with
            | nil => simp [RepE]
            | cons b r ih => simp only [List.map_cons, RepE]; exact ⟨[.int .u8 b.toNat], _, rfl, rfl, by simp [RepC], ih⟩
          exact this _ _ s
      · cases h
    · cases h
  · rename_i x _ _ _ e hs hd _
    split at h
    · rename_i he
      split at h
      · cases h
      · rename_i hns
        cases hel : elemsV S x with
        | none => simp [hel] at h
        | some ys =>
          simp only [hel] at h
          obtain ⟨s, hs', heq⟩ := Option.map_eq_some_iff.1 h
          simp only [Prod.mk.injEq] at heq
          obtain ⟨rfl, rfl⟩ := heq
          rcases elemsV_rep hI hel hx with ⟨s2, rfl, _⟩ | ⟨a, cap, k, us, rfl, hcap, hE, hc⟩
          · exact absurd rfl (hns s2)
          · obtain ⟨ns, rfl, rfl, hk⟩ := bytesD_rep hs' hE
            refine ⟨_, w, A, ?_, hI, .refl, mk_str⟩
            rw [run_convert_bytes_string w src dst e a _ _ hs he hd]
            cases ys with
            | nil =>
              simp only [RepVE, List.map_eq_nil_iff] at hE; subst hE
              cases a with
              | none => rfl
              | some a =>
                show (Conv.bytesToString (.slice (some a) 0 cap)).run P w = _
                rw [run_bytesToString w a 0 cap [] (by simp [loadCells, loadCellsFrom])]
                rfl
            | cons y r =>
              have := hk (by simp); subst this
              have hl := repVE_length hE
              simp only [List.length_map, Nat.mul_one] at hl
              rcases hc with hc | ⟨b, off, rfl, hc⟩
              · cases hc
              · rw [run_bytesToString w _ _ cap ns (by rw [← hl]; simpa using run_loadCells_list (P := P) w ⟨b, off, none⟩ (ns.map (Value.int .u8)) (fun j v hv => hc.cell hv))]
                rw [fold_push]; rfl
    · cases h
  · cases h
end
end Go.Vm
