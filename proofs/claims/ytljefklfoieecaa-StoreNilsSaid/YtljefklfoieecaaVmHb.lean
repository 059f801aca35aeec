/- The value machine: what ran with a hole in the store runs the same with any object in its place, and leaves it. Operations, freezing, calls. -/
import Derived.Test.YtljefklfoieecaaVmHa
import Derived.Test.YtljefklfoieecaaVmG
set_option linter.unusedVariables false
set_option linter.unusedSimpArgs false
namespace Go.Vm

def Rs.upd (id : Nat) (ob : Ob) : Rs → Rs
  | .val v S c => .val v (S.set id ob) c
  | .skip S c => .skip (S.set id ob) c
  | .enter f as => .enter f as
  | .dfr f as => .dfr f as
  | .pan v => .pan v
def Rs.hol (id : Nat) : Rs → Prop
  | .val _ S _ => S[id]? = some .hole
  | .skip S _ => S[id]? = some .hole
  | _ => True
section
variable {P : Program} {S : Store} {id : Nat}

theorem mapV_hole {f g : Option V} {r : Rs} {ob : Ob} {c : Nat} (hS : S[id]? = some .hole) (hfg : ∀ v, f = some v → g = some v) (h : (f.map fun v => Rs.val v S c) = some r) : (g.map fun v => Rs.val v (S.set id ob) c) = some (r.upd id ob) ∧ r.hol id := by
  obtain ⟨v, hv, rfl⟩ := Option.map_eq_some_iff.1 h
  rw [hfg v hv]
  exact ⟨rfl, hS⟩
theorem mapS_hole {f g : Option Store} {r : Rs} {ob : Ob} {c : Nat} (hfg : ∀ S', f = some S' → g = some (S'.set id ob) ∧ S'[id]? = some .hole) (h : (f.map fun S' => Rs.skip S' c) = some r) : (g.map fun S' => Rs.skip S' c) = some (r.upd id ob) ∧ r.hol id := by
  obtain ⟨v, hv, rfl⟩ := Option.map_eq_some_iff.1 h
  obtain ⟨g1, g2⟩ := hfg v hv
  rw [g1]
  exact ⟨rfl, g2⟩
theorem mapVS_hole {f g : Option (V × Store)} {r : Rs} {ob : Ob} {c : Nat} (hfg : ∀ v S', f = some (v, S') → g = some (v, S'.set id ob) ∧ S'[id]? = some .hole) (h : (f.map fun r => Rs.val r.1 r.2 c) = some r) : (g.map fun r => Rs.val r.1 r.2 c) = some (r.upd id ob) ∧ r.hol id := by
  obtain ⟨⟨v, S'⟩, hv, rfl⟩ := Option.map_eq_some_iff.1 h
  obtain ⟨g1, g2⟩ := hfg v S' hv
  rw [g1]
  exact ⟨rfl, g2⟩
theorem val_hole {r : Rs} {v : V} {c : Nat} {ob : Ob} (hS : S[id]? = some .hole) (h : some (Rs.val v S c) = some r) : some (Rs.val v (S.set id ob) c) = some (r.upd id ob) ∧ r.hol id := by
  simp only [Option.some.injEq] at h; subst h; exact ⟨rfl, hS⟩

theorem builtinV_hole {b : Builtin} {ts : List TypeId} {xs : List V} {r : Rs} (ob : Ob) (hS : S[id]? = some .hole) (h : builtinV P S b ts xs = some r) : builtinV P (S.set id ob) b ts xs = some (r.upd id ob) ∧ r.hol id := by
  unfold builtinV at h ⊢
  split at h
  · rename_i t ts' x
    cases hu : P.underlying t with
    | none => simp [hu] at h
    | some td =>
      simp only [hu] at h
      cases td <;> simp only [reduceCtorEq] at h ⊢ <;> first | exact val_hole hS h | skip
      · split at h <;> first | exact val_hole hS h | cases h
      · split at h <;> first | exact val_hole hS h | cases h
      · split at h
        · rename_i es he
          simp only [entriesV_hole ob hS he]
          exact val_hole hS h
        · cases h
  · rename_i t tx s x
    obtain ⟨⟨v, S', c⟩, hv, rfl⟩ := Option.map_eq_some_iff.1 h
    obtain ⟨g1, g2⟩ := appendV_hole ob hS hv
    simp only [g1]
    exact ⟨rfl, g2⟩
  · exact mapVS_hole (fun v S' hv => copyV_hole ob hS hv) h
  · obtain ⟨S', hv, rfl⟩ := Option.map_eq_some_iff.1 h
    obtain ⟨g1, g2⟩ := deleteV_hole ob hS hv
    simp only [g1]
    exact ⟨rfl, g2⟩
  · exact mapV_hole hS (fun v hv => hv) h
  · exact mapV_hole hS (fun v hv => hv) h
  · cases h

theorem opV_hole {T : List V} {o : Oper} {r : Rs} (ob : Ob) (hS : S[id]? = some .hole) (h : opV P S T o = some r) : opV P (S.set id ob) T o = some (r.upd id ob) ∧ r.hol id := by
  unfold opV at h ⊢
  split at h
  · exact val_hole hS h
  · exact val_hole hS h
  · split at h <;> first | exact val_hole hS h | cases h
  · split at h
    · split at h
      · rename_i z hz hf
        simp only [Option.some.injEq] at h; subst h
        have g := fun x => app_hole ob x hS
        simp only [List.length_set, fun x => (g x).1, if_pos hf]
        exact ⟨rfl, (g _).2⟩
      · cases h
    · cases h
  · split at h
    · rename_i hf
      simp only [Option.some.injEq] at h; subst h
      have g := fun x => app_hole ob x hS
      simp only [List.length_set, fun x => (g x).1, if_pos hf]
      exact ⟨rfl, (g _).2⟩
    · cases h
  · exact mapV_hole hS (fun v hv => hv) h
  · split at h
    · split at h
      · split at h
        · rename_i hc
          split at h
          · rename_i ds hds
            simp only [if_pos hc]
            exact val_hole hS h
          · simp only [Option.some.injEq] at h; subst h
            have g := fun x => app_hole ob x hS
            simp only [List.length_set, fun x => (g x).1, if_pos hc]
            exact ⟨rfl, (g _).2⟩
        · cases h
      · cases h
    · cases h
  · exact mapV_hole hS (fun v hv => loadV_hole ob hS hv) h
  · exact mapS_hole (fun S' hv => storeV_hole ob hS hv) h
  · split at h <;> first | exact val_hole hS h | cases h
  · exact mapV_hole hS (fun v hv => hv) h
  · exact mapV_hole hS (fun v hv => hv) h
  · obtain ⟨⟨v, c⟩, hv, rfl⟩ := Option.map_eq_some_iff.1 h
    simp only [convertV_hole ob hS hv]
    exact ⟨rfl, hS⟩
  · split at h
    · cases h
    · split at h
      · rename_i hc
        simp only [if_pos hc]
        exact val_hole hS h
      · cases h
    · cases h
  · split at h
    · rename_i hc
      simp only [if_pos hc]
      exact val_hole hS h
    · cases h
  · split at h
    · simp only [Option.some.injEq] at h; subst h
      obtain ⟨g1, g2⟩ := app_hole ob (.mp [] 0) hS
      simp only [List.length_set, g1]
      exact ⟨rfl, g2⟩
    · cases h
  · exact mapVS_hole (fun v S' hv => makeSliceV_hole ob hS hv) h
  · exact mapV_hole hS (fun v hv => sliceV_hole ob hS hv) h
  · exact mapV_hole hS (fun v hv => hv) h
  · exact mapV_hole hS (fun v hv => indexAddrV_hole ob hS hv) h
  · exact mapV_hole hS (fun v hv => hv) h
  · exact mapV_hole hS (fun v hv => hv) h
  · exact mapV_hole hS (fun v hv => lookupV_hole ob hS hv) h
  · exact mapS_hole (fun S' hv => mapUpdateV_hole ob hS hv) h
  · exact mapVS_hole (fun v S' hv => mapEntryV_hole ob hS hv) h
  · exact mapS_hole (fun S' hv => entryStoreV_hole ob hS hv) h
  · split at h
    · split at h
      · simp only [Option.some.injEq] at h; subst h
        have g := fun x => app_hole ob x hS
        simp only [List.length_set, fun x => (g x).1]
        exact ⟨rfl, (g _).2⟩
      · cases h
    · cases h
  · split at h
    · rename_i j hit
      cases ho : S[j]? with
      | none => simp [ho] at h
      | some o' =>
        by_cases hne : o' = .hole
        · subst hne; simp [ho] at h
        · simp only [ho] at h
          simp only [get_hole ob hS ho hne]
          cases o' with
          | iter s pos =>
            simp only at h ⊢
            split at h
            · rename_i hlt
              simp only [if_pos hlt]
              simp only [Option.some.injEq] at h; subst h
              obtain ⟨g1, g2⟩ := set_hole ob (.iter s (pos + (Utf8.decode ⟨s.toArray⟩ pos).2)) hS ho hne
              exact ⟨by simp only [Rs.upd, g1], g2⟩
            · rename_i hlt
              simp only [if_neg hlt]
              exact val_hole hS h
          | _ => simp at h
    · cases h
  · split at h
    · split at h
      · exact val_hole hS h
      · cases h
    · cases h
  · split at h
    · exact builtinV_hole ob hS h
    · split at h
      · split at h
        · rename_i hc
          simp only [if_pos hc]
          simp only [Option.some.injEq] at h; subst h; exact ⟨rfl, trivial⟩
        · cases h
      · split at h
        · rename_i hc
          simp only [if_pos hc]
          simp only [Option.some.injEq] at h; subst h; exact ⟨rfl, trivial⟩
        · cases h
      · cases h
    · cases h
  · split at h
    · split at h
      · split at h
        · rename_i hc
          simp only [if_pos hc]
          simp only [Option.some.injEq] at h; subst h; exact ⟨rfl, trivial⟩
        · cases h
      · cases h
    · cases h
  · split at h <;> first | (simp only [Option.some.injEq] at h; subst h; exact ⟨rfl, trivial⟩) | cases h
  · cases h

theorem allO_congr' {α β : Type} {f g : α → Option β} : ∀ {xs : List α} {ys : List β}, (∀ x ∈ xs, ∀ y, f x = some y → g x = some y) → allO f xs = some ys → allO g xs = some ys
  | [], ys, _, h => h
  | x :: r, ys, hfg, h => by
    obtain ⟨y, zs, h1, h2, rfl⟩ := allO_cons h
    simp only [allO, hfg x (by simp) y h1, allO_congr' (fun x hx => hfg x (by simp [hx])) h2]
theorem allO_mem' {α β : Type} {f : α → Option β} {xs : List α} {ys : List β} (h : allO f xs = some ys) {x : α} (hx : x ∈ xs) : ∃ y, f x = some y := by
  obtain ⟨i, hi⟩ := List.getElem?_of_mem hx
  obtain ⟨y, hy, _⟩ := (allO_some h).2 i x hi
  exact ⟨y, hy⟩
theorem flatMap_congr' {α β : Type} {f g : α → List β} : ∀ {xs : List α}, (∀ x ∈ xs, f x = g x) → xs.flatMap f = xs.flatMap g
  | [], _ => rfl
  | x :: r, h => by
    rw [List.flatMap_cons, List.flatMap_cons, h x (by simp), flatMap_congr' (xs := r) (fun y hy => h y (List.mem_cons_of_mem _ hy))]
/-- Freezing does not look at the hole. -/
theorem frz_hole (ob : Ob) (hS : S[id]? = some .hole) : ∀ (n : Nat) (v : V) (x : D), frz S n v = some x → frz (S.set id ob) n v = some x ∧ frzIds (S.set id ob) n v = frzIds S n v := by
  intro n
  induction n with
  | zero => intro v x h; simp [frz] at h
  | succ n ih =>
    intro v x h
    have many : ∀ {xs : List V} {ds : List D}, allO (frz S n) xs = some ds → allO (frz (S.set id ob) n) xs = some ds ∧ xs.flatMap (frzIds (S.set id ob) n) = xs.flatMap (frzIds S n) := fun h =>
      ⟨allO_congr' (fun x _ y hy => (ih x y hy).1) h, flatMap_congr' fun x hx => by obtain ⟨y, hy⟩ := allO_mem' h hx; exact (ih x y hy).2⟩
    have manyM : ∀ {es : List (D × V × Nat)} {ds : List (D × D)}, allO (fun (e : D × V × Nat) => (frz S n e.2.1).map fun x => (e.1, x)) es = some ds → allO (fun (e : D × V × Nat) => (frz (S.set id ob) n e.2.1).map fun x => (e.1, x)) es = some ds ∧ (es.flatMap fun e => frzIds (S.set id ob) n e.2.1) = es.flatMap fun e => frzIds S n e.2.1 := fun h =>
      ⟨allO_congr' (fun x _ y hy => by
        obtain ⟨z, hz, rfl⟩ := Option.map_eq_some_iff.1 hy
        rw [(ih _ _ hz).1]; rfl) h, flatMap_congr' fun x hx => by
          obtain ⟨y, hy⟩ := allO_mem' h hx
          obtain ⟨z, hz, _⟩ := Option.map_eq_some_iff.1 hy
          exact (ih _ _ hz).2⟩
    cases v with
    | d y => exact ⟨h, rfl⟩
    | ts xs => exact ⟨h, rfl⟩
    | agg xs =>
      simp only [frz, frzIds] at h ⊢
      cases ha : allO (frz S n) xs with
      | none => simp [ha] at h
      | some ds => simp only [ha] at h; simp only [(many ha).1]; exact ⟨h, (many ha).2⟩
    | iface t v =>
      simp only [frz, frzIds] at h ⊢
      obtain ⟨z, hz, rfl⟩ := Option.map_eq_some_iff.1 h
      rw [(ih _ _ hz).1]; exact ⟨rfl, (ih _ _ hz).2⟩
    | rs j off len =>
      simp only [frz, frzIds] at h ⊢
      cases ho : S[j]? with
      | none => simp [ho] at h
      | some o =>
        by_cases hne : o = .hole
        · subst hne; simp [ho] at h
        · simp only [ho] at h
          simp only [get_hole ob hS ho hne]
          cases o with
          | row xs e =>
            simp only at h ⊢
            split at h
            · rename_i hc
              simp only [Bool.and_eq_true, decide_eq_true_eq] at hc
              obtain ⟨hc1, hc2⟩ := hc
              obtain ⟨ds, hds⟩ := Option.isSome_iff_exists.1 hc2
              obtain ⟨z, hz, rfl⟩ := Option.map_eq_some_iff.1 h
              simp only [(many hds).1, (many hz).1, hc1, decide_true, Option.isSome_some, Bool.and_self, if_true]
              exact ⟨rfl, by rw [(many hds).2]⟩
            · cases h
          | fz xs e => exact ⟨h, rfl⟩
          | _ => simp at h
    | cs j ix off len =>
      simp only [frz, frzIds] at h ⊢
      cases ho : S[j]? with
      | none => simp [ho] at h
      | some o =>
        by_cases hne : o = .hole
        · subst hne; simp [ho] at h
        · simp only [ho] at h
          simp only [get_hole ob hS ho hne]
          cases o with
          | row xs e =>
            simp only at h ⊢
            split at h
            · rename_i y hy
              split at h
              · rename_i hc
                simp only [Bool.and_eq_true, decide_eq_true_eq] at hc
                obtain ⟨ds, hds⟩ := Option.isSome_iff_exists.1 hc.2
                try simp only [hy]
                simp only [(many hds).1, hc.1.1, hc.1.2, decide_true, Option.isSome_some, Bool.and_self, if_true]
                exact ⟨h, by rw [(many hds).2]⟩
              · cases h
            · cases h
          | fz xs e => exact ⟨h, rfl⟩
          | _ => simp at h
    | ref j ix off =>
      cases off with
      | succ _ => simp [frz] at h
      | zero =>
        simp only [frz, frzIds] at h ⊢
        cases ho : S[j]? with
        | none => simp [ho] at h
        | some o =>
          by_cases hne : o = .hole
          · subst hne; simp [ho] at h
          · simp only [ho] at h
            simp only [get_hole ob hS ho hne]
            cases o with
            | row xs e =>
              simp only at h ⊢
              split at h
              · rename_i y hy
                split at h
                · rename_i hc
                  obtain ⟨ds, hds⟩ := Option.isSome_iff_exists.1 hc
                  obtain ⟨z, hz, rfl⟩ := Option.map_eq_some_iff.1 h
                  try simp only [hy]
                  simp only [(many hds).1, (ih _ _ hz).1, Option.isSome_some, if_true]
                  exact ⟨rfl, by rw [(many hds).2]⟩
                · cases h
              · cases h
            | fz xs e => exact ⟨h, rfl⟩
            | _ => simp at h
    | fn f a b =>
      simp only [frz, frzIds] at h ⊢
      cases ha : allO (frz S n) a with
      | none => simp [ha] at h
      | some da =>
        cases hb : allO (frz S n) b with
        | none => simp [ha, hb] at h
        | some db =>
          simp only [ha, hb] at h
          simp only [(many ha).1, (many hb).1, (many ha).2, (many hb).2]
          exact ⟨h, trivial⟩
    | mr j =>
      simp only [frz, frzIds] at h ⊢
      cases ho : S[j]? with
      | none => simp [ho] at h
      | some o =>
        by_cases hne : o = .hole
        · subst hne; simp [ho] at h
        · simp only [ho] at h
          simp only [get_hole ob hS ho hne]
          cases o with
          | mp es c =>
            simp only at h ⊢
            obtain ⟨z, hz, rfl⟩ := Option.map_eq_some_iff.1 h
            rw [(manyM hz).1]
            exact ⟨rfl, by rw [(manyM hz).2]⟩
          | fm es => exact ⟨h, rfl⟩
          | _ => simp at h
    | it id => simp [frz] at h
    | tup xs => simp [frz] at h
    | junk => simp [frz] at h
theorem frzOb_hole {o o' : Ob} (ob : Ob) (hS : S[id]? = some .hole) (h : frzOb S o = some o') : frzOb (S.set id ob) o = some o' ∧ obIds (S.set id ob) o = obIds S o := by
  cases o with
  | row xs e =>
    simp only [frzOb, obIds] at h ⊢
    obtain ⟨ds, hds, rfl⟩ := Option.map_eq_some_iff.1 h
    rw [allO_congr' (fun x _ y hy => (frz_hole ob hS _ x y hy).1) hds]
    exact ⟨rfl, flatMap_congr' fun x hx => by obtain ⟨y, hy⟩ := allO_mem' hds hx; exact (frz_hole ob hS _ x y hy).2⟩
  | mp es c =>
    simp only [frzOb, obIds] at h ⊢
    obtain ⟨ds, hds, rfl⟩ := Option.map_eq_some_iff.1 h
    rw [allO_congr' (fun x _ y hy => by
      obtain ⟨z, hz, rfl⟩ := Option.map_eq_some_iff.1 hy
      rw [(frz_hole ob hS _ _ _ hz).1]; rfl) hds]
    exact ⟨rfl, flatMap_congr' fun x hx => by
      obtain ⟨y, hy⟩ := allO_mem' hds hx
      obtain ⟨z, hz, _⟩ := Option.map_eq_some_iff.1 hy
      exact (frz_hole ob hS _ _ _ hz).2⟩
  | iter s p => simp [frzOb] at h
  | fz xs e => exact ⟨h, rfl⟩
  | fm es => exact ⟨h, rfl⟩
  | dead => exact ⟨h, rfl⟩
  | hole => exact ⟨h, rfl⟩
theorem mark_hole {all : List Nat} (ob : Ob) (hS : S[id]? = some .hole) : ∀ {ids : List Nat} {S1 S2 : Store}, (∀ i ∈ ids, i ≠ id) → S1[id]? = some .hole → mark S all S1 ids = some S2 → mark (S.set id ob) all (S1.set id ob) ids = some (S2.set id ob) ∧ S2[id]? = some .hole
  | [], S1, S2, _, h1, h => by
    simp only [mark, Option.some.injEq] at h ⊢; subst h
    exact ⟨rfl, h1⟩
  | i :: r, S1, S2, hne, h1, h => by
    have hi := hne i (by simp)
    simp only [mark] at h ⊢
    rw [List.getElem?_set_ne (Ne.symm hi)]
    cases ho : S[i]? with
    | none => simp [ho] at h
    | some o =>
      simp only [ho] at h ⊢
      cases hf : frzOb S o with
      | none => simp [hf] at h
      | some o' =>
        obtain ⟨g1, g2⟩ := frzOb_hole ob hS hf
        simp only [hf] at h
        simp only [g1, g2]
        split at h
        · rename_i hc
          rw [if_pos hc, List.set_comm _ _ (Ne.symm hi)]
          exact mark_hole ob hS (fun j hj => hne j (by simp [hj])) (by rw [List.getElem?_set_ne hi]; exact h1) h
        · cases h

def CallHole (call : CallF) : Prop := ∀ f args S o S' id ob, call f args S = some (o, S') → S[id]? = some .hole → call f args (S.set id ob) = some (o, S'.set id ob) ∧ S'[id]? = some .hole
theorem callV_hole {C : Cfg} {call : CallF} (hcall : CallHole call) {f : FuncId} {args : List V} {o : Out} {S' : Store} {c : Nat} (ob : Ob) (hS : S[id]? = some .hole) (h : callV C call f args S = some (o, S', c)) : callV C call f args (S.set id ob) = some (o, S'.set id ob, c) ∧ S'[id]? = some .hole := by
  unfold callV at h ⊢
  split at h
  · rename_i hsh
    rw [if_pos hsh]
    obtain ⟨⟨o', S2⟩, h1, h2⟩ := Option.map_eq_some_iff.1 h
    simp only [Prod.mk.injEq] at h2
    obtain ⟨rfl, rfl, rfl⟩ := h2
    obtain ⟨g1, g2⟩ := hcall f args S _ _ id ob h1 hS
    rw [g1]
    exact ⟨rfl, g2⟩
  · rename_i hsh
    rw [if_neg hsh]
    split at h
    · cases h
    · rename_i ds hds
      have g1 := allO_congr' (fun x _ y hy => (frz_hole ob hS _ x y hy).1) hds
      have g2 : args.flatMap (frzIds (S.set id ob) frzFuel) = args.flatMap (frzIds S frzFuel) := flatMap_congr' fun x hx => by obtain ⟨y, hy⟩ := allO_mem' hds hx; exact (frz_hole ob hS _ x y hy).2
      simp only [g1, g2]
      cases ha : answer C call f ds with
      | none => simp [ha] at h
      | some out =>
        simp only [ha] at h ⊢
        split at h
        · rename_i hc
          rw [if_pos hc]
          simp only [Option.some.injEq, Prod.mk.injEq] at h; obtain ⟨rfl, rfl, rfl⟩ := h
          exact ⟨rfl, hS⟩
        · rename_i hc
          rw [if_neg hc]
          split at h
          · rename_i hp
            rw [if_pos hp]
            simp only [Option.some.injEq, Prod.mk.injEq] at h; obtain ⟨rfl, rfl, rfl⟩ := h
            exact ⟨rfl, hS⟩
          · rename_i hp
            rw [if_neg hp]
            split at h
            · rename_i S2 hm
              simp only [Option.some.injEq, Prod.mk.injEq] at h; obtain ⟨rfl, rfl, rfl⟩ := h
              obtain ⟨g3, g4⟩ := mark_hole ob hS (fun i hi => by
                rintro rfl
                obtain ⟨v, _, hv⟩ := List.mem_flatMap.1 hi
                obtain ⟨o, ho, hl, _⟩ := frzIds_kind hv
                rw [hS] at ho; cases ho; cases hl) hS hm
              rw [g3]
              exact ⟨rfl, g4⟩
            · cases h
end
end Go.Vm
