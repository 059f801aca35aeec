/- ScriptJoins: the texts of two scripts by the program's script page, one behind the other, are that of both, and are read as both; one that is cut within a line is none. The row's condition (laid) gives the library's tables and errors. -/
import Derived.Test.YteapjcgeckpknaaDoorRows
import Derived.Test.YteapjcgeckpknaaDoorJ10
import Derived.Test.YteapjcgeckpknaaDoorTie
import Derived.Test.YteapjcgeckpknaaDoorCards
import Derived.SevenTiedAt
namespace Go.Proofs.YteapjcgeckpknaaDoor
open Go.ChangeShapes Go.WideShapes Go.ChangeAt Go.RowKit Go.Vm
theorem len3' {α : Type} {l : List α} (h : l.length = 3) : ∃ a b c, l = [a, b, c] := by
  match l, h with
  | [a, b, c], _ => exact ⟨a, b, c, rfl⟩
theorem u8_of {xs : List D} (h : ∀ y ∈ xs, HasTy (.int .u8) y) : ∃ l : List UInt8, xs = l.map fun b => .int .u8 b.toNat := by
  induction xs with
  | nil => exact ⟨[], rfl⟩
  | cons x r ih =>
    obtain ⟨l, rfl⟩ := ih fun y hy => h y (by simp [hy])
    have hx := h x (by simp)
    simp only [HasTy] at hx
    obtain ⟨n, rfl, h1, h2⟩ := hx
    have h1 : 0 ≤ n := h1
    have h2 : n ≤ 255 := h2
    refine ⟨UInt8.ofNat n.toNat :: l, ?_⟩
    have : ((UInt8.ofNat n.toNat).toNat : Int) = n := by
      rw [UInt8.toNat_ofNat']
      omega
    rw [List.map_cons, this]
def stepTy : Ty := .agg [.int .i64, .int .i64, .str, .str, .int .i64, .int .i64, .sl (.int .u8), .int .u64, .int .i64]
theorem step_of {x : D} (h : HasTy stepTy x) : ∃ s : Step, x = encStep s ∧ StepI s := by
  unfold stepTy at h
  simp only [HasTy, HasL] at h
  obtain ⟨_, rfl, _, _, rfl, ⟨d, rfl, _⟩, _, _, rfl, ⟨od, rfl, _⟩, _, _, rfl, ⟨a, rfl, _⟩, _, _, rfl, ⟨b, rfl, _⟩, _, _, rfl, ⟨e, rfl, e1, e2⟩, _, _, rfl, ⟨f, rfl, f1, f2⟩, _, _, rfl, ⟨g, rfl, _, hg⟩, _, _, rfl, ⟨w, rfl, w1, w2⟩, _, _, rfl, ⟨n, rfl, n1, n2⟩, rfl⟩ := h
  obtain ⟨l, rfl⟩ := u8_of (fun y hy => by simpa only [HasTy] using hg y hy)
  have w1 : 0 ≤ w := w1
  have w2 : w ≤ 18446744073709551615 := w2
  exact ⟨⟨d, ⟨od, a, b, e, f, l⟩, w, n⟩, rfl, ⟨⟨e1, e2⟩, ⟨f1, f2⟩, w1, show w < 18446744073709551616 by omega, ⟨n1, n2⟩⟩⟩
theorem steps_ty {xs : List D} (h : ∀ y ∈ xs, HasTy stepTy y) : ∃ l : List Step, xs = l.map encStep ∧ ∀ s ∈ l, StepI s := by
  induction xs with
  | nil => exact ⟨[], rfl, by simp⟩
  | cons x r ih =>
    obtain ⟨l, rfl, hl⟩ := ih fun y hy => h y (by simp [hy])
    obtain ⟨s, rfl, hs⟩ := step_of (h x (by simp))
    exact ⟨s :: l, rfl, fun y hy => by
      rcases List.mem_cons.1 hy with rfl | hy
      · exact hs
      · exact hl y hy⟩
set_option maxRecDepth 100000 in
theorem scriptJoins_lifted (os : Os) (started : os.Started) (H : Type) (enc : TypeId × Value → H) :
    ReturnsInHanded {} Tryd.checked os 6 .any (fun w args => (Rows.scriptJoinsSpec.pre enc Tryd.prog Tryd.f6 [] false w args ∧ laidMetH Tryd.prog laid7 w) ∧ sizedMet enc Tryd.prog Tryd.f6 (OpenSpec.ofChange Rows.scriptJoinsSpec) false w args)
      (Rows.scriptJoinsSpec.post enc Tryd.prog Tryd.f6 false true false false) := by
  refine returnsInHanded_of_change_and_shaped (C := Tryd.checked) (X := fun w _ => laidMetH Tryd.prog laid7 w) (fun _ _ _ hh h => h.of_heap hh) Tryd.own started (by kernel_rfl) Tryd.func6
    (ChangeSpec.witness_shaped (enc := enc) (C := Tryd.checked) (os := os) (X := fun w _ => laidMetH Tryd.prog laid7 w) false (World.laidAll Tryd.prog os laid7) #[.slice Option.none 0 0, .slice Option.none 0 0, .int .u16 0] 8 (World.laidAll_os _ _ _) (World.shaped_of_ZipB (by kernel_rfl) (by kernel_rfl)) (by kernel_rfl) (by kernel_rfl) (by kernel_rfl) (door_met os _)) ?_
  intro W base args ds gs before hval0 hW _ _ hL hsh _
  have hval : ∀ (j : Nat) t v, Tryd.f6.params[j]? = some t → args[j]? = some v → Value.okWide Tryd.prog W .any base t v := hval0
  have hW1 : DataW.Whole enc Tryd.prog Tryd.f6.params.toList Rows.scriptJoinsSpec.vars false W args.toList ds gs before := hW
  have hW2 := hW1
  obtain ⟨p, q, hA, hV, rfl, hfz, hnd⟩ := hW1
  obtain ⟨zs, hz, hr⟩ := open_all (n := 8) (Ts := [.sl stepTy, .sl stepTy, .int .u16]) hA (by kernel_rfl) (fun j t v hj hv => hval j t v (by simpa using hj) (by simpa using hv))
  have hz : ∃ y r, zs = y :: r ∧ HasTy (.sl stepTy) y ∧ ∃ y2 r2, r = y2 :: r2 ∧ HasTy (.sl stepTy) y2 ∧ ∃ y3 r3, r2 = y3 :: r3 ∧ HasTy (.int .u16) y3 ∧ r3 = [] := by simpa only [HasL] using hz
  obtain ⟨y, r, rfl, hy, y2, r2, rfl, hy2, y3, r3, rfl, hy3, rfl⟩ := hz
  simp only [HasTy] at hy hy2 hy3
  obtain ⟨xs, rfl, _, hxs⟩ := hy
  obtain ⟨a, rfl, ha⟩ := steps_ty hxs
  obtain ⟨ys, rfl, _, hys⟩ := hy2
  obtain ⟨b, rfl, hb'⟩ := steps_ty hys
  obtain ⟨c, rfl, c0, c1⟩ := hy3
  have c0 : 0 ≤ c := c0
  have c1 : c ≤ 65535 := c1
  obtain ⟨cn, rfl⟩ : ∃ cn : Nat, c = cn := ⟨c.toNat, by omega⟩
  obtain ⟨d1, d2, d3, rfl⟩ := len3' (trodAll_len hA)
  have hgs : gs = [] := trodVars_nil rfl hV
  subst hgs
  obtain ⟨n, hn⟩ := joins_ok a b cn (by omega) ha hb'
  refine (law_calls extQ catchQ hn hr (glob_of_laid hL hsh)).mono fun e W' ⟨he, hb⟩ => ?_
  subst he
  exact ⟨_, rfl, law_post (t := 4) Tryd.laidOut (by kernel_rfl) hW2 rfl (by kernel_rfl) Tryd.underlying4 rfl hb⟩
theorem scriptJoins_holds : Rows.ScriptJoinsSaid :=
  OpenClaim.holds_of_wide 6 Tryd.f6 rfl rfl rfl rfl rfl rfl rfl ⟨rfl, rfl, rfl, rfl, rfl⟩ rfl rfl rfl rfl rfl (by kernel_rfl) Tryd.func6 (by kernel_rfl)
    (of_decide_eq_true (by kernel_rfl)) (by unfold Func.isWrapper; first | (rw [if_pos (by decide +kernel)]; kernel_rfl) | (rw [if_neg (by decide +kernel)]; exact ⟨rfl, rfl⟩))
    (fun os started H enc _ => scriptJoins_lifted os started H enc)
theorem scriptJoins_card : Rows.ScriptJoinsCardSaid :=
  Claim7.holds_tied_plain_at .later [] [.data, .data, .data, .data, .sentinel, .sentinel, .pinned] true (true, "0cc0b98d3dd06a97acf4428ecceff93034fbb5e1bd46d4ef59b7dce5a4bcee06") true
    scriptJoins_holds (fun _ h => by cases h) (by kernel_rfl) (fun _ h => by cases h) scriptJoins_row_tie rfl ⟨rfl, rfl⟩ (by kernel_rfl) rfl
    (fun f fn hf hfn => by
      obtain rfl : f = 6 := Option.some.inj ((show Tryd.prog.funcNamed "escheat/escheatlaw46.ScriptJoins" = some 6 by kernel_rfl).symm.trans hf) |>.symm
      obtain rfl : fn = Tryd.f6 := (Option.some.inj (Tryd.func6.symm.trans hfn)).symm
      exact ⟨by kernel_rfl, fun j t ht => by
        rw [Tryd.params6] at ht
        have hm : t ∈ [42, 42, 53] := by simpa using Array.mem_of_getElem? ht
        have hall : ([42, 42, 53].all fun u => !Tryd.prog.wantsStandIn u) = true := by kernel_rfl
        exact (show Tryd.prog.wantsStandIn t = false by simpa using List.all_eq_true.1 hall t hm)⟩)
    (by kernel_rfl)
end Go.Proofs.YteapjcgeckpknaaDoor
