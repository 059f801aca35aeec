/- ScriptParses: any text is read by the program's script page as a step just if it is that step's line, and what is read is plain. The row's condition (laid) gives the library's tables and errors. -/
import Derived.Test.YteapjcgeckpknaaDoorRows
import Derived.Test.YteapjcgeckpknaaDoorV09
import Derived.Test.YteapjcgeckpknaaDoorTie
import Derived.Test.YteapjcgeckpknaaDoorCards
import Derived.SevenTiedAt
namespace Go.Proofs.YteapjcgeckpknaaDoor
open Go.ChangeShapes Go.WideShapes Go.ChangeAt Go.RowKit Go.Vm
theorem len1' {α : Type} {l : List α} (h : l.length = 1) : ∃ a, l = [a] := by
  match l, h with
  | [a], _ => exact ⟨a, rfl⟩
set_option maxRecDepth 100000 in
theorem scriptParses_lifted (os : Os) (started : os.Started) (H : Type) (enc : TypeId × Value → H) :
    ReturnsInHanded {} Tryd.checked os 3 .any (fun w args => (Rows.scriptParsesSpec.pre enc Tryd.prog Tryd.f3 [] false w args ∧ laidMetH Tryd.prog laid7 w) ∧ sizedMet enc Tryd.prog Tryd.f3 (OpenSpec.ofChange Rows.scriptParsesSpec) false w args)
      (Rows.scriptParsesSpec.post enc Tryd.prog Tryd.f3 false true false false) := by
  refine returnsInHanded_of_change_and_shaped (C := Tryd.checked) (X := fun w _ => laidMetH Tryd.prog laid7 w) (fun _ _ _ hh h => h.of_heap hh) Tryd.own started (by kernel_rfl) Tryd.func3
    (ChangeSpec.witness_shaped (enc := enc) (C := Tryd.checked) (os := os) (X := fun w _ => laidMetH Tryd.prog laid7 w) false (World.laidAll Tryd.prog os laid7) #[.string ⟨#[]⟩] 8 (World.laidAll_os _ _ _) (World.shaped_of_ZipB (by kernel_rfl) (by kernel_rfl)) (by kernel_rfl) (by kernel_rfl) (by kernel_rfl) (door_met os _)) ?_
  intro W base args ds gs before hval0 hW _ _ hL hsh _
  have hval : ∀ (j : Nat) t v, Tryd.f3.params[j]? = some t → args[j]? = some v → Value.okWide Tryd.prog W .any base t v := hval0
  have hW1 : DataW.Whole enc Tryd.prog Tryd.f3.params.toList Rows.scriptParsesSpec.vars false W args.toList ds gs before := hW
  have hW2 := hW1
  obtain ⟨p, q, hA, hV, rfl, hfz, hnd⟩ := hW1
  obtain ⟨zs, hz, hr⟩ := open_all (n := 8) (Ts := [.str]) hA (by kernel_rfl) (fun j t v hj hv => hval j t v (by simpa using hj) (by simpa using hv))
  have hz : ∃ y r, zs = y :: r ∧ HasTy .str y ∧ r = [] := by simpa only [HasL] using hz
  obtain ⟨y, r, rfl, hy, rfl⟩ := hz
  simp only [HasTy] at hy
  obtain ⟨s, rfl, _⟩ := hy
  obtain ⟨d1, rfl⟩ := len1' (trodAll_len hA)
  have hgs : gs = [] := trodVars_nil rfl hV
  subst hgs
  obtain ⟨n, hn⟩ := parses_ok s
  refine (law_calls extC catchC hn hr (glob_of_laid hL hsh)).mono fun e W' ⟨he, hb⟩ => ?_
  subst he
  exact ⟨_, rfl, law_post (t := 4) Tryd.laidOut (by kernel_rfl) hW2 rfl (by kernel_rfl) Tryd.underlying4 rfl hb⟩
theorem scriptParses_holds : Rows.ScriptParsesSaid :=
  OpenClaim.holds_of_wide 3 Tryd.f3 rfl rfl rfl rfl rfl rfl rfl ⟨rfl, rfl, rfl, rfl, rfl⟩ rfl rfl rfl rfl rfl (by kernel_rfl) Tryd.func3 (by kernel_rfl)
    (of_decide_eq_true (by kernel_rfl)) (by unfold Func.isWrapper; first | (rw [if_pos (by decide +kernel)]; kernel_rfl) | (rw [if_neg (by decide +kernel)]; exact ⟨rfl, rfl⟩))
    (fun os started H enc _ => scriptParses_lifted os started H enc)
theorem scriptParses_card : Rows.ScriptParsesCardSaid :=
  Claim7.holds_tied_plain_at .later [] [.data, .data, .data, .data, .sentinel, .sentinel, .pinned] true (true, "0cc0b98d3dd06a97acf4428ecceff93034fbb5e1bd46d4ef59b7dce5a4bcee06") true
    scriptParses_holds (fun _ h => by cases h) (by kernel_rfl) (fun _ h => by cases h) scriptParses_row_tie rfl ⟨rfl, rfl⟩ (by kernel_rfl) rfl
    (fun f fn hf hfn => by
      obtain rfl : f = 3 := Option.some.inj ((show Tryd.prog.funcNamed "escheat/escheatlaw46.ScriptParses" = some 3 by kernel_rfl).symm.trans hf) |>.symm
      obtain rfl : fn = Tryd.f3 := (Option.some.inj (Tryd.func3.symm.trans hfn)).symm
      exact ⟨by kernel_rfl, fun j t ht => by
        rw [Tryd.params3] at ht
        have hm : t ∈ [9] := by simpa using Array.mem_of_getElem? ht
        have hall : ([9].all fun u => !Tryd.prog.wantsStandIn u) = true := by kernel_rfl
        exact (show Tryd.prog.wantsStandIn t = false by simpa using List.all_eq_true.1 hall t hm)⟩)
    (by kernel_rfl)
end Go.Proofs.YteapjcgeckpknaaDoor
