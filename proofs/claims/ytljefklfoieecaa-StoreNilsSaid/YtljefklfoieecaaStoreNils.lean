/- StoreNils: what is told of a store that is nil is as the page says, for every input, and each argument reads as it did. No condition. -/
import Derived.Test.YtljefklfoieecaaStoreNilsRun
namespace Go.Proofs.Ytljefklfoieecaa
open Go.ChangeShapes Go.WideShapes Go.ChangeAt Go.RowKit Go.Vm
theorem Try.own : ownKnob Try.prog.godebug = Option.none := by kernel_rfl
theorem Try.laidOut : laidOutB Try.prog = true := by kernel_rfl
/-- The example is told by what it came to. -/
noncomputable def cfg1 : Cfg := { cfg0 with ext := fun f => match Nat.beq f 15 with | true => some (fun ds => match ds with | [] => some (.ret (.d (.bool true))) | _ => Option.none) | false => Option.none }
theorem ext0 : ExtOk cfg0 := fun f g h => by cases h
theorem catch0 : CatchOk cfg0 := fun f post h => by cases h
theorem ext1 : ExtOk cfg1 := by
  intro f g h ds o ho
  have hf : f = 15 := by
    cases hb : Nat.beq f 15 with
    | true => exact Nat.eq_of_beq_eq_true hb
    | false => simp [cfg1, hb] at h
  subst hf
  have hg : g = fun ds => match ds with | [] => some (.ret (.d (.bool true))) | _ => Option.none := by
    have h : some (fun ds : List D => match ds with | [] => some (Out.ret (.d (.bool true))) | _ => Option.none) = some g := h
    exact (Option.some.inj h).symm
  subst hg
  cases ds with
  | cons x r => cases ho
  | nil =>
    have ho : some (Out.ret (.d (.bool true))) = some o := ho
    simp only [Option.some.injEq] at ho; subst ho
    exact runD_ok ext0 catch0 3000 15 [] _ (runK_ok works30)
theorem catch1 : CatchOk cfg1 := fun f post h => by cases h
theorem law_run (a b : Int) (xs : List D) : runD cfg1 2000 3 [.int .i64 a, .int .i64 b, .sl xs] = some (.ret (.d (.bool true))) := runK_ok (by kernel_rfl)
set_option maxRecDepth 100000 in
theorem storeNils_lifted (os : Os) (started : os.Started) (H : Type) (enc : TypeId × Value → H) :
    ReturnsInHanded {} Try.checked os 3 .any (Rows.storeNilsSpec.pre6 enc Try.prog Try.f3 Rows.storeNilsRow.domain false) (Rows.storeNilsSpec.post enc Try.prog Try.f3 false true false false) := by
  refine returnsInHanded_of_change (C := Try.checked) Try.own started (by kernel_rfl) Try.func3
    (ChangeSpec.witness6 (enc := enc) (C := Try.checked) false ⟨#[], #[.int .i64 0, .int .i64 0, .slice Option.none 0 0], []⟩ 8 (by kernel_rfl) (by kernel_rfl) (by kernel_rfl) (by kernel_rfl)) ?_
  intro W base args ds gs before hval0 hW hcnd _
  have hval : ∀ (j : Nat) t v, Try.f3.params[j]? = some t → args[j]? = some v → Value.okWide Try.prog W .any base t v := hval0
  have hW1 : DataW.Whole enc Try.prog Try.f3.params.toList Rows.storeNilsSpec.vars false W args.toList ds gs before := hW
  have hW2 := hW1
  obtain ⟨p, q, hA, hV, rfl, hfz, hnd⟩ := hW1
  obtain ⟨zs, hz, hr⟩ := open_all (n := 8) (Ts := [.int .i64, .int .i64, .sl (.int .i64)]) hA (by kernel_rfl) (fun j t v hj hv => hval j t v (by simpa using hj) (by simpa using hv))
  simp only [HasL, HasTy] at hz
  obtain ⟨_, _, rfl, ⟨a, rfl, _⟩, _, _, rfl, ⟨b, rfl, _⟩, _, _, rfl, ⟨xs, rfl, _⟩, rfl⟩ := hz
  obtain ⟨d1, d2, d3, rfl⟩ := len3 (trodAll_len hA)
  have hgs : gs = [] := trodVars_nil rfl hV
  subst hgs
  refine (law_calls ext1 catch1 (law_run a b xs) hr).mono fun e W' ⟨he, hb⟩ => ?_
  subst he
  exact ⟨_, rfl, law_post (t := 4) Try.laidOut (by kernel_rfl) hW2 rfl (by kernel_rfl) Try.underlying4 rfl hb⟩
theorem storeNils_holds : Rows.StoreNilsSaid :=
  OpenClaim.holds_of_wide 3 Try.f3 rfl rfl rfl rfl rfl rfl rfl ⟨rfl, rfl, rfl, rfl, rfl⟩ rfl rfl rfl rfl rfl (by kernel_rfl) Try.func3 (by kernel_rfl)
    (of_decide_eq_true (by kernel_rfl)) (by unfold Func.isWrapper; first | (rw [if_pos (by decide +kernel)]; kernel_rfl) | (rw [if_neg (by decide +kernel)]; exact ⟨rfl, rfl⟩))
    (fun os started H enc _ => storeNils_lifted os started H enc)
end Go.Proofs.Ytljefklfoieecaa
