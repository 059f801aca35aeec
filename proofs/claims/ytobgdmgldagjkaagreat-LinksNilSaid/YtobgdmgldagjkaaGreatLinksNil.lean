/- LinksNil: what is told of an alloc that is nil is as the page says, for every input, and each argument reads as it did. No condition. -/
import Derived.Test.YtobgdmgldagjkaaGreatRows
import Derived.Test.YtobgdmgldagjkaaGreatRunB
set_option linter.unusedVariables false
namespace Go.Proofs.YtobgdmgldagjkaaGreat
open Go.ChangeShapes Go.WideShapes Go.ChangeAt Go.RowKit Go.Vm
theorem Tryz.own : ownKnob Tryz.prog.godebug = Option.none := by kernel_rfl
theorem Tryz.laidOut : laidOutB Tryz.prog = true := by kernel_rfl
def makeX : List D → Option Out := fun ds => match ds with
  | [.nilp, .int .i64 a, .int .i64 b, .int .i64 c, .sl []] => some (.ret (.d (.int .i64 0)))
  | _ => Option.none
def worksX : List D → Option Out := fun ds => match ds with | [] => some (.ret (.d (.bool true))) | _ => Option.none
def maskN : Nat := maskR - 2 ^ 11
/-- The example and the making are told by what they come to. -/
noncomputable def cfgN : Cfg := { P := Tryz.prog, mixed := by kernel_rfl, shared := fun f => Nat.testBit maskN f, ext := fun f => match Nat.beq f 15 with | true => some worksX | false => match Nat.beq f 11 with | true => some makeX | false => Option.none, catch_ := fun _ => Option.none }
theorem make_ok (a b c : Int) : runD (cR []) 400 11 [.nilp, .int .i64 a, .int .i64 b, .int .i64 c, .sl []] = some (.ret (.d (.int .i64 0))) := by
  rcases b with (_ | _ | _ | n) | n
  · kernel_rfl
  · kernel_rfl
  · kernel_rfl
  · kernel_rfl
  · kernel_rfl
theorem extN : ExtOk cfgN := by
  intro f g h
  have h : (match Nat.beq f 15 with | true => some worksX | false => match Nat.beq f 11 with | true => some makeX | false => Option.none) = some g := h
  split at h
  · rename_i hf
    cases h
    cases Nat.eq_of_beq_eq_true hf
    intro ds o ho
    unfold worksX at ho
    split at ho
    · cases ho
      exact runD_ok works_ext catchR 3000 15 [] _ works_run
    · cases ho
  · split at h
    · rename_i hf
      cases h
      cases Nat.eq_of_beq_eq_true hf
      intro ds o ho
      unfold makeX at ho
      split at ho
      · cases ho
        exact runD_ok x0 catchR 400 11 _ _ (make_ok _ _ _)
      · cases ho
    · cases h
theorem catchN : CatchOk cfgN := fun f post h => by cases h
theorem law_run (a b c : Int) : runD cfgN 2000 3 [.int .i64 a, .int .i64 b, .int .i64 c] = some (.ret (.d (.bool true))) := by kernel_rfl
theorem len3' {α : Type} {l : List α} (h : l.length = 3) : ∃ a b c, l = [a, b, c] := by
  match l, h with
  | [a, b, c], _ => exact ⟨a, b, c, rfl⟩
set_option maxRecDepth 100000 in
theorem linksNil_lifted (os : Os) (started : os.Started) (H : Type) (enc : TypeId × Value → H) :
    ReturnsInHanded {} Tryz.checked os 3 .any (Rows.linksNilSpec.pre6 enc Tryz.prog Tryz.f3 Rows.linksNilRow.domain false) (Rows.linksNilSpec.post enc Tryz.prog Tryz.f3 false true false false) := by
  refine returnsInHanded_of_change (C := Tryz.checked) Tryz.own started (by kernel_rfl) Tryz.func3
    (ChangeSpec.witness6 (enc := enc) (C := Tryz.checked) false ⟨#[], #[.int .i64 0, .int .i64 0, .int .i64 0], []⟩ 8 (by kernel_rfl) (by kernel_rfl) (by kernel_rfl) (by kernel_rfl)) ?_
  intro W base args ds gs before hval0 hW hcnd _
  have hval : ∀ (j : Nat) t v, Tryz.f3.params[j]? = some t → args[j]? = some v → Value.okWide Tryz.prog W .any base t v := hval0
  have hW1 : DataW.Whole enc Tryz.prog Tryz.f3.params.toList Rows.linksNilSpec.vars false W args.toList ds gs before := hW
  have hW2 := hW1
  obtain ⟨p, q, hA, hV, rfl, hfz, hnd⟩ := hW1
  obtain ⟨zs, hz, hr⟩ := open_all (n := 8) (Ts := [.int .i64, .int .i64, .int .i64]) hA (by kernel_rfl) (fun j t v hj hv => hval j t v (by simpa using hj) (by simpa using hv))
  simp only [HasL, HasTy] at hz
  obtain ⟨_, _, rfl, ⟨a, rfl, _⟩, _, _, rfl, ⟨b, rfl, _⟩, _, _, rfl, ⟨c, rfl, _⟩, rfl⟩ := hz
  obtain ⟨d1, d2, d3, rfl⟩ := len3' (trodAll_len hA)
  have hgs : gs = [] := trodVars_nil rfl hV
  subst hgs
  refine (law_calls extN catchN (law_run a b c) hr).mono fun e W' ⟨he, hb⟩ => ?_
  subst he
  exact ⟨_, rfl, law_post (t := 4) Tryz.laidOut (by kernel_rfl) hW2 rfl (by kernel_rfl) Tryz.underlying4 rfl hb⟩
theorem linksNil_holds : Rows.LinksNilSaid :=
  OpenClaim.holds_of_wide 3 Tryz.f3 rfl rfl rfl rfl rfl rfl rfl ⟨rfl, rfl, rfl, rfl, rfl⟩ rfl rfl rfl rfl rfl (by kernel_rfl) Tryz.func3 (by kernel_rfl)
    (of_decide_eq_true (by kernel_rfl)) (by unfold Func.isWrapper; first | (rw [if_pos (by decide +kernel)]; kernel_rfl) | (rw [if_neg (by decide +kernel)]; exact ⟨rfl, rfl⟩))
    (fun os started H enc _ => linksNil_lifted os started H enc)
end Go.Proofs.YtobgdmgldagjkaaGreat
