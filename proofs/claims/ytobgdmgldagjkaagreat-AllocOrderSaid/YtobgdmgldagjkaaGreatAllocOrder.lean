/- AllocOrder: whatever is written, and when: a block that was given back and taken again has its new bytes on the device only when whatever let go of it is there; for every input, and the input reads as it did. No condition. -/
import Derived.Test.YtobgdmgldagjkaaGreatRows
import Derived.Test.YtobgdmgldagjkaaGreatW11
namespace Go.Proofs.YtobgdmgldagjkaaGreat
open Go.ChangeShapes Go.WideShapes Go.ChangeAt Go.RowKit Go.Vm
theorem Tryz.own : ownKnob Tryz.prog.godebug = Option.none := by kernel_rfl
theorem Tryz.laidOut : laidOutB Tryz.prog = true := by kernel_rfl
def layTy : Ty := .agg [.int .i64, .int .i64, .int .u64]
theorem lay_ty {x : D} (h : HasTy layTy x) : ∃ l : Lay, x = encLay l ∧ InB l.blocks ∧ InB l.inodes ∧ 0 ≤ l.merge ∧ l.merge < 18446744073709551616 := by
  unfold layTy at h
  simp only [HasTy, HasL] at h
  obtain ⟨_, rfl, _, _, rfl, ⟨a, rfl, a1, a2⟩, _, _, rfl, ⟨b, rfl, b1, b2⟩, _, _, rfl, ⟨c, rfl, c1, c2⟩, rfl⟩ := h
  have c2 : c ≤ 18446744073709551615 := c2
  exact ⟨⟨a, b, c⟩, rfl, ⟨a1, a2⟩, ⟨b1, b2⟩, c1, (by show c < 18446744073709551616; omega)⟩
theorem ints_ty : ∀ {xs : List D}, (∀ y ∈ xs, HasTy (.int .i64) y) → ∃ b : List Int, xs = b.map (.int .i64)
  | [], _ => ⟨[], rfl⟩
  | x :: r, h => by
    obtain ⟨b, rfl⟩ := ints_ty (xs := r) fun y hy => h y (List.mem_cons_of_mem _ hy)
    have hx := h x List.mem_cons_self
    simp only [HasTy] at hx
    obtain ⟨n, rfl, n0, n1⟩ := hx
    exact ⟨n :: b, rfl⟩
theorem len2' {α : Type} {l : List α} (h : l.length = 2) : ∃ a b, l = [a, b] := by
  match l, h with
  | [a, b], _ => exact ⟨a, b, rfl⟩
set_option maxRecDepth 100000 in
theorem allocOrder_lifted (os : Os) (started : os.Started) (H : Type) (enc : TypeId × Value → H) :
    ReturnsInHanded {} Tryz.checked os 8 .any (Rows.allocOrderSpec.pre6 enc Tryz.prog Tryz.f8 Rows.allocOrderRow.domain false) (Rows.allocOrderSpec.post enc Tryz.prog Tryz.f8 false true false false) := by
  refine returnsInHanded_of_change (C := Tryz.checked) Tryz.own started (by kernel_rfl) Tryz.func8
    (ChangeSpec.witness6 (enc := enc) (C := Tryz.checked) false ⟨#[], #[.agg #[.int .i64 0, .int .i64 0, .int .u64 0], .slice Option.none 0 0], []⟩ 8 (by kernel_rfl) (by kernel_rfl) (by kernel_rfl) (by kernel_rfl)) ?_
  intro W base args ds gs before hval0 hW hcnd _
  have hval : ∀ (j : Nat) t v, Tryz.f8.params[j]? = some t → args[j]? = some v → Value.okWide Tryz.prog W .any base t v := hval0
  have hW1 : DataW.Whole enc Tryz.prog Tryz.f8.params.toList Rows.allocOrderSpec.vars false W args.toList ds gs before := hW
  have hW2 := hW1
  obtain ⟨p, q, hA, hV, rfl, hfz, hnd⟩ := hW1
  obtain ⟨zs, hz, hr⟩ := open_all (n := 8) (Ts := [layTy, .sl (.int .i64)]) hA (by kernel_rfl) (fun j t v hj hv => hval j t v (by simpa using hj) (by simpa using hv))
  have hz : ∃ y r, zs = y :: r ∧ HasTy layTy y ∧ ∃ y2 r2, r = y2 :: r2 ∧ HasTy (.sl (.int .i64)) y2 ∧ r2 = [] := by simpa only [HasL] using hz
  obtain ⟨y, r, rfl, hy, y2, r2, rfl, hy2, rfl⟩ := hz
  obtain ⟨l, rfl, hb, hi, hm1, hm2⟩ := lay_ty hy
  unfold HasTy at hy2
  obtain ⟨xs, rfl, _, hxs⟩ := hy2
  obtain ⟨picks, rfl⟩ := ints_ty hxs
  obtain ⟨d1, d2, rfl⟩ := len2' (trodAll_len hA)
  have hgs : gs = [] := trodVars_nil rfl hV
  subst hgs
  obtain ⟨m, hn⟩ := order_ok l hb hi ⟨hm1, hm2⟩ picks
  refine (law_calls extZ_ok catchZ_ok hn hr (GlobOk.no (by kernel_rfl))).mono fun e W' ⟨he, hb⟩ => ?_
  subst he
  exact ⟨_, rfl, law_post (t := 4) Tryz.laidOut (by kernel_rfl) hW2 rfl (by kernel_rfl) Tryz.underlying4 rfl hb⟩
theorem allocOrder_holds : Rows.AllocOrderSaid :=
  OpenClaim.holds_of_wide 8 Tryz.f8 rfl rfl rfl rfl rfl rfl rfl ⟨rfl, rfl, rfl, rfl, rfl⟩ rfl rfl rfl rfl rfl (by kernel_rfl) Tryz.func8 (by kernel_rfl)
    (of_decide_eq_true (by kernel_rfl)) (by unfold Func.isWrapper; first | (rw [if_pos (by decide +kernel)]; kernel_rfl) | (rw [if_neg (by decide +kernel)]; exact ⟨rfl, rfl⟩))
    (fun os started H enc _ => allocOrder_lifted os started H enc)
end Go.Proofs.YtobgdmgldagjkaaGreat
