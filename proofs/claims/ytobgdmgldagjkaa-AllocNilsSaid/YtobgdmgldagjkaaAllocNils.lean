/- AllocNils: what is told of an alloc that is nil, and which inode is the next one, of a device on which some are used; for every input, and the input reads as it did. No condition. -/
import Derived.Test.YtobgdmgldagjkaaRows
import Derived.Test.YtobgdmgldagjkaaK13
namespace Go.Proofs.Ytobgdmgldagjkaa
open Go.ChangeShapes Go.WideShapes Go.ChangeAt Go.RowKit Go.Vm
theorem Try.own : ownKnob Try.prog.godebug = Option.none := by kernel_rfl
theorem Try.laidOut : laidOutB Try.prog = true := by kernel_rfl
def layTy : Ty := .agg [.int .i64, .int .i64, .int .u64]
theorem lay_ty {x : D} (h : HasTy layTy x) : ∃ l : Lay, x = encLay l ∧ InB l.blocks ∧ InB l.inodes ∧ 0 ≤ l.merge ∧ l.merge < 18446744073709551616 := by
  unfold layTy at h
  simp only [HasTy, HasL] at h
  obtain ⟨_, rfl, _, _, rfl, ⟨a, rfl, a1, a2⟩, _, _, rfl, ⟨b, rfl, b1, b2⟩, _, _, rfl, ⟨c, rfl, c1, c2⟩, rfl⟩ := h
  have c2 : c ≤ 18446744073709551615 := c2
  exact ⟨⟨a, b, c⟩, rfl, ⟨a1, a2⟩, ⟨b1, b2⟩, c1, (by show c < 18446744073709551616; omega)⟩
theorem bys_ty : ∀ {xs : List D}, (∀ y ∈ xs, HasTy (.int .u8) y) → ∃ b : List UInt8, xs = b.map fun b => .int .u8 b.toNat
  | [], _ => ⟨[], rfl⟩
  | x :: r, h => by
    obtain ⟨b, rfl⟩ := bys_ty (xs := r) fun y hy => h y (List.mem_cons_of_mem _ hy)
    have hx := h x List.mem_cons_self
    simp only [HasTy] at hx
    obtain ⟨n, rfl, n0, n1⟩ := hx
    have n0 : 0 ≤ n := n0
    have n1 : n ≤ 255 := n1
    refine ⟨UInt8.ofNat n.toNat :: b, ?_⟩
    have : ((UInt8.ofNat n.toNat).toNat : Int) = n := by rw [UInt8.toNat_ofNat']; omega
    rw [List.map_cons, this]
theorem len3' {α : Type} {l : List α} (h : l.length = 3) : ∃ a b c, l = [a, b, c] := by
  match l, h with
  | [a, b, c], _ => exact ⟨a, b, c, rfl⟩
set_option maxRecDepth 100000 in
theorem allocNils_lifted (os : Os) (started : os.Started) (H : Type) (enc : TypeId × Value → H) :
    ReturnsInHanded {} Try.checked os 5 .any (Rows.allocNilsSpec.pre6 enc Try.prog Try.f5 Rows.allocNilsRow.domain false) (Rows.allocNilsSpec.post enc Try.prog Try.f5 false true false false) := by
  refine returnsInHanded_of_change (C := Try.checked) Try.own started (by kernel_rfl) Try.func5
    (ChangeSpec.witness6 (enc := enc) (C := Try.checked) false ⟨#[], #[.agg #[.int .i64 0, .int .i64 0, .int .u64 0], .slice Option.none 0 0, .int .i64 0], []⟩ 8 (by kernel_rfl) (by kernel_rfl) (by kernel_rfl) (by kernel_rfl)) ?_
  intro W base args ds gs before hval0 hW hcnd _
  have hval : ∀ (j : Nat) t v, Try.f5.params[j]? = some t → args[j]? = some v → Value.okWide Try.prog W .any base t v := hval0
  have hW1 : DataW.Whole enc Try.prog Try.f5.params.toList Rows.allocNilsSpec.vars false W args.toList ds gs before := hW
  have hW2 := hW1
  obtain ⟨p, q, hA, hV, rfl, hfz, hnd⟩ := hW1
  obtain ⟨zs, hz, hr⟩ := open_all (n := 8) (Ts := [layTy, .sl (.int .u8), .int .i64]) hA (by kernel_rfl) (fun j t v hj hv => hval j t v (by simpa using hj) (by simpa using hv))
  have hz : ∃ y r, zs = y :: r ∧ HasTy layTy y ∧ ∃ y2 r2, r = y2 :: r2 ∧ HasTy (.sl (.int .u8)) y2 ∧ ∃ y3 r3, r2 = y3 :: r3 ∧ HasTy (.int .i64) y3 ∧ r3 = [] := by simpa only [HasL] using hz
  obtain ⟨y, r, rfl, hy, y2, r2, rfl, hy2, y3, r3, rfl, hy3, rfl⟩ := hz
  obtain ⟨l, rfl, hb, hi, hm1, hm2⟩ := lay_ty hy
  unfold HasTy at hy2
  obtain ⟨xs, rfl, _, hxs⟩ := hy2
  obtain ⟨used, rfl⟩ := bys_ty hxs
  simp only [HasTy] at hy3
  obtain ⟨no, rfl, _, _⟩ := hy3
  obtain ⟨d1, d2, d3, rfl⟩ := len3' (trodAll_len hA)
  have hgs : gs = [] := trodVars_nil rfl hV
  subst hgs
  obtain ⟨m, hn⟩ := nils_ok l hb hi ⟨hm1, hm2⟩ used no
  refine (law_calls ext_ok catch_ok hn hr (GlobOk.no (by kernel_rfl))).mono fun e W' ⟨he, hb⟩ => ?_
  subst he
  exact ⟨_, rfl, law_post (t := 4) Try.laidOut (by kernel_rfl) hW2 rfl (by kernel_rfl) Try.underlying4 rfl hb⟩
theorem allocNils_holds : Rows.AllocNilsSaid :=
  OpenClaim.holds_of_wide 5 Try.f5 rfl rfl rfl rfl rfl rfl rfl ⟨rfl, rfl, rfl, rfl, rfl⟩ rfl rfl rfl rfl rfl (by kernel_rfl) Try.func5 (by kernel_rfl)
    (of_decide_eq_true (by kernel_rfl)) (by unfold Func.isWrapper; first | (rw [if_pos (by decide +kernel)]; kernel_rfl) | (rw [if_neg (by decide +kernel)]; exact ⟨rfl, rfl⟩))
    (fun os started H enc _ => allocNils_lifted os started H enc)
end Go.Proofs.Ytobgdmgldagjkaa
