/- StoreSees: what is put is seen at once, and nothing else; with an error kept nothing changes any more; for every input, and the input reads as it did. No condition. -/
import Derived.Test.YtobgdmgldagjkaaRows
import Derived.Test.YtobgdmgldagjkaaG14
namespace Go.Proofs.Ytobgdmgldagjkaa
open Go.ChangeShapes Go.WideShapes Go.ChangeAt Go.RowKit Go.Vm
theorem Try.own : ownKnob Try.prog.godebug = Option.none := by kernel_rfl
theorem Try.laidOut : laidOutB Try.prog = true := by kernel_rfl
def layTy : Ty := .agg [.int .i64, .int .i64, .int .u64]
theorem lay_ty {x : D} (h : HasTy layTy x) : ∃ l : Lay, x = encLay l ∧ InB l.blocks ∧ InB l.inodes ∧ 0 ≤ l.merge ∧ l.merge < 18446744073709551616 := by
  unfold layTy at h
  simp only [HasTy, HasL] at h
  obtain ⟨_, rfl, _, _, rfl, ⟨a, rfl, a1, a2⟩, _, _, rfl, ⟨b, rfl, b1, b2⟩, _, _, rfl, ⟨c, rfl, c1, c2⟩, rfl⟩ := h
  have c2 : c ≤ 18446744073709551615 := c2
  exact ⟨⟨a, b, c⟩, rfl, ⟨a1, a2⟩, ⟨b1, b2⟩, c1, (by show c < 18446744073709551616; omega)⟩
theorem bys_ty : ∀ {xs : List D}, (∀ y ∈ xs, HasTy (.int .u8) y) → ∃ b : List UInt8, xs = b.map fun b => .int .u8 b.toNat
  | [], _ => ⟨[], rfl⟩
  | x :: r, h => by
    obtain ⟨b, rfl⟩ := bys_ty (xs := r) fun y hy => h y (List.mem_cons_of_mem _ hy)
    have hx := h x List.mem_cons_self
    simp only [HasTy] at hx
    obtain ⟨n, rfl, n0, n1⟩ := hx
    have n0 : 0 ≤ n := n0
    have n1 : n ≤ 255 := n1
    refine ⟨UInt8.ofNat n.toNat :: b, ?_⟩
    have : ((UInt8.ofNat n.toNat).toNat : Int) = n := by rw [UInt8.toNat_ofNat']; omega
    rw [List.map_cons, this]
theorem ints_ty : ∀ {xs : List D}, (∀ y ∈ xs, HasTy (.int .i64) y) → ∃ b : List Int, xs = b.map (.int .i64)
  | [], _ => ⟨[], rfl⟩
  | x :: r, h => by
    obtain ⟨b, rfl⟩ := ints_ty (xs := r) fun y hy => h y (List.mem_cons_of_mem _ hy)
    have hx := h x List.mem_cons_self
    simp only [HasTy] at hx
    obtain ⟨n, rfl, n0, n1⟩ := hx
    exact ⟨n :: b, rfl⟩
theorem byte_ty {n : Int} (n0 : 0 ≤ n) (n1 : n ≤ 255) : ∃ b : UInt8, D.int .u8 n = byD b := by
  refine ⟨UInt8.ofNat n.toNat, ?_⟩
  have : ((UInt8.ofNat n.toNat).toNat : Int) = n := by rw [UInt8.toNat_ofNat']; omega
  unfold byD
  rw [this]
def stpTy : Ty := .agg [.int .i64, .int .i64, .int .u8, .int .i64, .sl (.int .u8), .int .i64, .int .i64, .int .i64, .int .i64, .int .i64, .int .i64, .int .i64, .int .i64, .int .i64, .int .i64, .int .i64, .sl (.int .i64)]
theorem stp_ty {x : D} (h : HasTy stpTy x) : ∃ s : Stp, x = encStp s ∧ InB s.at_ := by
  unfold stpTy at h
  simp only [HasTy, HasL] at h
  obtain ⟨_, rfl, _, _, rfl, ⟨a, rfl, _, _⟩, _, _, rfl, ⟨b, rfl, _, _⟩, _, _, rfl, ⟨c, rfl, c1, c2⟩, _, _, rfl, ⟨d, rfl, d1, d2⟩, _, _, rfl, ⟨e, rfl, _, he⟩, _, _, rfl, ⟨f0, rfl, _, _⟩, _, _, rfl, ⟨f1, rfl, _, _⟩, _, _, rfl, ⟨f2, rfl, _, _⟩, _, _, rfl, ⟨f3, rfl, _, _⟩, _, _, rfl, ⟨f4, rfl, _, _⟩, _, _, rfl, ⟨f5, rfl, _, _⟩, _, _, rfl, ⟨f6, rfl, _, _⟩, _, _, rfl, ⟨f7, rfl, _, _⟩, _, _, rfl, ⟨f8, rfl, _, _⟩, _, _, rfl, ⟨f9, rfl, _, _⟩, _, _, rfl, ⟨f10, rfl, _, _⟩, _, _, rfl, ⟨g, rfl, _, hg⟩, rfl⟩ := h
  obtain ⟨eb, rfl⟩ := bys_ty (xs := e) (fun y hy => by simp only [HasTy]; exact he y hy)
  obtain ⟨gi, rfl⟩ := ints_ty (xs := g) (fun y hy => by simp only [HasTy]; exact hg y hy)
  obtain ⟨cb, hcb⟩ := byte_ty c1 c2
  rw [hcb]
  exact ⟨⟨a, b, cb, d, eb, ⟨f0, f1, f2, f3, f4, f5, f6, f7, f8, f9, f10⟩, gi⟩, rfl, d1, d2⟩
theorem stps_ty : ∀ {xs : List D}, (∀ y ∈ xs, HasTy stpTy y) → ∃ l : List Stp, xs = l.map encStp ∧ ∀ s ∈ l, InB s.at_
  | [], _ => ⟨[], rfl, fun s hs => by cases hs⟩
  | x :: r, h => by
    obtain ⟨l, rfl, hl⟩ := stps_ty (xs := r) fun y hy => h y (List.mem_cons_of_mem _ hy)
    obtain ⟨s, rfl, hs⟩ := stp_ty (h x List.mem_cons_self)
    exact ⟨s :: l, rfl, fun t ht => by
      rcases List.mem_cons.1 ht with rfl | ht
      · exact hs
      · exact hl t ht⟩
theorem len2' {α : Type} {l : List α} (h : l.length = 2) : ∃ a b, l = [a, b] := by
  match l, h with
  | [a, b], _ => exact ⟨a, b, rfl⟩
set_option maxRecDepth 100000 in
theorem storeSees_lifted (os : Os) (started : os.Started) (H : Type) (enc : TypeId × Value → H) :
    ReturnsInHanded {} Try.checked os 6 .any (Rows.storeSeesSpec.pre6 enc Try.prog Try.f6 Rows.storeSeesRow.domain false) (Rows.storeSeesSpec.post enc Try.prog Try.f6 false true false false) := by
  refine returnsInHanded_of_change (C := Try.checked) Try.own started (by kernel_rfl) Try.func6
    (ChangeSpec.witness6 (enc := enc) (C := Try.checked) false ⟨#[], #[.agg #[.int .i64 0, .int .i64 0, .int .u64 0], .slice Option.none 0 0], []⟩ 8 (by kernel_rfl) (by kernel_rfl) (by kernel_rfl) (by kernel_rfl)) ?_
  intro W base args ds gs before hval0 hW hcnd _
  have hval : ∀ (j : Nat) t v, Try.f6.params[j]? = some t → args[j]? = some v → Value.okWide Try.prog W .any base t v := hval0
  have hW1 : DataW.Whole enc Try.prog Try.f6.params.toList Rows.storeSeesSpec.vars false W args.toList ds gs before := hW
  have hW2 := hW1
  obtain ⟨p, q, hA, hV, rfl, hfz, hnd⟩ := hW1
  obtain ⟨zs, hz, hr⟩ := open_all (n := 8) (Ts := [layTy, .sl stpTy]) hA (by kernel_rfl) (fun j t v hj hv => hval j t v (by simpa using hj) (by simpa using hv))
  have hz : ∃ y r, zs = y :: r ∧ HasTy layTy y ∧ ∃ y2 r2, r = y2 :: r2 ∧ HasTy (.sl stpTy) y2 ∧ r2 = [] := by simpa only [HasL] using hz
  obtain ⟨y, r, rfl, hy, y2, r2, rfl, hy2, rfl⟩ := hz
  obtain ⟨l, rfl, hb, hi, hm1, hm2⟩ := lay_ty hy
  unfold HasTy at hy2
  obtain ⟨xs, rfl, _, hxs⟩ := hy2
  obtain ⟨steps, rfl, hst⟩ := stps_ty hxs
  obtain ⟨d1, d2, rfl⟩ := len2' (trodAll_len hA)
  have hgs : gs = [] := trodVars_nil rfl hV
  subst hgs
  obtain ⟨m, hn⟩ := sees_ok l hb hi ⟨hm1, hm2⟩ steps hst
  refine (law_calls ext_ok catch_ok hn hr (GlobOk.no (by kernel_rfl))).mono fun e W' ⟨he, hb⟩ => ?_
  subst he
  exact ⟨_, rfl, law_post (t := 4) Try.laidOut (by kernel_rfl) hW2 rfl (by kernel_rfl) Try.underlying4 rfl hb⟩
theorem storeSees_holds : Rows.StoreSeesSaid :=
  OpenClaim.holds_of_wide 6 Try.f6 rfl rfl rfl rfl rfl rfl rfl ⟨rfl, rfl, rfl, rfl, rfl⟩ rfl rfl rfl rfl rfl (by kernel_rfl) Try.func6 (by kernel_rfl)
    (of_decide_eq_true (by kernel_rfl)) (by unfold Func.isWrapper; first | (rw [if_pos (by decide +kernel)]; kernel_rfl) | (rw [if_neg (by decide +kernel)]; exact ⟨rfl, rfl⟩))
    (fun os started H enc _ => storeSees_lifted os started H enc)
end Go.Proofs.Ytobgdmgldagjkaa
