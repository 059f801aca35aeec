/- ReportCounts: the text of any report, of any faults and of any verdict is the one that the paper tells; the input reads as it did. The row's condition (laid) gives the library's table of powers of ten. -/
import Derived.Test.YtghllhghboaagaaDoorRows
import Derived.Test.YtghllhghboaagaaDoorW08
import Derived.Test.YtghllhghboaagaaDoorTie
import Derived.Test.YtghllhghboaagaaDoorCards
import Derived.SevenTiedAt
namespace Go.Proofs.YtghllhghboaagaaDoor
open Go.ChangeShapes Go.WideShapes Go.ChangeAt Go.RowKit Go.Vm
theorem ints_of {xs : List D} (h : ∀ y ∈ xs, HasTy (.int .i64) y) : ∃ l : List Int, xs = l.map fun n => .int .i64 n := by
  induction xs with
  | nil => exact ⟨[], rfl⟩
  | cons x r ih =>
    obtain ⟨l, rfl⟩ := ih fun y hy => h y (by simp [hy])
    have hx := h x (by simp)
    simp only [HasTy] at hx
    obtain ⟨n, rfl, _⟩ := hx
    exact ⟨n :: l, rfl⟩
def repTy : Ty := .agg [.int .i64, .int .i64, .int .i64, .int .i64, .int .i64, .int .i64, .int .i64, .int .i64]
def verTy : Ty := .agg [.int .i64, .int .i64, .int .i64, .int .i64, .int .i64]
theorem rep_of {x : D} (h : HasTy repTy x) : ∃ m : Mend, x = encMend m ∧ MendB m := by
  unfold repTy at h
  simp only [HasTy, HasL] at h
  obtain ⟨_, rfl, _, _, rfl, ⟨a0, rfl, l0, u0⟩, _, _, rfl, ⟨a1, rfl, l1, u1⟩, _, _, rfl, ⟨a2, rfl, l2, u2⟩, _, _, rfl, ⟨a3, rfl, l3, u3⟩, _, _, rfl, ⟨a4, rfl, l4, u4⟩, _, _, rfl, ⟨a5, rfl, l5, u5⟩, _, _, rfl, ⟨a6, rfl, l6, u6⟩, _, _, rfl, ⟨a7, rfl, l7, u7⟩, rfl⟩ := h
  exact ⟨⟨a0, a1, a2, a3, a4, a5, a6, a7⟩, rfl, ⟨⟨l0, u0⟩, ⟨l1, u1⟩, ⟨l2, u2⟩, ⟨l3, u3⟩, ⟨l4, u4⟩, ⟨l5, u5⟩, ⟨l6, u6⟩, ⟨l7, u7⟩⟩⟩
theorem ver_of {x : D} (h : HasTy verTy x) : ∃ v : List Int, x = arrI v ∧ v.length = 5 ∧ ∀ n ∈ v, InB n := by
  unfold verTy at h
  simp only [HasTy, HasL] at h
  obtain ⟨_, rfl, _, _, rfl, ⟨a0, rfl, l0, u0⟩, _, _, rfl, ⟨a1, rfl, l1, u1⟩, _, _, rfl, ⟨a2, rfl, l2, u2⟩, _, _, rfl, ⟨a3, rfl, l3, u3⟩, _, _, rfl, ⟨a4, rfl, l4, u4⟩, rfl⟩ := h
  refine ⟨[a0, a1, a2, a3, a4], rfl, rfl, fun n hn => ?_⟩
  simp only [List.mem_cons, List.not_mem_nil, or_false] at hn
  rcases hn with rfl | rfl | rfl | rfl | rfl
  · exact ⟨l0, u0⟩
  · exact ⟨l1, u1⟩
  · exact ⟨l2, u2⟩
  · exact ⟨l3, u3⟩
  · exact ⟨l4, u4⟩
theorem len3' {α : Type} {l : List α} (h : l.length = 3) : ∃ a b c, l = [a, b, c] := by
  match l, h with
  | [a, b, c], _ => exact ⟨a, b, c, rfl⟩
set_option maxRecDepth 100000 in
theorem reportCounts_lifted (os : Os) (started : os.Started) (H : Type) (enc : TypeId × Value → H) :
    ReturnsInHanded {} Tryd.checked os 4 .any (fun w args => (Rows.reportCountsSpec.pre enc Tryd.prog Tryd.f4 [] false w args ∧ laidMetH Tryd.prog laid3 w) ∧ sizedMet enc Tryd.prog Tryd.f4 (OpenSpec.ofChange Rows.reportCountsSpec) false w args)
      (Rows.reportCountsSpec.post enc Tryd.prog Tryd.f4 false true false false) := by
  refine returnsInHanded_of_change_and (C := Tryd.checked) (X := fun w _ => laidMetH Tryd.prog laid3 w) (fun _ _ _ hh h => h.of_heap hh) Tryd.own started (by kernel_rfl) Tryd.func4
    (ChangeSpec.witness_shaped (enc := enc) (C := Tryd.checked) (os := os) (X := fun w _ => laidMetH Tryd.prog laid3 w) false (World.doorLaid Tryd.prog 400 os) #[.agg #[.int .i64 0, .int .i64 0, .int .i64 0, .int .i64 0, .int .i64 0, .int .i64 0, .int .i64 0, .int .i64 0], .slice Option.none 0 0, .agg #[.int .i64 0, .int .i64 0, .int .i64 0, .int .i64 0, .int .i64 0]] 8 rfl (World.shaped_of_RefB (by kernel_rfl) (by kernel_rfl)) (by kernel_rfl) (by kernel_rfl) (by kernel_rfl) (door_met os _)) ?_
  intro W base args ds gs before hval0 hW _ _ hL _
  have hval : ∀ (j : Nat) t v, Tryd.f4.params[j]? = some t → args[j]? = some v → Value.okWide Tryd.prog W .any base t v := hval0
  have hW1 : DataW.Whole enc Tryd.prog Tryd.f4.params.toList Rows.reportCountsSpec.vars false W args.toList ds gs before := hW
  have hW2 := hW1
  obtain ⟨p, q, hA, hV, rfl, hfz, hnd⟩ := hW1
  obtain ⟨zs, hz, hr⟩ := open_all (n := 8) (Ts := [repTy, .sl (.int .i64), verTy]) hA (by kernel_rfl) (fun j t v hj hv => hval j t v (by simpa using hj) (by simpa using hv))
  have hz : ∃ y r, zs = y :: r ∧ HasTy repTy y ∧ ∃ y2 r2, r = y2 :: r2 ∧ HasTy (.sl (.int .i64)) y2 ∧ ∃ y3 r3, r2 = y3 :: r3 ∧ HasTy verTy y3 ∧ r3 = [] := by simpa only [HasL] using hz
  obtain ⟨y, r, rfl, hy, y2, r2, rfl, hy2, y3, r3, rfl, hy3, rfl⟩ := hz
  obtain ⟨m, rfl, hM⟩ := rep_of hy
  have hy2 : ∃ xs, y2 = .sl xs ∧ xs.length ≤ maxLen ∧ ∀ z ∈ xs, HasTy (.int .i64) z := by simpa only [HasTy] using hy2
  obtain ⟨xs, rfl, _, hxs⟩ := hy2
  obtain ⟨l, rfl⟩ := ints_of hxs
  obtain ⟨v, rfl, h5, hv⟩ := ver_of hy3
  obtain ⟨d1, d2, d3, rfl⟩ := len3' (trodAll_len hA)
  have hgs : gs = [] := trodVars_nil rfl hV
  subst hgs
  obtain ⟨n, hn⟩ := counts_ok m l v hM h5 hv
  refine (law_calls extC catchC hn hr (glob_of_laid hL)).mono fun e W' ⟨he, hb⟩ => ?_
  subst he
  exact ⟨_, rfl, law_post (t := 4) Tryd.laidOut (by kernel_rfl) hW2 rfl (by kernel_rfl) Tryd.underlying4 rfl hb⟩
theorem reportCounts_holds : Rows.ReportCountsSaid :=
  OpenClaim.holds_of_wide 4 Tryd.f4 rfl rfl rfl rfl rfl rfl rfl ⟨rfl, rfl, rfl, rfl, rfl⟩ rfl rfl rfl rfl rfl (by kernel_rfl) Tryd.func4 (by kernel_rfl)
    (of_decide_eq_true (by kernel_rfl)) (by unfold Func.isWrapper; first | (rw [if_pos (by decide +kernel)]; kernel_rfl) | (rw [if_neg (by decide +kernel)]; exact ⟨rfl, rfl⟩))
    (fun os started H enc _ => reportCounts_lifted os started H enc)
theorem reportCounts_card : Rows.ReportCountsCardSaid :=
  Claim7.holds_tied_plain_at .later [] [.data, .data, .data] true (true, "83fa940680a6a52860010974920177e13ac217191cb5173fe72f2e29d8cb36c2") false
    reportCounts_holds (fun _ h => by cases h) (by kernel_rfl) (fun _ h => by cases h) reportCounts_row_tie rfl ⟨rfl, rfl⟩ (by kernel_rfl) rfl
    (fun f fn hf hfn => by
      obtain rfl : f = 4 := Option.some.inj ((show Tryd.prog.funcNamed "escheat/escheatlaw47.ReportCounts" = some 4 by kernel_rfl).symm.trans hf) |>.symm
      obtain rfl : fn = Tryd.f4 := (Option.some.inj (Tryd.func4.symm.trans hfn)).symm
      exact ⟨by kernel_rfl, fun j t ht => by
        rw [Tryd.params4] at ht
        have hm : t ∈ [36, 37, 38] := by simpa using Array.mem_of_getElem? ht
        have hall : ([36, 37, 38].all fun u => !Tryd.prog.wantsStandIn u) = true := by kernel_rfl
        exact (show Tryd.prog.wantsStandIn t = false by simpa using List.all_eq_true.1 hall t hm)⟩)
    (by kernel_rfl)
end Go.Proofs.YtghllhghboaagaaDoor
