/- ReportAnswers: the line that the program's report page tells of an answer is the one that the paper tells, for every answer and every dos; the input reads as it did. The row's condition (laid) gives the library's table of powers of ten. -/
import Derived.Test.YtghllhghboaagaaDoorRows
import Derived.Test.YtghllhghboaagaaDoorV08
import Derived.Test.YtghllhghboaagaaDoorTie
import Derived.Test.YtghllhghboaagaaDoorCards
import Derived.SevenTiedAt
namespace Go.Proofs.YtghllhghboaagaaDoor
open Go.ChangeShapes Go.WideShapes Go.ChangeAt Go.RowKit Go.Vm
theorem u8_of {xs : List D} (h : ∀ y ∈ xs, HasTy (.int .u8) y) : ∃ l : List UInt8, xs = l.map fun b => .int .u8 b.toNat := by
  induction xs with
  | nil => exact ⟨[], rfl⟩
  | cons x r ih =>
    obtain ⟨l, rfl⟩ := ih fun y hy => h y (by simp [hy])
    have hx := h x (by simp)
    simp only [HasTy] at hx
    obtain ⟨n, rfl, h1, h2⟩ := hx
    have h1 : 0 ≤ n := h1
    have h2 : n ≤ 255 := h2
    refine ⟨UInt8.ofNat n.toNat :: l, ?_⟩
    have : ((UInt8.ofNat n.toNat).toNat : Int) = n := by
      rw [UInt8.toNat_ofNat']
      omega
    rw [List.map_cons, this]
theorem strs_of {xs : List D} (h : ∀ y ∈ xs, HasTy .str y) : ∃ l : List (List UInt8), xs = l.map .str := by
  induction xs with
  | nil => exact ⟨[], rfl⟩
  | cons x r ih =>
    obtain ⟨l, rfl⟩ := ih fun y hy => h y (by simp [hy])
    have hx := h x (by simp)
    simp only [HasTy] at hx
    obtain ⟨s, rfl, _⟩ := hx
    exact ⟨s :: l, rfl⟩
def ansTy : Ty := .agg [.int .i64, .int .i64, .int .i64, .int .i64, .int .i64, .sl (.int .u8), .sl .str]
theorem ans_of {x : D} (h : HasTy ansTy x) : ∃ a : Ans, x = encAns a ∧ InB a.err ∧ InB a.ino ∧ InB a.links ∧ InB a.size := by
  unfold ansTy at h
  simp only [HasTy, HasL] at h
  obtain ⟨_, rfl, _, _, rfl, ⟨a, rfl, a1, a2⟩, _, _, rfl, ⟨b, rfl, b1, b2⟩, _, _, rfl, ⟨c, rfl, _⟩, _, _, rfl, ⟨d, rfl, d1, d2⟩, _, _, rfl, ⟨e, rfl, e1, e2⟩, _, _, rfl, ⟨f, rfl, _, hf⟩, _, _, rfl, ⟨g, rfl, _, hg⟩, rfl⟩ := h
  obtain ⟨l, rfl⟩ := u8_of (fun y hy => by simpa only [HasTy] using hf y hy)
  obtain ⟨m, rfl⟩ := strs_of (fun y hy => by simpa only [HasTy] using hg y hy)
  exact ⟨⟨a, b, c, d, e, l, m⟩, rfl, ⟨a1, a2⟩, ⟨b1, b2⟩, ⟨d1, d2⟩, ⟨e1, e2⟩⟩
theorem len2' {α : Type} {l : List α} (h : l.length = 2) : ∃ a b, l = [a, b] := by
  match l, h with
  | [a, b], _ => exact ⟨a, b, rfl⟩
set_option maxRecDepth 100000 in
theorem reportAnswers_lifted (os : Os) (started : os.Started) (H : Type) (enc : TypeId × Value → H) :
    ReturnsInHanded {} Tryd.checked os 3 .any (fun w args => (Rows.reportAnswersSpec.pre enc Tryd.prog Tryd.f3 [] false w args ∧ laidMetH Tryd.prog laid3 w) ∧ sizedMet enc Tryd.prog Tryd.f3 (OpenSpec.ofChange Rows.reportAnswersSpec) false w args)
      (Rows.reportAnswersSpec.post enc Tryd.prog Tryd.f3 false true false false) := by
  refine returnsInHanded_of_change_and (C := Tryd.checked) (X := fun w _ => laidMetH Tryd.prog laid3 w) (fun _ _ _ hh h => h.of_heap hh) Tryd.own started (by kernel_rfl) Tryd.func3
    (ChangeSpec.witness_shaped (enc := enc) (C := Tryd.checked) (os := os) (X := fun w _ => laidMetH Tryd.prog laid3 w) false (World.doorLaid Tryd.prog 400 os) #[.int .i64 0, .agg #[.int .i64 0, .int .i64 0, .int .i64 0, .int .i64 0, .int .i64 0, .slice Option.none 0 0, .slice Option.none 0 0]] 8 rfl (World.shaped_of_RefB (by kernel_rfl) (by kernel_rfl)) (by kernel_rfl) (by kernel_rfl) (by kernel_rfl) (door_met os _)) ?_
  intro W base args ds gs before hval0 hW _ _ hL _
  have hval : ∀ (j : Nat) t v, Tryd.f3.params[j]? = some t → args[j]? = some v → Value.okWide Tryd.prog W .any base t v := hval0
  have hW1 : DataW.Whole enc Tryd.prog Tryd.f3.params.toList Rows.reportAnswersSpec.vars false W args.toList ds gs before := hW
  have hW2 := hW1
  obtain ⟨p, q, hA, hV, rfl, hfz, hnd⟩ := hW1
  obtain ⟨zs, hz, hr⟩ := open_all (n := 8) (Ts := [.int .i64, ansTy]) hA (by kernel_rfl) (fun j t v hj hv => hval j t v (by simpa using hj) (by simpa using hv))
  have hz : ∃ y r, zs = y :: r ∧ HasTy (.int .i64) y ∧ ∃ y2 r2, r = y2 :: r2 ∧ HasTy ansTy y2 ∧ r2 = [] := by simpa only [HasL] using hz
  obtain ⟨y, r, rfl, hy, y2, r2, rfl, hy2, rfl⟩ := hz
  simp only [HasTy] at hy
  obtain ⟨dos, rfl, _, _⟩ := hy
  obtain ⟨a, rfl, h1, h2, h3, h4⟩ := ans_of hy2
  obtain ⟨d1, d2, rfl⟩ := len2' (trodAll_len hA)
  have hgs : gs = [] := trodVars_nil rfl hV
  subst hgs
  obtain ⟨n, hn⟩ := answers_ok dos a h1 h2 h3 h4
  refine (law_calls extC catchC hn hr (glob_of_laid hL)).mono fun e W' ⟨he, hb⟩ => ?_
  subst he
  exact ⟨_, rfl, law_post (t := 4) Tryd.laidOut (by kernel_rfl) hW2 rfl (by kernel_rfl) Tryd.underlying4 rfl hb⟩
theorem reportAnswers_holds : Rows.ReportAnswersSaid :=
  OpenClaim.holds_of_wide 3 Tryd.f3 rfl rfl rfl rfl rfl rfl rfl ⟨rfl, rfl, rfl, rfl, rfl⟩ rfl rfl rfl rfl rfl (by kernel_rfl) Tryd.func3 (by kernel_rfl)
    (of_decide_eq_true (by kernel_rfl)) (by unfold Func.isWrapper; first | (rw [if_pos (by decide +kernel)]; kernel_rfl) | (rw [if_neg (by decide +kernel)]; exact ⟨rfl, rfl⟩))
    (fun os started H enc _ => reportAnswers_lifted os started H enc)
theorem reportAnswers_card : Rows.ReportAnswersCardSaid :=
  Claim7.holds_tied_plain_at .later [] [.data, .data, .data] true (true, "83fa940680a6a52860010974920177e13ac217191cb5173fe72f2e29d8cb36c2") false
    reportAnswers_holds (fun _ h => by cases h) (by kernel_rfl) (fun _ h => by cases h) reportAnswers_row_tie rfl ⟨rfl, rfl⟩ (by kernel_rfl) rfl
    (fun f fn hf hfn => by
      obtain rfl : f = 3 := Option.some.inj ((show Tryd.prog.funcNamed "escheat/escheatlaw47.ReportAnswers" = some 3 by kernel_rfl).symm.trans hf) |>.symm
      obtain rfl : fn = Tryd.f3 := (Option.some.inj (Tryd.func3.symm.trans hfn)).symm
      exact ⟨by kernel_rfl, fun j t ht => by
        rw [Tryd.params3] at ht
        have hm : t ∈ [3, 25] := by simpa using Array.mem_of_getElem? ht
        have hall : ([3, 25].all fun u => !Tryd.prog.wantsStandIn u) = true := by kernel_rfl
        exact (show Tryd.prog.wantsStandIn t = false by simpa using List.all_eq_true.1 hall t hm)⟩)
    (by kernel_rfl)
end Go.Proofs.YtghllhghboaagaaDoor
