/- HistStill: along any script a slot that no call touches is still, and a call that touches nothing leaves the tree as it was; for every input, and the input reads as it did. No condition. -/
import Derived.Test.YtghllhghboaagaaRows
import Derived.Test.YtghllhghboaagaaS12
namespace Go.Proofs.Ytghllhghboaagaa
open Go.ChangeShapes Go.WideShapes Go.ChangeAt Go.RowKit Go.Vm
theorem Try.own : ownKnob Try.prog.godebug = Option.none := by kernel_rfl
theorem Try.laidOut : laidOutB Try.prog = true := by kernel_rfl
def opnTy : Ty := .agg [.int .i64, .str, .str, .int .i64, .int .i64, .sl (.int .u8)]
theorem u8_of {xs : List D} (h : ∀ y ∈ xs, HasTy (.int .u8) y) : ∃ l : List UInt8, xs = l.map fun b => .int .u8 b.toNat := by
  induction xs with
  | nil => exact ⟨[], rfl⟩
  | cons x r ih =>
    obtain ⟨l, rfl⟩ := ih fun y hy => h y (by simp [hy])
    have hx := h x (by simp)
    simp only [HasTy] at hx
    obtain ⟨n, rfl, h1, h2⟩ := hx
    have h1 : 0 ≤ n := h1
    have h2 : n ≤ 255 := h2
    refine ⟨UInt8.ofNat n.toNat :: l, ?_⟩
    have : ((UInt8.ofNat n.toNat).toNat : Int) = n := by
      rw [UInt8.toNat_ofNat']
      omega
    rw [List.map_cons, this]
theorem opn_of {x : D} (h : HasTy opnTy x) : ∃ o : Opn, x = encOpn o := by
  unfold opnTy at h
  simp only [HasTy, HasL] at h
  obtain ⟨_, rfl, _, _, rfl, ⟨a, rfl, _⟩, _, _, rfl, ⟨b, rfl, _⟩, _, _, rfl, ⟨c, rfl, _⟩, _, _, rfl, ⟨d, rfl, _⟩, _, _, rfl, ⟨e, rfl, _⟩, _, _, rfl, ⟨f, rfl, _, hf⟩, rfl⟩ := h
  obtain ⟨l, rfl⟩ := u8_of (fun y hy => by simpa only [HasTy] using hf y hy)
  exact ⟨⟨a, b, c, d, e, l⟩, rfl⟩
theorem opns_of {xs : List D} (h : ∀ y ∈ xs, HasTy opnTy y) : ∃ l : List Opn, xs = l.map encOpn := by
  induction xs with
  | nil => exact ⟨[], rfl⟩
  | cons x r ih =>
    obtain ⟨l, rfl⟩ := ih fun y hy => h y (by simp [hy])
    obtain ⟨o, rfl⟩ := opn_of (h x (by simp))
    exact ⟨o :: l, rfl⟩
theorem len2' {α : Type} {l : List α} (h : l.length = 2) : ∃ a b, l = [a, b] := by
  match l, h with
  | [a, b], _ => exact ⟨a, b, rfl⟩
set_option maxRecDepth 100000 in
theorem histStill_lifted (os : Os) (started : os.Started) (H : Type) (enc : TypeId × Value → H) :
    ReturnsInHanded {} Try.checked os 9 .any (Rows.histStillSpec.pre6 enc Try.prog Try.f9 Rows.histStillRow.domain false) (Rows.histStillSpec.post enc Try.prog Try.f9 false true false false) := by
  refine returnsInHanded_of_change (C := Try.checked) Try.own started (by kernel_rfl) Try.func9
    (ChangeSpec.witness6 (enc := enc) (C := Try.checked) false ⟨#[], #[.slice Option.none 0 0, .agg #[.int .i64 0, .string ⟨#[]⟩]], []⟩ 8 (by kernel_rfl) (by kernel_rfl) (by kernel_rfl) (by kernel_rfl)) ?_
  intro W base args ds gs before hval0 hW hcnd _
  have hval : ∀ (j : Nat) t v, Try.f9.params[j]? = some t → args[j]? = some v → Value.okWide Try.prog W .any base t v := hval0
  have hW1 : DataW.Whole enc Try.prog Try.f9.params.toList Rows.histStillSpec.vars false W args.toList ds gs before := hW
  have hW2 := hW1
  obtain ⟨p, q, hA, hV, rfl, hfz, hnd⟩ := hW1
  obtain ⟨zs, hz, hr⟩ := open_all (n := 8) (Ts := [.sl opnTy, .agg [.int .i64, .str]]) hA (by kernel_rfl) (fun j t v hj hv => hval j t v (by simpa using hj) (by simpa using hv))
  have hz : ∃ y r, zs = y :: r ∧ HasTy (.sl opnTy) y ∧ ∃ y2 r2, r = y2 :: r2 ∧ HasTy (.agg [.int .i64, .str]) y2 ∧ r2 = [] := by simpa only [HasL] using hz
  obtain ⟨y, r, rfl, hy, y2, r2, rfl, hy2, rfl⟩ := hz
  have hy : ∃ xs, y = .sl xs ∧ xs.length ≤ maxLen ∧ ∀ z ∈ xs, HasTy opnTy z := by simpa only [HasTy] using hy
  obtain ⟨xs, rfl, _, hxs⟩ := hy
  obtain ⟨l, rfl⟩ := opns_of hxs
  simp only [HasTy, HasL] at hy2
  obtain ⟨_, rfl, _, _, rfl, ⟨a, rfl, _⟩, _, _, rfl, ⟨b, rfl, _⟩, rfl⟩ := hy2
  obtain ⟨d1, d2, rfl⟩ := len2' (trodAll_len hA)
  have hgs : gs = [] := trodVars_nil rfl hV
  subst hgs
  obtain ⟨n, hn⟩ := hstill_ok l ⟨a, b⟩
  refine (law_calls extU catchU hn hr).mono fun e W' ⟨he, hb⟩ => ?_
  subst he
  exact ⟨_, rfl, law_post (t := 4) Try.laidOut (by kernel_rfl) hW2 rfl (by kernel_rfl) Try.underlying4 rfl hb⟩
theorem histStill_holds : Rows.HistStillSaid :=
  OpenClaim.holds_of_wide 9 Try.f9 rfl rfl rfl rfl rfl rfl rfl ⟨rfl, rfl, rfl, rfl, rfl⟩ rfl rfl rfl rfl rfl (by kernel_rfl) Try.func9 (by kernel_rfl)
    (of_decide_eq_true (by kernel_rfl)) (by unfold Func.isWrapper; first | (rw [if_pos (by decide +kernel)]; kernel_rfl) | (rw [if_neg (by decide +kernel)]; exact ⟨rfl, rfl⟩))
    (fun os started H enc _ => histStill_lifted os started H enc)
end Go.Proofs.Ytghllhghboaagaa
