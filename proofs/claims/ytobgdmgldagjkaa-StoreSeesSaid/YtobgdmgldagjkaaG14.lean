/- StoreSees: the statement's code, whole; the machine is told the example. -/
import Derived.Test.YtobgdmgldagjkaaG13
set_option linter.unusedVariables false
set_option linter.unusedSimpArgs false
set_option maxRecDepth 100000
set_option maxHeartbeats 4000000
set_option linter.defProp false
section
namespace Go.Proofs.Ytobgdmgldagjkaa
open Go.Vm
theorem sees_ok (l : Lay) (hb : InB l.blocks) (hi : InB l.inodes) (hM : 0 ≤ l.merge ∧ l.merge < 18446744073709551616) (steps : List Stp) (hat : ∀ s ∈ steps, InB s.at_) : Ev cfg 6 [encLay l, .sl (steps.map encStp)] (.ret (.d (.bool true))) := by
 have hc := fun {ops dst k T S F Q} => zcg (ops := ops) (dst := dst) (k := k) (T := T) (S := S) (F := F) (Q := Q) hb hi
 refine jW rfl rfl q0c ?_
 show Wp cfg (Try.f6.body.getD .skip) ((.d (encLay l)) :: (.d (.sl (steps.map encStp))) :: uZ (uZ (uZ (uZ (uZ (uZ (uZ (uZ (uZ (uZ (uZ (uZ (uZ ((.tup []) :: (.tup []) :: (.tup []) :: (.tup []) :: [])))))))))))))) [] [] _
 unfold uZ
 conv => arg 2; whnf
 by_cases hs : MayL l ∧ l.blocks ≤ 60
 ·rw [decide_eq_true hs] at hc
  rcases ztf steps with hmu | ⟨h16, hsz, hmu⟩
  ·have hmc : ∀ {ops dst k T S F Q}, WpR cfg ops dst k T S F Q (some (.enter 39 [.d (.sl (steps.map encStp)), .d (.int .i64 16)])) = WpL cfg ops k (putT T dst (.d (.bool true))) S F Q := fun {ops dst k T S F Q} => qA (C := cfg) (ds := [.sl (steps.map encStp), .int .i64 16]) rfl hmu
   simp (maxSteps:=1000000) (disch:=first|assumption|omega|rfl) only [↓gp, gc, Nat.reduceAdd, lr24, hc, bo27, kJ, Bool.not_true, hmc, bo39, z2h, bo7]
   exact zO rfl rfl rfl
  ·have hmc : ∀ {ops dst k T S F Q}, WpR cfg ops dst k T S F Q (some (.enter 39 [.d (.sl (steps.map encStp)), .d (.int .i64 16)])) = WpL cfg ops k (putT T dst (.d (.bool false))) S F Q := fun {ops dst k T S F Q} => qA (C := cfg) (ds := [.sl (steps.map encStp), .int .i64 16]) rfl hmu
   obtain ⟨hm, h60⟩ := hs
   have hm' := hm
   obtain ⟨m1, m2, m3, m4, m5, m6⟩ := hm'
   have htd : l.inodes.tdiv 8 = l.inodes / 8 := Int.tdiv_eq_ediv_of_nonneg (by omega)
   have htm : l.inodes.tmod 8 = l.inodes % 8 := Int.tmod_eq_emod_of_nonneg (by omega)
   rw [htd] at m6
   rw [htm] at m5
   obtain ⟨B, I, M, K, hl, hK, hB, hI, hI8, hMM, hK16, hKB, hIB⟩ : ∃ B I M K : Nat, l = ⟨(B : Int), (I : Int), (M : Int)⟩ ∧ 2 + l.inodes.tdiv 8 = ((2 + K : Nat) : Int) ∧ B ≤ 60 ∧ I ≤ 128 ∧ 8 ≤ I ∧ M < 18446744073709551616 ∧ K ≤ 16 ∧ 2 + K < B ∧ 2 + I / 8 ≤ B := by
    refine ⟨l.blocks.toNat, l.inodes.toNat, l.merge.toNat, (l.inodes / 8).toNat, ?_, by rw [htd]; omega, by omega, by omega, by omega, by omega, by omega, by omega, by omega⟩
    cases l
    simp only [Lay.mk.injEq]
    simp only at m1 m3 hM
    omega
   obtain ⟨o, S1, ⟨hK1, d, x, c, r, m, mk, rfl, h1⟩, hE⟩ := qR (zo5 [.row [.d (encLay l)] 24] l B I M K hl (by omega) hI hMM hm hK hK16 hKB)
   have hE := fun {ops dst k T F Q} => zQ (ops := ops) (dst := dst) (l := k) (T := T) (F := F) (Q := Q) rfl hE
   obtain ⟨o, S2, ⟨hK2, v2, rfl, hV2⟩, hE2⟩ := qR (ze0 S1 x c mk _ _ _ 0 h1.hx)
   have hE2 := fun {ops dst k T F Q} => zQ (ops := ops) (dst := dst) (l := k) (T := T) (F := F) (Q := Q) rfl hE2
   have h2 := h1.keep hK2
   obtain ⟨o, S3, ⟨hF3, hC3, idw, ws, rfl, hidw, hrow, hI3⟩, hE3⟩ := qR (zdb S2 v2 _ c r m l _ (CacheIn.of h2.ca) hV2 h2.hB hb hi hm)
   have hE3 := fun {ops dst k T F Q} => zQ (ops := ops) (dst := dst) (l := k) (T := T) (F := F) (Q := Q) rfl hE3
   have h3 := h2.step hF3 hC3.at rfl
   have hv1 : v2.one = true := by obtain ⟨g, rfl, _⟩ := hV2; rfl
   have hrl : r < S1.length := by obtain ⟨_, _, _, _, _, _, _, _, h, _⟩ := h1.ca; exact zN h.dk.hr
   have hl2 := hK2.len
   have hBn : (C0 B I M K).img.length = B := zc6
   rw [hBn] at hE3 hI3
   simp (maxSteps:=1000000) (disch:=first|assumption|omega|rfl) only [↓gp, gc, Nat.reduceAdd, lr24, hc, bo27, kJ, Bool.not_true, hmc, bo39, hE, bo40, zjp, hE2, bo21, hv1, hE3, bo22]
   refine zvj x c r m mk l hb hi hm steps h16 (fun s hs => ⟨hat s hs, (hsz s hs).1, (hsz s hs).2⟩) B (by rw [hl]) _ steps.length 0 S3 0 (C0 B I M K) (fun _ => none) 0 idw ws _ _ _ _ _ _ _ _ _ _ _ _ _ _ _ _ _ _ _ _ _ _ _ _ _ _ _ _ _ _ _ _ _ _ _ _ _ _ _ _ _ _ _ _ _ _ _ _ _ _ _ _ _ _ _ _ _ _ _ _ _ _ _ _ _ _ _ _ _ _ _ _ _ _ _ _ _ _ _ _ _ _ _ _ _ _ _ _ _ _ _ _ _ _ _ _ _ _ _ _ _ _ _ _ _ _ _ _ _ _ _ _ _ _ _ _ _ _ _ _ _ _ _ _ _ _ _ _ _ _ _ _ rfl (Nat.zero_le _) h3 (fun n v hv => by cases hv) (Nat.le_refl _) (Nat.le_refl _) hrow (by omega) hI3 ?_
   intro S4 idw2 i' g0 g2 g3 g4 g5 g9 gM gF gG gB gC gA gE gH gI gD gL gN gK gJ gO gP gW gT gU gQ gR gS gV gX gY gf gg gZ gh gj gk gn gr gz hZ xC hH hJ hU hY xA xB xD xE xF xG xH xI xJ xK xL xM xN xO xP xQ xR xS xT xU xV xW xX xY xZ g75 g76 g77 g78 g79 g80 g81 g82 g83 g84 g85 g86 g87 g88 g89 g90 g91 g92 g93 g94 g95 g96 g97 g98 g99 g100 g101 g102 g103 g104 g105 g106 g107 g108 g109 g110 g111 g112 g113 g114 g115 g116 g117 g118 g119 g120 g121 g122 g123 g124 g125 g126 g127 g128 g129 g130 g131 g132 g133 g134 g135
   simp (maxSteps:=1000000) (disch:=first|assumption|omega|rfl) only [↓gp, gc, Nat.reduceAdd, z2h, bo7]
   exact zO rfl rfl rfl
 ·rw [decide_eq_false hs] at hc
  simp (maxSteps:=1000000) (disch:=first|assumption|omega|rfl) only [↓gp, gc, Nat.reduceAdd, lr24, hc, bo27, kJ, Bool.not_false, z2h, bo7]
  exact zO rfl rfl rfl
theorem ext_ok : kD cfg := by
 intro f g h ds o ho
 have hf : f = 7 := by
  cases hb : Nat.beq f 7 with
  | true => exact Nat.eq_of_beq_eq_true hb
  | false => simp [cfg, hb] at h
 subst hf
 have hg : g = zjg := by
  have h : some zjg = some g := h
  exact (Option.some.inj h).symm
 subst hg
 cases ds with
 | cons x r => cases ho
 | nil =>
  have ho : some (Out.ret (.d (.bool true))) = some o := ho
  simp only [Option.some.injEq] at ho
  subst ho
  exact ze7 zio zpm 100000 7 [] _ zkz
theorem catch_ok : z8e cfg := fun f post h => by cases h
end Go.Proofs.Ytobgdmgldagjkaa
end
