/- The statement's own code: escheatlaw29.HistStill comes to true. -/
import Derived.Test.YtghllhghboaagaaS11
set_option linter.unusedVariables false
set_option linter.unusedSimpArgs false
set_option maxRecDepth 100000
set_option maxHeartbeats 4000000
set_option linter.defProp false
section
namespace Go.Proofs.Ytghllhghboaagaa
open Go.Vm
theorem zfe {t u : List Node} : ∀ {L : List Slot} {ns : List Int}, (z9i t u L ns).length ≤ ns.length + 2 * L.length
 | [], ns => by show ns.length ≤ _; omega
 | s :: r, ns => by
  have e : z9i t u (s :: r) ns = z9i t u r (if getS (zS t) s = getS (zS u) s then ns else vZ (getS (zS u) s) (vZ (getS (zS t) s) ns)) := rfl
  rw [e]
  refine Nat.le_trans zfe ?_
  rw [List.length_cons]
  split
  ·omega
  ·have h1 := z2v (n := getS (zS u) s) (l := vZ (getS (zS t) s) ns)
   have h2 := z2v (n := getS (zS t) s) (l := ns)
   omega
theorem zft {t u : List Node} : ∀ {L : List Node} {ns : List Int}, (z99 t u L ns).length ≤ ns.length + L.length
 | [], ns => by show ns.length ≤ _; omega
 | s :: r, ns => by
  have e : z99 t u (s :: r) ns = z99 t u r (if z3p t u s then putL s.ino ns else ns) := rfl
  rw [e]
  refine Nat.le_trans zft ?_
  rw [List.length_cons]
  have := z4c (n := s.ino) (l := ns)
  split <;> omega
theorem Pair.nlen {t u : List Node} (h : Pair t u) : (tchN t u).length < 700000 ∧ (chgS t u).length < 200000 := by
 have h1 := zft (t := t) (u := u) (L := t ++ u) (ns := z9i t u (vQ [t, u]) [])
 have h2 := zfe (t := t) (u := u) (L := vQ [t, u]) (ns := [])
 have h3 := h.few
 have h4 := h.len
 have h5 : (chgS t u).length ≤ (vQ [t, u]).length := List.length_filter_le _ _
 have h6 : (tchN t u).length = (z99 t u (t ++ u) (z9i t u (vQ [t, u]) [])).length := rfl
 simp only [List.length_nil] at h2
 omega
theorem zts (l : List Opn) (hl : l.length ≤ 12) (hs : ∀ o ∈ l, o.a.length < 900000 ∧ o.b.length < 900000 ∧ o.data.length < 900000) (s : Slot) (R : Post) (x1 : V) : ∀ (k i : Nat) (t : List Node) (h : List (List Node)) (b : Bool) (v : V) (S : zA) (g2 g4 g9 gP gQ gM gF gD gG gH gC gA gB gK gE gL gI gJ gN gO gR gS gT gX gW gU gV gZ gY gi gf gg gh gj gk gm gn gr hY hZ xI gz xA xB xC hC hH hJ xD xE xF xG xH xJ xL xM xN xO xP g66 g67 g68 xQ xK xR xS xT xU xV xW xX xY xZ g80 g81 g82 g83 g84 g85 g86 g87 g88 : V), l.length - i = k → i ≤ l.length → Good2 i t → h.length = i + 1 → (∀ w ∈ h, Told2 w) → (b = false → ∀ w ∈ h, getS (zS w) s = getS (zS t) s) → HS S v h → S[0]? = some (.row [.d (zK s)] 79) → idOf v ≠ some 0 →
   (∀ S v b h c i' g2 g4 g5 g9 gP gQ gM gF gD gG gH gC gA gB gK gE gL gI gJ gN gO gR gS gT gX gW gU gV gZ gY gi gf gg gh gj gk gm gn gr hY hZ xI gz xA xB xC hC hH hJ xD xE xF xG xH xJ xL xM xN xO xP g66 g67 g68 xQ xK xR xS xT xU xV xW xX xY xZ g80 g81 g82 g83 g84 g85 g86 g87 g88, (b = false → ∀ w ∈ h, getS (zS w) s = c) → (∀ w ∈ h, Told2 w) → h.length < 800000 → HS S v h → S[0]? = some (.row [.d (zK s)] 79) → R (.exit 0) ((.d (.sl (l.map encOpn))) :: x1 :: g2 :: (.ref 0 0 0) :: g4 :: g5 :: v :: (.d (.bool b)) :: i' :: g9 :: gP :: gQ :: gM :: gF :: gD :: gG :: gH :: gC :: gA :: gB :: gK :: gE :: gL :: gI :: gJ :: gN :: gO :: gR :: gS :: gT :: gX :: gW :: gU :: gV :: gZ :: gY :: gi :: gf :: gg :: gh :: gj :: gk :: gm :: gn :: gr :: hY :: hZ :: xI :: gz :: xA :: xB :: xC :: hC :: hH :: hJ :: xD :: xE :: xF :: xG :: xH :: xJ :: xL :: xM :: xN :: xO :: xP :: g66 :: g67 :: g68 :: xQ :: xK :: xR :: xS :: xT :: xU :: xV :: xW :: xX :: xY :: xZ :: g80 :: g81 :: g82 :: g83 :: g84 :: g85 :: g86 :: g87 :: g88 :: []) S []) →
   Wp cfgU (.loop (lpOf (Try.f9.body.getD .skip) 0)) ((.d (.sl (l.map encOpn))) :: x1 :: g2 :: (.ref 0 0 0) :: g4 :: (.d (.sl (t.map zB))) :: v :: (.d (.bool b)) :: (.d (.int .i64 i)) :: g9 :: gP :: gQ :: gM :: gF :: gD :: gG :: gH :: gC :: gA :: gB :: gK :: gE :: gL :: gI :: gJ :: gN :: gO :: gR :: gS :: gT :: gX :: gW :: gU :: gV :: gZ :: gY :: gi :: gf :: gg :: gh :: gj :: gk :: gm :: gn :: gr :: hY :: hZ :: xI :: gz :: xA :: xB :: xC :: hC :: hH :: hJ :: xD :: xE :: xF :: xG :: xH :: xJ :: xL :: xM :: xN :: xO :: xP :: g66 :: g67 :: g68 :: xQ :: xK :: xR :: xS :: xT :: xU :: xV :: xW :: xX :: xY :: xZ :: g80 :: g81 :: g82 :: g83 :: g84 :: g85 :: g86 :: g87 :: g88 :: []) S [] R := by
  intro k
  induction k with
  | zero =>
    intro i t h b v S g2 g4 g9 gP gQ gM gF gD gG gH gC gA gB gK gE gL gI gJ gN gO gR gS gT gX gW gU gV gZ gY gi gf gg gh gj gk gm gn gr hY hZ xI gz xA xB xC hC hH hJ xD xE xF xG xH xJ xL xM xN xO xP g66 g67 g68 xQ xK xR xS xT xU xV xW xX xY xZ g80 g81 g82 g83 g84 g85 g86 g87 g88 hk hi hA hlen hT hb hv h0 hid hR
    have hie : i = l.length := by omega
    rw [qQ]
    refine qC ?_
    conv => arg 2; whnf
    simp (maxSteps:=1000000) (disch:=first|assumption|omega|rfl) only [↓gp, gc, Nat.reduceAdd, hPU]
    exact hR _ _ _ _ _ _ _ _ _ _ _ _ _ _ _ _ _ _ _ _ _ _ _ _ _ _ _ _ _ _ _ _ _ _ _ _ _ _ _ _ _ _ _ _ _ _ _ _ _ _ _ _ _ _ _ _ _ _ _ _ _ _ _ _ _ _ _ _ _ _ _ _ _ _ _ _ _ _ _ _ _ _ _ _ _ _ _ _ _ hb hT (by omega) hv h0
  | succ k ih =>
    intro i t h b v S g2 g4 g9 gP gQ gM gF gD gG gH gC gA gB gK gE gL gI gJ gN gO gR gS gT gX gW gU gV gZ gY gi gf gg gh gj gk gm gn gr hY hZ xI gz xA xB xC hC hH hJ xD xE xF xG xH xJ xL xM xN xO xP g66 g67 g68 xQ xK xR xS xT xU xV xW xX xY xZ g80 g81 g82 g83 g84 g85 g86 g87 g88 hk hi hA hlen hT hb hv h0 hid hR
    have hlt : i < l.length := by omega
    have h23 : i ≤ 23 := by omega
    have h24 : i + 1 ≤ 24 := by omega
    obtain ⟨hla, hlb, hld⟩ := hs _ (List.getElem_mem hlt)
    have hAu := hA.step (o := l[i]) h23
    rw [qQ]
    refine qC ?_
    conv => arg 2; whnf
    generalize heo : l[i] = o at *
    obtain ⟨u, hu⟩ : ∃ u, (jL t o).1 = u := ⟨_, rfl⟩
    rw [hu] at hAu
    have hP := Pair.of hA hAu (by omega) h24
    obtain ⟨hn1, hn2⟩ := hP.nlen
    have hsm : ¬ ((chgS t u).length : Int) + ((tchN t u).length : Int) = 0 ∨ t = u := by
      by_cases h1 : ((chgS t u).length : Int) + ((tchN t u).length : Int) = 0
      · right
        exact zvc hA hAu (by omega) h24 (List.length_eq_zero_iff.1 (by omega)) (List.length_eq_zero_iff.1 (by omega))
      · exact .inl h1
    have h01 : (S ++ [Ob.row [.d (z7u (jL t o).2)] 44])[0]? = some (.row [.d (zK s)] 79) := qA h0
    have hv1 := hv.keep (Keep.app (l := [Ob.row [.d (z7u (jL t o).2)] 44]))
    obtain ⟨v', S', c, e1, e2, e3, e4⟩ := zqm (t := u) hv1 (by omega)
    have h1v := hv.one
    simp (maxSteps:=1000000) (disch:=first|assumption|omega|rfl) only [↓gp, gc, Nat.reduceAdd, ↓vbs, hPU, heo, z44, zf44, zL, zI, zva hA.a h23 hla hlb, hu, zu5 hld, bo20, bo19, zp4 hP, bo35]
    refine zpn (chgS t u) (by omega) s _ _ _ _ _ _ _ _ _ _ h01 (chgS t u).length 0 b _ _ _ _ _ _ _ _ _ _ _ _ _ _ _ _ _ _ _ _ _ _ _ _ _ _ _ _ _ _ _ _ _ _ _ _ _ _ _ _ _ _ _ _ _ _ _ _ _ _ _ _ _ _ _ _ _ _ _ _ _ _ _ _ _ _ _ _ _ _ _ _ _ _ _ _ _ rfl (Nat.zero_le _) ?_
    intro j' g2 gP gD gG gH gC gA gB gK gE gL gI gJ gN gO gR gS gT gX gW gU gV gZ gY gi gf gg gh gj gk gm gn gr hY hZ xI gz xA xB xC hC hH hJ xD xE xF xG xH xJ xL xM xN xO xP g66 g67 g68 xQ xK xR xS xT xU xV xW xX xY xZ g80 g81 g82 g83 g84 g85 g86 g87 g88
    rw [List.drop_zero]
    have hfin : ∀ (b2 : Bool) (hb2 : b2 = (b || (chgS t u).any fun a => a == s)), b2 = false → ∀ w ∈ h ++ [u], getS (zS w) s = getS (zS u) s := fun b2 hb2 hf w hw => by
      rw [hb2, Bool.or_eq_false_iff] at hf
      have hns : s ∉ chgS t u := fun hh => by
        have := List.any_eq_false.1 hf.2 s hh
        simp at this
      have e := z9m hns
      rcases List.mem_append.1 hw with hw | hw
      · rw [hb hf.1 w hw, e]
      · rw [List.mem_singleton.1 hw]
    obtain ⟨b2, hb2⟩ : ∃ b2, (b || (chgS t u).any fun a => a == s) = b2 := ⟨_, rfl⟩
    have hfin := hfin b2 hb2.symm
    rw [hb2]
    have hT2 : ∀ w ∈ h ++ [u], Told2 w := fun w hw => by
      rcases List.mem_append.1 hw with hw | hw
      · exact hT w hw
      · rw [List.mem_singleton.1 hw]; exact hP.tu
    have h0' : S'[0]? = some (.row [.d (zK s)] 79) := e3 _ _ h01 hid
    have hid' : idOf v' ≠ some 0 := by
      rw [e4, List.length_append]
      intro hh
      cases hh
    rcases hsm with hsm | hsm
    · simp (maxSteps:=1000000) (disch:=first|assumption|omega|rfl) only [↓gp, gc, Nat.reduceAdd, ↓vbs, hPU, tyS, bs80, e1, h1v]
      exact ih (i + 1) u _ b2 v' S' _ _ _ _ _ _ _ _ _ _ _ _ _ _ _ _ _ _ _ _ _ _ _ _ _ _ _ _ _ _ _ _ _ _ _ _ _ _ _ _ _ _ _ _ _ _ _ _ _ _ _ _ _ _ _ _ _ _ _ _ _ _ _ _ _ _ _ _ _ _ _ _ _ _ _ _ _ _ _ _ _ _ (by omega) (by omega) hAu (by rw [List.length_append, hlen]; rfl) hT2 hfin (.inr e2) h0' hid' hR
    · have hdq : decide (t = u) = true := decide_eq_true hsm
      by_cases hz : ((chgS t u).length : Int) + ((tchN t u).length : Int) = 0
      · simp (maxSteps:=1000000) (disch:=first|assumption|omega|rfl) only [↓gp, gc, Nat.reduceAdd, ↓vbs, hPU, tyS, zsj hP, bo34, hdq, z19, Bool.not_true, bs80, e1, h1v]
        exact ih (i + 1) u _ b2 v' S' _ _ _ _ _ _ _ _ _ _ _ _ _ _ _ _ _ _ _ _ _ _ _ _ _ _ _ _ _ _ _ _ _ _ _ _ _ _ _ _ _ _ _ _ _ _ _ _ _ _ _ _ _ _ _ _ _ _ _ _ _ _ _ _ _ _ _ _ _ _ _ _ _ _ _ _ _ _ _ _ _ _ (by omega) (by omega) hAu (by rw [List.length_append, hlen]; rfl) hT2 hfin (.inr e2) h0' hid' hR
      · simp (maxSteps:=1000000) (disch:=first|assumption|omega|rfl) only [↓gp, gc, Nat.reduceAdd, ↓vbs, hPU, tyS, bs80, e1, h1v]
        exact ih (i + 1) u _ b2 v' S' _ _ _ _ _ _ _ _ _ _ _ _ _ _ _ _ _ _ _ _ _ _ _ _ _ _ _ _ _ _ _ _ _ _ _ _ _ _ _ _ _ _ _ _ _ _ _ _ _ _ _ _ _ _ _ _ _ _ _ _ _ _ _ _ _ _ _ _ _ _ _ _ _ _ _ _ _ _ _ _ _ _ (by omega) (by omega) hAu (by rw [List.length_append, hlen]; rfl) hT2 hfin (.inr e2) h0' hid' hR
theorem hstill_ok (l : List Opn) (s : Slot) : Ev cfgU 9 [.sl (l.map encOpn), zK s] (.ret (.d (.bool true))) := by
 refine z1r rfl rfl q1o ?_
 show Wp cfgU (Try.f9.body.getD .skip) ((.d (.sl (l.map encOpn))) :: (.d (zK s)) :: uZ (uZ (uZ (uZ (uZ (uZ (uZ (uZ ((.tup []) :: (.tup []) :: (.tup []) :: (.tup []) :: (.tup []) :: (.tup []) :: (.tup []) :: []))))))))) [] [] _
 unfold uZ
 conv => arg 2; whnf
 have h12 : (12 : Int) ≤ 1000 := by omega
 have q : ∀ S : zA, rowE (S ++ [Ob.row [.d (zK s)] 79]) S.length 0 = some (.d (zK s)) := fun S => zL
 have q0 := q []
 cases hm : zg1 l 12 with
 | true =>
  simp (maxSteps:=1000000) (disch:=first|assumption|omega|rfl) only [↓gp, gc, Nat.reduceAdd, hPU, tyS, zgr h12, hm, z8k, bo10, bo11]
  exact qN rfl rfl rfl
 | false =>
 by_cases hsl : (s.name.length : Int) > 60
 ·simp (maxSteps:=1000000) (disch:=first|assumption|omega|rfl) only [↓gp, gc, Nat.reduceAdd, hPU, tyS, zgr h12, hm, z8k, bo10, bo11, q0]
  exact qN rfl rfl rfl
 have hsc := zk7 h12 hm
 have hll : l.length ≤ 12 := by
  unfold zg1 at hm
  rw [Bool.or_eq_false_iff] at hm
  have := of_decide_eq_false hm.1
  omega
 have hs : ∀ o ∈ l, o.a.length < 900000 ∧ o.b.length < 900000 ∧ o.data.length < 900000 := fun o ho => ⟨by have := hsc.a o ho; omega, by have := hsc.b o ho; omega, by have := hsc.data o ho; omega⟩
 simp (maxSteps:=1000000) (disch:=first|assumption|omega|rfl) only [↓gp, gc, Nat.reduceAdd, ↓vbs, hPU, tyS, zgr h12, hm, bo10, q0, zut, bo17, bs80]
 refine zts l hll hs s _ _ l.length 0 newN [newN] false _ _ _ _ _ _ _ _ _ _ _ _ _ _ _ _ _ _ _ _ _ _ _ _ _ _ _ _ _ _ _ _ _ _ _ _ _ _ _ _ _ _ _ _ _ _ _ _ _ _ _ _ _ _ _ _ _ _ _ _ _ _ _ _ _ _ _ _ _ _ _ _ _ _ _ _ _ _ _ _ _ _ _ _ rfl (Nat.zero_le _) Good2.new rfl (fun w hw => by rw [List.mem_singleton.1 hw]; exact Good2.new.told2 (by omega)) (fun _ w hw => by rw [List.mem_singleton.1 hw]) (.inl rfl) rfl (by simp [idOf]) ?_
 intro S v b h c i' g2 g4 g5 g9 gP gQ gM gF gD gG gH gC gA gB gK gE gL gI gJ gN gO gR gS gT gX gW gU gV gZ gY gi gf gg gh gj gk gm gn gr hY hZ xI gz xA xB xC hC hH hJ xD xE xF xG xH xJ xL xM xN xO xP g66 g67 g68 xQ xK xR xS xT xU xV xW xX xY xZ g80 g81 g82 g83 g84 g85 g86 g87 g88 hb hT hlen hv h0
 have q1 := zC h0
 have h1v := hv.one
 cases b with
 | true =>
  simp (maxSteps:=1000000) (disch:=first|assumption|omega|rfl) only [↓gp, gc, Nat.reduceAdd, hPU, tyS, z8k, bo11]
  exact qN rfl rfl rfl
 | false =>
  have hle := zfb (hb rfl) (.inl rfl)
  have hdec : decide (((zb4 s h []).length : Int) ≤ 1) = true := decide_eq_true (by omega)
  simp (maxSteps:=1000000) (disch:=first|assumption|omega|rfl) only [↓gp, gc, Nat.reduceAdd, hPU, tyS, q1, zpy hv hT hlen, hdec, bo36, z8k, bo11, h1v]
  exact qN rfl rfl rfl
end Go.Proofs.Ytghllhghboaagaa
end
