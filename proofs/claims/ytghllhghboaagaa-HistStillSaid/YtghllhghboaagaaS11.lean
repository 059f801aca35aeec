/- hist.slots: which number each slot tells. -/
import Derived.Test.YtghllhghboaagaaS10
set_option linter.unusedVariables false
set_option linter.unusedSimpArgs false
set_option maxRecDepth 100000
set_option maxHeartbeats 4000000
set_option linter.defProp false
section
namespace Go.Proofs.Ytghllhghboaagaa
open Go.Vm
def z6o (n : Node) (l : List Ent) : List (Slot × Int) := l.map fun e => (⟨n.ino, e.name⟩, e.ino)
def zS (t : List Node) : List (Slot × Int) := t.flatMap fun n => z6o n n.names
theorem zv2 {P : Program} {S : zA} {ts : List TypeId} {x : Int} (h : 0 < x) : zY P S .max ts [.d (.int .i64 0), .d (.int .i64 x)] = some (.val (.d (.int .i64 x)) S 0) := by
 have h2 : x > 0 := h
 simp only [zY, zd2, zlk, if_true, if_pos h2, Option.map_some]
theorem bd84 {a : Int} {s : List UInt8} : z1j Try.prog 84 [(0, .d (.int .i64 a)), (1, .d (.str s))] = some (.agg [.d (.int .i64 a), .d (.str s)]) := by kernel_rfl
theorem zpp (n : Node) (hk : n.names ≠ [] → n.kind = 2) (hnn : (n.names.map (·.name)).Nodup) (hpos : ∀ e ∈ n.names, 0 < e.ino) (hl : n.names.length < 1000000) (a b m : Nat) (R : Post) (x0 x2 x14 x15 x16 : V) : ∀ (k j : Nat) (S : zA) (M : List (Slot × Int)) (g1 g5 g7 g8 g9 gP gQ gM gF gC gA gB gK gE gL gI gJ gN gO gR gS gU gV gZ gY gi gf gg gh gj gk gm gn gr hY hZ xI gz xA xB xC hC hH hJ xD xE xF xG xH xJ : V), n.names.length - j = k → j ≤ n.names.length → MapS S a M → S[m]? = some (.row [.d (zB n)] 32) → (∀ e ∈ n.names.drop j, (⟨n.ino, e.name⟩ : Slot) ∉ M.map (·.1)) →
 (∀ S' j' g1 g5 g7 g8 g9 gP gQ gM gF gC gA gB gK gE gL gI gJ gN gO gR gS gU gV gZ gY gi gf gg gh gj gk gm gn gr hY hZ xI gz xA xB xC hC hH hJ xD xE xF xG xH xJ, MapS S' a (M ++ z6o n (n.names.drop j)) → (∀ q o, q ≠ a → S[q]? = some o → S'[q]? = some o) → R (.exit 2) (x0 :: g1 :: x2 :: (.mr a) :: (.mr b) :: g5 :: (.ref m 0 0) :: g7 :: g8 :: g9 :: gP :: gQ :: gM :: gF :: x14 :: x15 :: x16 :: gC :: gA :: gB :: gK :: gE :: gL :: gI :: gJ :: gN :: gO :: gR :: gS :: (.d (.sl (n.names.map zJ))) :: (.d (.int .i64 n.names.length)) :: j' :: gU :: gV :: gZ :: gY :: gi :: gf :: gg :: gh :: gj :: gk :: gm :: gn :: gr :: hY :: hZ :: xI :: gz :: xA :: xB :: xC :: hC :: hH :: hJ :: xD :: xE :: xF :: xG :: xH :: xJ :: []) S' []) →
 Wp cfg (.loop (lpOf (Try.f69.body.getD .skip) 2)) (x0 :: g1 :: x2 :: (.mr a) :: (.mr b) :: g5 :: (.ref m 0 0) :: g7 :: g8 :: g9 :: gP :: gQ :: gM :: gF :: x14 :: x15 :: x16 :: gC :: gA :: gB :: gK :: gE :: gL :: gI :: gJ :: gN :: gO :: gR :: gS :: (.d (.sl (n.names.map zJ))) :: (.d (.int .i64 n.names.length)) :: (.d (.int .i64 j)) :: gU :: gV :: gZ :: gY :: gi :: gf :: gg :: gh :: gj :: gk :: gm :: gn :: gr :: hY :: hZ :: xI :: gz :: xA :: xB :: xC :: hC :: hH :: hJ :: xD :: xE :: xF :: xG :: xH :: xJ :: []) S [] R := by
 intro k
 induction k with
 | zero =>
  intro j S M g1 g5 g7 g8 g9 gP gQ gM gF gC gA gB gK gE gL gI gJ gN gO gR gS gU gV gZ gY gi gf gg gh gj gk gm gn gr hY hZ xI gz xA xB xC hC hH hJ xD xE xF xG xH xJ hkj hj hM hm hf hR
  have hje : j = n.names.length := by omega
  rw [qQ]
  refine qC ?_
  conv => arg 2; whnf
  simp (maxSteps:=1000000) (disch:=first|assumption|omega|rfl) only [↓gp, gc, Nat.reduceAdd]
  refine hR _ _ _ _ _ _ _ _ _ _ _ _ _ _ _ _ _ _ _ _ _ _ _ _ _ _ _ _ _ _ _ _ _ _ _ _ _ _ _ _ _ _ _ _ _ _ _ _ _ _ _ _ ?_ (fun _ _ _ h => h)
  rw [hje, List.drop_length]
  show MapS S a (M ++ [])
  rw [List.append_nil]
  exact hM
 | succ k ih =>
  intro j S M g1 g5 g7 g8 g9 gP gQ gM gF gC gA gB gK gE gL gI gJ gN gO gR gS gU gV gZ gY gi gf gg gh gj gk gm gn gr hY hZ xI gz xA xB xC hC hH hJ xD xE xF xG xH xJ hkj hj hM hm hf hR
  have hlt : j < n.names.length := by omega
  have hd : n.names.drop j = n.names[j] :: n.names.drop (j + 1) := List.drop_eq_getElem_cons hlt
  have hk2 := hk (fun hh => by rw [hh] at hlt; exact absurd hlt (by simp))
  have hpe := hpos _ (List.getElem_mem hlt)
  have hnd : ∀ e ∈ n.names.drop (j + 1), e.name ≠ n.names[j].name := fun e he hh => by
   have h1 : (n.names.drop j).map (·.name) = n.names[j].name :: (n.names.drop (j + 1)).map (·.name) := by rw [hd]; rfl
   have h2 : ((n.names.drop j).map (·.name)).Nodup := hnn.sublist ((List.drop_sublist j n.names).map _)
   rw [h1, List.nodup_cons] at h2
   exact h2.1 (hh ▸ List.mem_map_of_mem he)
  rw [hd] at hf hR
  generalize hee : n.names[j] = e at *
  have hfe := hf e (by simp)
  obtain ⟨S1, hS1⟩ : ∃ S1, S ++ [Ob.row [.d (zJ e)] 88] = S1 := ⟨_, rfl⟩
  obtain ⟨S2, hS2⟩ : ∃ S2, S1 ++ [Ob.row [.agg [.d (.int .i64 n.ino), .d (.str e.name)]] 84] = S2 := ⟨_, rfl⟩
  have hM2 : MapS S2 a M := by rw [← hS2, ← hS1]; exact hM.app.app
  have hlk := zpm KeyV.agg hM2 hfe
  obtain ⟨S3, hup, hM3, hk3⟩ := zsi (v := e.ino) KeyV.agg hM2 (k := ⟨n.ino, e.name⟩)
  rw [zq3 hfe] at hM3
  have q6 := zC (show S1[m]? = _ by rw [← hS1]; exact qA hm)
  have q6b := zC (show S2[m]? = _ by rw [← hS2, ← hS1]; exact qA (qA hm))
  have q8 := zC (show S1[S.length]? = _ by rw [← hS1]; exact qK)
  have q8b := zC (show S2[S.length]? = _ by rw [← hS2, ← hS1]; exact qA qK)
  have q9 := zC (show S2[S1.length]? = _ by rw [← hS2]; exact qK)
  rw [qQ]
  refine qC ?_
  conv => arg 2; whnf
  simp (maxSteps:=1000000) (disch:=first|assumption|omega|rfl) only [↓gp, gc, Nat.reduceAdd, tyS, hee, z88, zf88, zL, zI, hS1, hS2, q6, q6b, q8, q8b, q9, bd84, hlk, hup, zv2, z19, Bool.not_false, Option.map_some]
  have hma : m ≠ a := fun hh => by
   obtain ⟨es, c, h1, _⟩ := hM
   rw [hh, h1] at hm
   cases hm
  have hk2' : ∀ q o, q ≠ a → S[q]? = some o → S3[q]? = some o := fun q o hq h => (hk3 q hq).trans (by rw [← hS2, ← hS1]; exact qA (qA h))
  refine ih (j + 1) S3 _ _ _ _ _ _ _ _ _ _ _ _ _ _ _ _ _ _ _ _ _ _ _ _ _ _ _ _ _ _ _ _ _ _ _ _ _ _ _ _ _ _ _ _ _ _ _ _ _ _ _ (by omega) (by omega) hM3 (hk2' m _ hma hm) (fun e' he' hh => ?_) ?_
  ·rw [List.map_append, List.mem_append] at hh
   rcases hh with hh | hh
   ·exact hf e' (by simp [he']) hh
   ·simp only [List.map_cons, List.map_nil, List.mem_singleton, Slot.mk.injEq, true_and] at hh
    exact hnd e' he' hh
  ·intro S' j' g1 g5 g7 g8 g9 gP gQ gM gF gC gA gB gK gE gL gI gJ gN gO gR gS gU gV gZ gY gi gf gg gh gj gk gm gn gr hY hZ xI gz xA xB xC hC hH hJ xD xE xF xG xH xJ h1 h2
   refine hR S' j' _ _ _ _ _ _ _ _ _ _ _ _ _ _ _ _ _ _ _ _ _ _ _ _ _ _ _ _ _ _ _ _ _ _ _ _ _ _ _ _ _ _ _ _ _ _ _ _ _ _ ?_ (fun q o hq h => h2 q o hq (hk2' q o hq h))
   rw [List.append_assoc] at h1
   exact h1
theorem zbb {t : List Node} {s : Slot} (h : s ∈ (zS t).map (·.1)) : ∃ n ∈ t, s.dir = n.ino := by
 obtain ⟨p, hp, rfl⟩ := List.mem_map.1 h
 obtain ⟨n, hn, hp⟩ := List.mem_flatMap.1 hp
 obtain ⟨e, _, rfl⟩ := List.mem_map.1 hp
 exact ⟨n, hn, rfl⟩
theorem zhf {t : List Node} {i : Nat} (h : i < t.length) : zS (t.take (i + 1)) = zS (t.take i) ++ z6o t[i] t[i].names := by
 rw [List.take_add_one, List.getElem?_eq_getElem h]
 show zS (t.take i ++ [t[i]]) = _
 unfold zS
 rw [List.flatMap_append]
 simp
theorem zle (t : List Node) (hsr : Srt t) (hk : ∀ n ∈ t, n.names ≠ [] → n.kind = 2) (hnn : ∀ n ∈ t, (n.names.map (·.name)).Nodup) (hpos : ∀ n ∈ t, ∀ e ∈ n.names, 0 < e.ino) (hl : t.length < 1000000) (hln : ∀ n ∈ t, n.names.length < 1000000) (S0 : zA) (a b : Nat) (ha : S0.length ≤ a) (hb : S0.length ≤ b) (hab : a ≠ b) (R : Post) (x2 : V) : ∀ (k i : Nat) (S : zA) (Ms : List (Int × Int)) (g1 g5 g6 g7 g8 g9 gP gQ gM gF gC gA gB gK gE gL gI gJ gN gO gR gS gT gX gW gU gV gZ gY gi gf gg gh gj gk gm gn gr hY hZ xI gz xA xB xC hC hH hJ xD xE xF xG xH xJ : V), t.length - i = k → i ≤ t.length → MapS S a (zS (t.take i)) → MapI S b Ms → (∀ n ∈ t.drop i, getI Ms n.ino = 0) → Keep S0 S →
 (∀ S' i' g1 g5 g6 g7 g8 g9 gP gQ gM gF gC gA gB gK gE gL gI gJ gN gO gR gS gT gX gW gU gV gZ gY gi gf gg gh gj gk gm gn gr hY hZ xI gz xA xB xC hC hH hJ xD xE xF xG xH xJ, MapS S' a (zS t) → Keep S0 S' → R (.exit 0) ((.d (.sl (t.map zB))) :: g1 :: x2 :: (.mr a) :: (.mr b) :: g5 :: g6 :: g7 :: g8 :: g9 :: gP :: gQ :: gM :: gF :: (.d (.sl (t.map zB))) :: (.d (.int .i64 t.length)) :: i' :: gC :: gA :: gB :: gK :: gE :: gL :: gI :: gJ :: gN :: gO :: gR :: gS :: gT :: gX :: gW :: gU :: gV :: gZ :: gY :: gi :: gf :: gg :: gh :: gj :: gk :: gm :: gn :: gr :: hY :: hZ :: xI :: gz :: xA :: xB :: xC :: hC :: hH :: hJ :: xD :: xE :: xF :: xG :: xH :: xJ :: []) S' []) →
 Wp cfg (.loop (lpOf (Try.f69.body.getD .skip) 0)) ((.d (.sl (t.map zB))) :: g1 :: x2 :: (.mr a) :: (.mr b) :: g5 :: g6 :: g7 :: g8 :: g9 :: gP :: gQ :: gM :: gF :: (.d (.sl (t.map zB))) :: (.d (.int .i64 t.length)) :: (.d (.int .i64 i)) :: gC :: gA :: gB :: gK :: gE :: gL :: gI :: gJ :: gN :: gO :: gR :: gS :: gT :: gX :: gW :: gU :: gV :: gZ :: gY :: gi :: gf :: gg :: gh :: gj :: gk :: gm :: gn :: gr :: hY :: hZ :: xI :: gz :: xA :: xB :: xC :: hC :: hH :: hJ :: xD :: xE :: xF :: xG :: xH :: xJ :: []) S [] R := by
 intro k
 induction k with
 | zero =>
  intro i S Ms g1 g5 g6 g7 g8 g9 gP gQ gM gF gC gA gB gK gE gL gI gJ gN gO gR gS gT gX gW gU gV gZ gY gi gf gg gh gj gk gm gn gr hY hZ xI gz xA xB xC hC hH hJ xD xE xF xG xH xJ hki hi hM hI hz hK hR
  have hie : i = t.length := by omega
  rw [hie, List.take_length] at hM
  rw [qQ]
  refine qC ?_
  conv => arg 2; whnf
  simp (maxSteps:=1000000) (disch:=first|assumption|omega|rfl) only [↓gp, gc, Nat.reduceAdd]
  exact hR _ _ _ _ _ _ _ _ _ _ _ _ _ _ _ _ _ _ _ _ _ _ _ _ _ _ _ _ _ _ _ _ _ _ _ _ _ _ _ _ _ _ _ _ _ _ _ _ _ _ _ _ _ _ _ _ hM hK
 | succ k ih =>
  intro i S Ms g1 g5 g6 g7 g8 g9 gP gQ gM gF gC gA gB gK gE gL gI gJ gN gO gR gS gT gX gW gU gV gZ gY gi gf gg gh gj gk gm gn gr hY hZ xI gz xA xB xC hC hH hJ xD xE xF xG xH xJ hki hi hM hI hz hK hR
  have hlt : i < t.length := by omega
  have hn := List.getElem_mem hlt
  have hd : t.drop i = t[i] :: t.drop (i + 1) := List.drop_eq_getElem_cons hlt
  have hzi : getI Ms t[i].ino = 0 := hz _ (by rw [hd]; exact List.mem_cons_self)
  have hsn := zhf hlt
  have hne : ∀ n' ∈ t.drop (i + 1), t[i].ino ≠ n'.ino := fun n' hn' => by
   obtain ⟨q, hq, rfl⟩ := List.getElem_of_mem hn'
   rw [List.getElem_drop]
   rw [List.length_drop] at hq
   have := zrh hsr (i := i) (j := i + 1 + q) (by omega) (by omega)
   omega
  have hfr : ∀ e ∈ t[i].names, (⟨t[i].ino, e.name⟩ : Slot) ∉ (zS (t.take i)).map (·.1) := fun e he hh => by
   obtain ⟨n', hn', h2⟩ := zbb hh
   obtain ⟨q, hq, rfl⟩ := List.getElem_of_mem hn'
   rw [List.getElem_take] at h2
   rw [List.length_take] at hq
   have := zrh hsr (i := q) (j := i) (by omega) hlt
   have h2 : t[i].ino = t[q].ino := h2
   omega
  have hz2 : ∀ n' ∈ t.drop (i + 1), getI (updI Ms t[i].ino 1) n'.ino = 0 := fun n' hn' => by
   rw [zi8, if_neg (fun hh => hne n' hn' hh.symm)]
   exact hz n' (by rw [hd]; exact List.mem_cons_of_mem _ hn')
  have hk' := hk _ hn
  have hnn' := hnn _ hn
  have hpos' := hpos _ hn
  have hln' := hln _ hn
  rw [qQ]
  refine qC ?_
  conv => arg 2; whnf
  generalize hee : t[i] = n at *
  have hl0 := zxp (k := n.ino) (hI.app (l := [Ob.row [.d (zB n)] 32]))
  rw [hzi] at hl0
  obtain ⟨S2, hup, hI2, hk2⟩ := q1h (k := n.ino) (v := 1) (hI.app (l := [Ob.row [.d (zB n)] 32]))
  have hlS : S.length ≠ b := fun hh => by
   obtain ⟨es, c, h1, _⟩ := hI
   have := zZ h1
   omega
  have hm2 : S2[S.length]? = some (.row [.d (zB n)] 32) := (hk2 _ hlS).trans qK
  have hM2 : MapS S2 a (zS (t.take i)) := hM.app.keep (hk2 a hab)
  have q := zC (qK (S := S) (o := Ob.row [.d (zB n)] 32))
  have q2 := zC hm2
  simp (maxSteps:=1000000) (disch:=first|assumption|omega|rfl) only [↓gp, gc, Nat.reduceAdd, tyS, hee, z32, zf32, zL, zI, q, q2, hl0, hup, dne, Option.map_some]
  refine zpp n hk' hnn' hpos' hln' a b S.length _ _ _ _ _ _ n.names.length 0 S2 _ _ _ _ _ _ _ _ _ _ _ _ _ _ _ _ _ _ _ _ _ _ _ _ _ _ _ _ _ _ _ _ _ _ _ _ _ _ _ _ _ _ _ _ _ _ _ _ _ _ _ rfl (by omega) hM2 hm2 (by rw [List.drop_zero]; exact hfr) ?_
  intro S' j' g1 g5 g7 g8 g9 gP gQ gM gF gC gA gB gK gE gL gI gJ gN gO gR gS gU gV gZ gY gi gf gg gh gj gk gm gn gr hY hZ xI gz xA xB xC hC hH hJ xD xE xF xG xH xJ h1 h2
  rw [List.drop_zero, ← hsn] at h1
  simp (maxSteps:=1000000) (disch:=first|assumption|omega|rfl) only [↓gp, gc, Nat.reduceAdd, tyS]
  have hkp : ∀ q o, q ≠ a → q ≠ b → S[q]? = some o → S'[q]? = some o := fun q o h3 h4 h5 => h2 q o h3 ((hk2 q h4).trans (qA h5))
  have hI3 : MapI S' b (updI Ms n.ino 1) := by
   obtain ⟨es, c, h3, h4⟩ := hI2
   exact ⟨es, c, h2 b _ (fun hh => hab hh.symm) h3, h4⟩
  exact ih (i + 1) S' _ _ _ _ _ _ _ _ _ _ _ _ _ _ _ _ _ _ _ _ _ _ _ _ _ _ _ _ _ _ _ _ _ _ _ _ _ _ _ _ _ _ _ _ _ _ _ _ _ _ _ _ _ _ _ (by omega) (by omega) h1 hI3 hz2 (fun q o hq => by
   have := zZ hq
   exact hkp q o (by omega) (by omega) (hK q o hq)) hR
theorem ziy (t : List Node) (hsr : Srt t) (hk : ∀ n ∈ t, n.names ≠ [] → n.kind = 2) (hnn : ∀ n ∈ t, (n.names.map (·.name)).Nodup) (hpos : ∀ n ∈ t, ∀ e ∈ n.names, 0 < e.ino) (hl : t.length < 1000000) (hln : ∀ n ∈ t, n.names.length < 1000000) (S0 : zA) :
  EvS cfg 69 [.d (.sl (t.map zB))] S0 fun o S => ∃ i, o = .ret (.mr i) ∧ MapS S i (zS t) ∧ Keep S0 S ∧ S0.length ≤ i := by
 refine wJ rfl q0c ?_
 show Wp cfg (Try.f69.body.getD .skip) ((.d (.sl (t.map zB))) :: uZ (uZ (uZ (uZ (uZ (uZ [])))))) S0 [] _
 unfold uZ
 conv => arg 2; whnf
 rw [qQ]
 simp (maxSteps:=1000000) (disch:=first|assumption|omega|rfl) only [↓gp, gc, Nat.reduceAdd, ↓z4f]
 refine zle t hsr hk hnn hpos hl hln S0 S0.length (S0 ++ [Ob.mp [] 0]).length (Nat.le_refl _) (by simp) (by simp) _ _ t.length 0 _ [] _ _ _ _ _ _ _ _ _ _ _ _ _ _ _ _ _ _ _ _ _ _ _ _ _ _ _ _ _ _ _ _ _ _ _ _ _ _ _ _ _ _ _ _ _ _ _ _ _ _ _ _ _ _ rfl (by omega) ⟨[], 0, by simp, rfl, List.Pairwise.nil, fun e he => by cases he⟩ ⟨[], 0, by simp, rfl⟩ (fun _ _ => rfl) (Keep.app.trans Keep.app) ?_
 intro S i' g1 g5 g6 g7 g8 g9 gP gQ gM gF gC gA gB gK gE gL gI gJ gN gO gR gS gT gX gW gU gV gZ gY gi gf gg gh gj gk gm gn gr hY hZ xI gz xA xB xC hC hH hJ xD xE xF xG xH xJ hM hK
 simp (maxSteps:=1000000) (disch:=first|assumption|omega|rfl) only [↓gp, gc, Nat.reduceAdd]
 exact ⟨rfl, _, zam rfl, _, rfl, hM, hK, Nat.le_refl _⟩
theorem z8r {k : Slot} {v : Int} {x : Slot} : ∀ {M : List (Slot × Int)}, x ∈ (updS M k v).map (·.1) ↔ x = k ∨ x ∈ M.map (·.1)
 | [] => by simp [updS]
 | p :: r => by
  unfold updS
  split
  ·rename_i h
   simp only [List.map_cons, List.mem_cons, ← h]
   constructor
   ·rintro (h1 | h1)
    ·exact .inl h1
    ·exact .inr (.inr h1)
   ·rintro (h1 | h1 | h1)
    ·exact .inl h1
    ·exact .inl h1
    ·exact .inr h1
  ·simp only [List.map_cons, List.mem_cons, z8r (M := r)]
   constructor
   ·rintro (h1 | h1 | h1)
    ·exact .inr (.inl h1)
    ·exact .inl h1
    ·exact .inr (.inr h1)
   ·rintro (h1 | h1 | h1)
    ·exact .inr (.inl h1)
    ·exact .inl h1
    ·exact .inr (.inr h1)
theorem z9k {k : Slot} {v : Int} : ∀ {M : List (Slot × Int)}, (M.map (·.1)).Nodup → ((updS M k v).map (·.1)).Nodup
 | [], _ => by simp [updS]
 | p :: r, h => by
  rw [List.map_cons, List.nodup_cons] at h
  unfold updS
  split
  ·rename_i hk
   rw [List.map_cons, List.nodup_cons]
   exact ⟨by rw [hk]; exact h.1, h.2⟩
  ·rename_i hk
   rw [List.map_cons, List.nodup_cons]
   refine ⟨fun hh => ?_, z9k h.2⟩
   rcases z8r.1 hh with h1 | h1
   ·exact hk h1.symm
   ·exact h.1 h1
theorem srng (i c a j : Nat) (es : List (D × V × Nat)) (hn : (es.map (·.2.2)).Nodup) (hc : ∀ e ∈ es, e.2.2 < c) (hes : ∀ e ∈ es, ∃ (s : Slot) (v : Int), e.1 = zK s ∧ e.2.1 = .d (.int .i64 v) ∧ v ≠ 0) (hai : a ≠ i) (haj : a ≠ j) (hij : i ≠ j) (S0 : zA) (M0 : List (Slot × Int)) (Q : Post) (x0 x2 x9 x10 x11 : V) :
 ∀ (n : Nat) (seen : List Nat) (M : List (Slot × Int)) (S : zA) (g1 g4 g5 g6 g7 g8 gM gF gD gG gH gA gB gK gE gL gI gJ gN gO gR gS gT : V), (es.filter fun e => !seen.contains e.2.2).length = n → S[i]? = some (.mp es c) → S[j]? = some (.mit i c seen c) → MapS S a M → (M.map (·.1)).Nodup → (∀ x : Slot, x ∈ M.map (·.1) ↔ x ∈ M0.map (·.1) ∨ ∃ e ∈ es, seen.contains e.2.2 = true ∧ e.1 = zK x) → (∀ q o, q ≠ a → q ≠ j → S0[q]? = some o → S[q]? = some o) →
 (∀ S M g1 g4 g5 g6 g7 g8 gM gF gD gG gH gA gB gK gE gL gI gJ gN gO gR gS gT, MapS S a M → (M.map (·.1)).Nodup → (∀ x : Slot, x ∈ M.map (·.1) ↔ x ∈ M0.map (·.1) ∨ ∃ e ∈ es, e.1 = zK x) → (∀ q o, q ≠ a → q ≠ j → S0[q]? = some o → S[q]? = some o) → Q (.exit 2) (x0 :: g1 :: x2 :: (.mr a) :: g4 :: g5 :: g6 :: g7 :: g8 :: x9 :: x10 :: x11 :: gM :: gF :: gD :: gG :: gH :: (.it j) :: gA :: gB :: gK :: gE :: gL :: gI :: gJ :: gN :: gO :: gR :: gS :: gT :: []) S []) →
 EOk cfg (.loop (lpOf (Try.f70.body.getD .skip) 2)) (x0 :: g1 :: x2 :: (.mr a) :: g4 :: g5 :: g6 :: g7 :: g8 :: x9 :: x10 :: x11 :: gM :: gF :: gD :: gG :: gH :: (.it j) :: gA :: gB :: gK :: gE :: gL :: gI :: gJ :: gN :: gO :: gR :: gS :: gT :: []) S [] Q := by
 intro n
 induction n with
 | zero =>
  intro seen M S g1 g4 g5 g6 g7 g8 gM gF gD gG gH gA gB gK gE gL gI gJ gN gO gR gS gT hn0 hi hj hM hMn hm hK hQ
  have hnil := List.length_eq_zero_iff.1 hn0
  refine z6x ?_
  conv => arg 2; whnf
  refine kQ ?_
  refine z8j extC wG rfl (z64 hi hj hc) ?_
  rw [hnil]
  intro x hx
  rw [List.mem_singleton.1 hx]
  refine ⟨_, _, _, rfl, ?_⟩
  refine z2w rfl rfl ⟨0, _, _, _, _, rfl, ?_⟩
  show EOk cfg _ _ _ _ _
  refine wS extC wG ?_
  show Wp cfg _ _ _ _ (post cfg [] _)
  simp (maxSteps:=1000000) (disch:=first|assumption|omega|rfl) only [↓gp, gc, Nat.reduceAdd]
  refine hQ S M _ _ _ _ _ _ _ _ _ _ _ _ _ _ _ _ _ _ _ _ _ _ _ hM hMn (fun x => ?_) hK
  rw [hm x]
  constructor
  ·rintro (h | ⟨e, he, _, h⟩)
   ·exact .inl h
   ·exact .inr ⟨e, he, h⟩
  ·rintro (h | ⟨e, he, h⟩)
   ·exact .inl h
   ·refine .inr ⟨e, he, ?_, h⟩
    cases hs : seen.contains e.2.2 with
    | true => rfl
    | false =>
     have : e ∈ es.filter fun e => !seen.contains e.2.2 := List.mem_filter.2 ⟨he, by rw [hs]; rfl⟩
     rw [hnil] at this
     cases this
 | succ n ih =>
  intro seen M S g1 g4 g5 g6 g7 g8 gM gF gD gG gH gA gB gK gE gL gI gJ gN gO gR gS gT hn0 hi hj hM hMn hm hK hQ
  refine z6x ?_
  conv => arg 2; whnf
  refine kQ ?_
  refine z8j extC wG rfl (z64 hi hj hc) ?_
  intro x hx
  obtain ⟨e, heL, rfl⟩ : ∃ e ∈ es.filter (fun e => !seen.contains e.2.2), x = .val (.tup [.d (.bool true), .d e.1, e.2.1]) (S.set j (.mit i c (seen ++ [e.2.2]) c)) 3 := by
   cases hL : es.filter fun e => !seen.contains e.2.2 with
   | nil => rw [hL] at hn0; cases hn0
   | cons a q =>
    rw [hL] at hx
    obtain ⟨e, h1, h2⟩ := List.mem_map.1 hx
    exact ⟨e, h1, h2.symm⟩
  obtain ⟨he, hns⟩ := List.mem_filter.1 heL
  obtain ⟨s, v, hs1, hs2, hv0⟩ := hes e he
  refine ⟨_, _, _, rfl, z2w rfl rfl ⟨0, _, _, _, _, rfl, ?_⟩⟩
  show EOk cfg _ _ _ _ _
  refine wS extC wG ?_
  show Wp cfg _ _ _ _ (post cfg [] _)
  have hjS := zZ hj
  obtain ⟨S1, hS1⟩ : ∃ S1, S.set j (.mit i c (seen ++ [e.2.2]) c) = S1 := ⟨_, rfl⟩
  have hother : ∀ k o, k ≠ j → S[k]? = some o → S1[k]? = some o := fun k o hkj h => by rw [← hS1, List.getElem?_set_ne (fun hh => hkj hh.symm)]; exact h
  have hmp : S1[i]? = some (.mp es c) := hother i _ hij hi
  have hmj : S1[j]? = some (.mit i c (seen ++ [e.2.2]) c) := by rw [← hS1]; exact List.getElem?_set_self hjS
  have hen := zfl hmp hmj hn he
  rw [hs1, hs2] at hen
  have hM1 : MapS S1 a M := hM.keep (by rw [← hS1, List.getElem?_set_ne (fun hh => haj hh.symm)])
  obtain ⟨S2, hup, hM2, hk2⟩ := zsi (v := 1) (KeyV.d (k := s)) (hM1.app (l := [Ob.row [.d (zK s)] 84]))
  have q6 := zC (qK (S := S1) (o := Ob.row [.d (zK s)] 84))
  rw [hS1]
  simp (maxSteps:=1000000) (disch:=first|assumption|omega|rfl) only [↓gp, gc, Nat.reduceAdd, ↓zia, hen, tyS, zL, zI, q6, hup, Option.map_some]
  have hst : ∀ q o, q ≠ a → S1[q]? = some o → S2[q]? = some o := fun q o h1 h2 => (hk2 q h1).trans (qA h2)
  refine ih (seen ++ [e.2.2]) _ S2 _ _ _ _ _ _ _ _ _ _ _ _ _ _ _ _ _ _ _ _ _ _ _ ?_ (hst i _ (fun hh => hai hh.symm) hmp) (hst j _ (fun hh => haj hh.symm) hmj) hM2 (z9k hMn) (fun x => ?_) (fun q o h1 h2 h3 => hst q o h1 (hother q o h2 (hK q o h1 h2 h3))) hQ
  ·have h1 : (es.filter fun x => !(seen ++ [e.2.2]).contains x.2.2) = (es.filter fun x => !seen.contains x.2.2).filter fun x => !(x.2.2 == e.2.2) := by
    rw [List.filter_filter]
    congr 1
    funext x
    rw [List.contains_eq_mem, List.contains_eq_mem]
    by_cases h2 : x.2.2 ∈ seen <;> by_cases h3 : x.2.2 = e.2.2 <;> simp [h2, h3]
   have h2 := zcg (b := e.2.2) (L := es.filter fun x => !seen.contains x.2.2) (hn.sublist ((List.filter_sublist).map _)) (List.mem_map_of_mem heL)
   rw [h1]
   omega
  ·rw [z8r, hm x]
   constructor
   ·rintro (rfl | h | ⟨e', he', h1, h2⟩)
    ·exact .inr ⟨e, he, by simp, hs1⟩
    ·exact .inl h
    ·exact .inr ⟨e', he', by rw [List.contains_eq_mem] at h1 ⊢; simp at h1 ⊢; exact .inl h1, h2⟩
   ·rintro (h | ⟨e', he', h1, h2⟩)
    ·exact .inr (.inl h)
    ·rw [List.contains_eq_mem] at h1
     simp only [List.mem_append, List.mem_singleton, decide_eq_true_eq] at h1
     rcases h1 with h1 | h1
     ·exact .inr (.inr ⟨e', he', by rw [List.contains_eq_mem]; simpa using h1, h2⟩)
     ·have h3 := z6e hn he' he h1
      rw [h3] at h2
      exact .inl (z6c (h2.symm.trans hs1))
structure Told2 (t : List Node) : Prop where
 srt : Srt t
 dir : ∀ n ∈ t, n.names ≠ [] → n.kind = 2
 nod : ∀ n ∈ t, (n.names.map (·.name)).Nodup
 pos : ∀ n ∈ t, ∀ e ∈ n.names, 0 < e.ino
 len : t.length < 1000000
 nms : ∀ n ∈ t, n.names.length < 1000000
def encT (t : List Node) : D := .sl (t.map zB)
theorem zmy (t : List Node) : vN Try.prog 25 (encT t) = true := by kernel_rfl
theorem ix80 {S : zA} {h : List (List Node)} {i : Nat} (hi : i < h.length) : qJ Try.prog S 80 (.d (.sl (h.map encT))) (.d (.int .i64 i)) = some (.d (.ptr (encT h[i]))) := z9f Try.underlying80 (zmy) hi
theorem zzb {S : zA} {xs : List D} : zY Try.prog S .len [80] [.d (.sl xs)] = some (.val (.d (.int .i64 xs.length)) S 0) := z86 Try.underlying80
theorem zfd {t : List Node} (h : Told2 t) : ((zS t).map (·.1)).Nodup := by
 have hsr := h.srt
 have hnn := h.nod
 clear h
 induction t with
 | nil => exact List.Pairwise.nil
 | cons n r ih =>
  obtain ⟨h1, h2⟩ := Srt.cons.1 hsr
  have e : zS (n :: r) = z6o n n.names ++ zS r := rfl
  rw [e, List.map_append, List.nodup_append]
  refine ⟨?_, ih h2 (fun m hm => hnn m (by simp [hm])), fun x hx y hy => ?_⟩
  ·have h3 := hnn n (by simp)
   unfold z6o
   rw [List.map_map]
   have : ∀ l : List Ent, (l.map (·.name)).Nodup → (l.map ((fun p : Slot × Int => p.1) ∘ fun e : Ent => ((⟨n.ino, e.name⟩ : Slot), e.ino))).Nodup := fun l => by
    induction l with
    | nil => exact fun _ => List.Pairwise.nil
    | cons e q ihq =>
     intro hq
     rw [List.map_cons, List.nodup_cons] at hq ⊢
     refine ⟨fun hh => ?_, ihq hq.2⟩
     obtain ⟨e', he', h5⟩ := List.mem_map.1 hh
     exact hq.1 (List.mem_map.2 ⟨e', he', (Slot.mk.inj h5).2⟩)
   exact this _ h3
  ·rintro rfl
   obtain ⟨m, hm, h4⟩ := zbb hy
   obtain ⟨p, hp, rfl⟩ := List.mem_map.1 hx
   obtain ⟨e, _, rfl⟩ := List.mem_map.1 hp
   have h5 := h1 m hm
   have h4 : n.ino = m.ino := h4
   omega
theorem zjs {ops : Array Oper} {dst : Option Tmp} {k : List Oper} {T : List V} {S : zA} {F : Dfs} {Q : Post} {t : List Node} (h : Told2 t) (hk : ∀ i S', MapS S' i (zS t) → Keep S S' → S.length ≤ i → WpL cfg ops k (putT T dst (.mr i)) S' F Q) :
  WpR cfg ops dst k T S F Q (some (.enter 69 [.d (.sl (t.map zB))])) := by
 refine jB rfl (ziy t h.srt h.dir h.nod h.pos h.len h.nms S) (fun v S' h2 => ?_) (fun v S' h2 => ?_)
 ·obtain ⟨i, h3, h4, h5, h6⟩ := h2
  cases h3
  exact hk i S' h4 h5 h6
 ·obtain ⟨i, h3, _⟩ := h2
  cases h3
theorem zsv (h : List (List Node)) (hh : ∀ t ∈ h, Told2 t) (hl : h.length < 1000000) (S0 : zA) (a : Nat) (ha : S0.length ≤ a) (Q : Post) (x2 : V) : ∀ (k i : Nat) (M : List (Slot × Int)) (S : zA) (g1 g4 g5 g6 g7 g8 gM gF gD gG gH gC gA gB gK gE gL gI gJ gN gO gR gS gT : V), h.length - i = k → i ≤ h.length → MapS S a M → (M.map (·.1)).Nodup → (∀ x : Slot, x ∈ M.map (·.1) ↔ ∃ t ∈ h.take i, x ∈ (zS t).map (·.1)) → Keep S0 S →
 (∀ S M i' g1 g4 g5 g6 g7 g8 gM gF gD gG gH gC gA gB gK gE gL gI gJ gN gO gR gS gT, MapS S a M → (M.map (·.1)).Nodup → (∀ x : Slot, x ∈ M.map (·.1) ↔ ∃ t ∈ h, x ∈ (zS t).map (·.1)) → Keep S0 S → Q (.exit 0) ((.d (.sl (h.map encT))) :: g1 :: x2 :: (.mr a) :: g4 :: g5 :: g6 :: g7 :: g8 :: (.d (.sl (h.map encT))) :: (.d (.int .i64 h.length)) :: i' :: gM :: gF :: gD :: gG :: gH :: gC :: gA :: gB :: gK :: gE :: gL :: gI :: gJ :: gN :: gO :: gR :: gS :: gT :: []) S []) →
 EOk cfg (.loop (lpOf (Try.f70.body.getD .skip) 0)) ((.d (.sl (h.map encT))) :: g1 :: x2 :: (.mr a) :: g4 :: g5 :: g6 :: g7 :: g8 :: (.d (.sl (h.map encT))) :: (.d (.int .i64 h.length)) :: (.d (.int .i64 i)) :: gM :: gF :: gD :: gG :: gH :: gC :: gA :: gB :: gK :: gE :: gL :: gI :: gJ :: gN :: gO :: gR :: gS :: gT :: []) S [] Q := by
 intro k
 induction k with
 | zero =>
  intro i M S g1 g4 g5 g6 g7 g8 gM gF gD gG gH gC gA gB gK gE gL gI gJ gN gO gR gS gT hki hi hM hMn hm hK hQ
  have hie : i = h.length := by omega
  rw [hie, List.take_length] at hm
  refine wS extC wG ?_
  show Wp cfg _ _ _ _ (post cfg [] _)
  rw [qQ]
  refine qC ?_
  conv => arg 2; whnf
  simp (maxSteps:=1000000) (disch:=first|assumption|omega|rfl) only [↓gp, gc, Nat.reduceAdd]
  exact hQ _ _ _ _ _ _ _ _ _ _ _ _ _ _ _ _ _ _ _ _ _ _ _ _ _ _ _ hM hMn hm hK
 | succ k ih =>
  intro i M S g1 g4 g5 g6 g7 g8 gM gF gD gG gH gC gA gB gK gE gL gI gJ gN gO gR gS gT hki hi hM hMn hm hK hQ
  have hlt : i < h.length := by omega
  refine z6x ?_
  conv => arg 2; whnf
  have htm : h[i] ∈ h := List.getElem_mem hlt
  have hT := hh _ htm
  have htk : h.take (i + 1) = h.take i ++ [h[i]] := by rw [List.take_add_one, List.getElem?_eq_getElem hlt]; rfl
  generalize hee : h[i] = t at *
  refine kQ ?_
  refine wS extC wG ?_
  show Wp cfg _ _ _ _ (post cfg [] _)
  simp (maxSteps:=1000000) (disch:=first|assumption|omega|rfl) only [↓gp, gc, Nat.reduceAdd]
  show EOk cfg _ _ _ _ _
  refine kQ ?_
  refine wS extC wG ?_
  show Wp cfg _ _ _ _ (post cfg [] _)
  simp (maxSteps:=1000000) (disch:=first|assumption|omega|rfl) only [↓gp, gc, Nat.reduceAdd]
  show EOk cfg _ _ _ _ _
  refine kQ ?_
  refine z5o ?_
  refine kQ ?_
  refine wS extC wG ?_
  show Wp cfg _ _ _ _ (post cfg [] _)
  have hix := fun S => ix80 (S := S) hlt
  rw [hee] at hix
  have hl25 : ∀ S, jP Try.prog S 25 (.d (.ptr (encT t))) = some (.d (.sl (t.map zB))) := fun S => by kernel_rfl
  simp (maxSteps:=1000000) (disch:=first|assumption|omega|rfl) only [↓gp, gc, Nat.reduceAdd, hix, hl25]
  show EOk cfg _ _ _ _ _
  refine kQ ?_
  refine wS extC wG ?_
  show Wp cfg _ _ _ _ (post cfg [] _)
  have hbo : (zF Try.prog 69).isSome = true := by kernel_rfl
  simp (maxSteps:=1000000) (disch:=first|assumption|omega|rfl) only [↓gp, gc, Nat.reduceAdd, hbo]
  refine zjs hT fun i2 S1 hM1 hK1 hle1 => ?_
  obtain ⟨es, c, h1, hMe, hn, hc⟩ := hM1
  simp (maxSteps:=1000000) (disch:=first|assumption|omega|rfl) only [↓gp, gc, Nat.reduceAdd, ↓z8y hP, zfi h1]
  show EOk cfg _ _ _ _ _
  refine z5o ?_
  have haS : a < S.length := by
   obtain ⟨_, _, h2, _⟩ := hM
   exact zZ h2
  have hi2 := zZ h1
  have hMa : MapS (S1 ++ [Ob.mit i2 c [] c]) a M := by
   obtain ⟨es2, c2, h2, h3⟩ := hM
   exact ⟨es2, c2, qA (hK1 _ _ h2), h3⟩
  have hes : ∀ e ∈ es, ∃ (s : Slot) (v : Int), e.1 = zK s ∧ e.2.1 = .d (.int .i64 v) ∧ v ≠ 0 := fun e he => by
   have h3 : (e.1, e.2.1) ∈ (zS t).map fun p => (zK p.1, V.d (.int .i64 p.2)) := by rw [← hMe]; exact List.mem_map_of_mem he
   obtain ⟨p, hp, h4⟩ := List.mem_map.1 h3
   obtain ⟨n, hn2, hp2⟩ := List.mem_flatMap.1 hp
   obtain ⟨e2, he2, h5⟩ := List.mem_map.1 hp2
   have := hT.pos n hn2 e2 he2
   refine ⟨p.1, p.2, (Prod.mk.inj h4).1.symm, (Prod.mk.inj h4).2.symm, ?_⟩
   rw [← h5]
   show e2.ino ≠ 0
   omega
  refine srng i2 c a S1.length es hn hc hes (by omega) (by omega) (by omega) (S1 ++ [Ob.mit i2 c [] c]) M _ _ _ _ _ _ es.length [] M _ _ _ _ _ _ _ _ _ _ _ _ _ _ _ _ _ _ _ _ _ _ _ _ (by simp) (qA h1) qK hMa hMn (fun x => by simp) (fun q o _ _ h => h) ?_
  intro S2 M2 g1 g4 g5 g6 g7 g8 gM gF gD gG gH gA gB gK gE gL gI gJ gN gO gR gS gT hM2 hMn2 hm2 hK2
  show EOk cfg _ _ _ _ _
  refine wS extC wG ?_
  show Wp cfg _ _ _ _ (post cfg [] _)
  simp (maxSteps:=1000000) (disch:=first|assumption|omega|rfl) only [↓gp, gc, Nat.reduceAdd]
  show EOk cfg _ _ _ _ _
  refine ih (i + 1) M2 S2 _ _ _ _ _ _ _ _ _ _ _ _ _ _ _ _ _ _ _ _ _ _ _ _ (by omega) (by omega) hM2 hMn2 (fun x => ?_) (fun q o hq => ?_) hQ
  ·rw [hm2 x, hm x, htk]
   constructor
   ·rintro (⟨t', ht', h2⟩ | ⟨e, he, h2⟩)
    ·exact ⟨t', List.mem_append_left _ ht', h2⟩
    ·refine ⟨t, List.mem_append_right _ (by simp), ?_⟩
     have h3 : (e.1, e.2.1) ∈ (zS t).map fun p => (zK p.1, V.d (.int .i64 p.2)) := by rw [← hMe]; exact List.mem_map_of_mem he
     obtain ⟨p, hp, h4⟩ := List.mem_map.1 h3
     have h6 : p.1 = x := z6c ((Prod.mk.inj h4).1.trans h2)
     rw [← h6]
     exact List.mem_map_of_mem hp
   ·rintro ⟨t', ht', h2⟩
    rcases List.mem_append.1 ht' with ht' | ht'
    ·exact .inl ⟨t', ht', h2⟩
    ·rw [List.mem_singleton.1 ht'] at h2
     obtain ⟨p, hp, rfl⟩ := List.mem_map.1 h2
     have h3 : (zK p.1, V.d (.int .i64 p.2)) ∈ es.map fun e => (e.1, e.2.1) := by rw [hMe]; exact List.mem_map_of_mem (f := fun p : Slot × Int => (zK p.1, V.d (.int .i64 p.2))) hp
     obtain ⟨e, he, h4⟩ := List.mem_map.1 h3
     exact .inr ⟨e, he, (Prod.mk.inj h4).1⟩
  ·have hql := zZ hq
   have hqS := zZ (hK q o hq)
   exact hK2 q o (by omega) (by omega) (qA (hK1 _ _ (hK q o hq)))
def vQ (h : List (List Node)) : List Slot := z8c ((h.flatMap zS).map (·.1))
theorem zst : zF Try.prog 70 = some ⟨Try.f70.body.getD .skip, 30, #[.tmp 2]⟩ := by
 unfold zF
 rw [Try.func70]
 rfl
theorem zm4 (h : List (List Node)) (hh : ∀ t ∈ h, Told2 t) (hl : h.length < 1000000) (hn : ∀ M : List (Slot × Int), (M.map (·.1)).Nodup → (∀ x : Slot, x ∈ M.map (·.1) ↔ ∃ t ∈ h, x ∈ (zS t).map (·.1)) → M.length < 800000) :
    EOk cfg (Try.f70.body.getD .skip) (z05 30 ([D.sl (h.map encT)].map .d)) [] [] (RetQ cfg.P #[.tmp 2] (.ret (.d (.sl ((vQ h).map zK))))) := by
  show EOk cfg (Try.f70.body.getD .skip) ((.d (.sl (h.map encT))) :: (.tup []) :: (.tup []) :: (.tup []) :: (.tup []) :: (.tup []) :: (.tup []) :: (.tup []) :: (.tup []) :: (.tup []) :: (.tup []) :: (.tup []) :: (.tup []) :: (.tup []) :: (.tup []) :: (.tup []) :: (.tup []) :: (.tup []) :: (.tup []) :: (.tup []) :: (.tup []) :: (.tup []) :: (.tup []) :: (.tup []) :: (.tup []) :: (.tup []) :: (.tup []) :: (.tup []) :: (.tup []) :: (.tup []) :: []) [] [] _
  conv => arg 2; whnf
  refine kQ ?_
  refine wS extC wG ?_
  show Wp cfg _ _ _ _ (post cfg [] _)
  simp (maxSteps:=1000000) (disch:=first|assumption|omega|rfl) only [↓gp, gc, Nat.reduceAdd]
  show EOk cfg _ _ _ _ _
  refine kQ ?_
  refine wS extC wG ?_
  show Wp cfg _ _ _ _ (post cfg [] _)
  simp (maxSteps:=1000000) (disch:=first|assumption|omega|rfl) only [↓gp, gc, Nat.reduceAdd, ↓z4f]
  show EOk cfg _ _ _ _ _
  refine kQ ?_
  refine kQ ?_
  refine wS extC wG ?_
  show Wp cfg _ _ _ _ (post cfg [] _)
  simp (maxSteps:=1000000) (disch:=first|assumption|omega|rfl) only [↓gp, gc, Nat.reduceAdd, zzb]
  show EOk cfg _ _ _ _ _
  refine z5o ?_
  refine zsv h hh hl [] 0 (Nat.le_refl 0) _ _ h.length 0 [] _ _ _ _ _ _ _ _ _ _ _ _ _ _ _ _ _ _ _ _ _ _ _ _ _ rfl (by omega) ⟨[], 0, rfl, rfl, List.Pairwise.nil, fun e he => by cases he⟩ List.Pairwise.nil (fun x => by simp) (fun _ _ hq => by cases hq) ?_
  intro S M i' g1 g4 g5 g6 g7 g8 gM gF gD gG gH gC gA gB gK gE gL gI gJ gN gO gR gS gT hM hMn hm hK
  show EOk cfg _ _ _ _ _
  refine kQ ?_
  refine zc2 ?_
  refine zdo rfl rfl ?_
  refine zde rfl (by kernel_rfl) (zea S 0 M hM hMn (hn M hMn hm)) fun v S1 hv => ?_
  refine zmc extC wG ?_
  simp (maxSteps:=1000000) (disch:=first|assumption|omega|rfl) only [↓gp, gc, Nat.reduceAdd]
  show EOk cfg _ _ _ _ _
  refine wS extC wG ?_
  show Wp cfg _ _ _ _ (post cfg [] _)
  simp (maxSteps:=1000000) (disch:=first|assumption|omega|rfl) only [↓gp, gc, Nat.reduceAdd]
  have e : z8c (M.map (·.1)) = vQ h := z8s z2f z2f fun x => by
    rw [z1o, hm x, show vQ h = z8c ((h.flatMap zS).map (·.1)) from rfl, z1o, List.mem_map]
    constructor
    · rintro ⟨t, ht, h2⟩
      obtain ⟨p, hp, rfl⟩ := List.mem_map.1 h2
      exact ⟨p, List.mem_flatMap.2 ⟨t, ht, hp⟩, rfl⟩
    · rintro ⟨p, hp, rfl⟩
      obtain ⟨t, ht, hp⟩ := List.mem_flatMap.1 hp
      exact ⟨t, ht, List.mem_map_of_mem hp⟩
  have h1 : frz S1 zR v = some (.sl ((vQ h).map zK)) := by rw [← e]; exact hv.2.frz
  have h2 : v.one = true := hv.2.one
  exact ⟨.inr trivial, trivial, v, zam rfl, by cases v <;> first | (simp [V.one] at h2; done) | (simp only [z22, h1, Option.map_some])⟩
def z34 (n : Node) : Node := { n with names := [] }
theorem ztj (n : Node) : Ev cfg 72 [zB n] (.ret (.d (zB (z34 n)))) := by
 refine z1r rfl rfl zy5 ?_
 show Wp cfg (Try.f72.body.getD .skip) ((.d (zB n)) :: (.tup []) :: (.tup []) :: (.tup []) :: (.tup []) :: []) [] [] _
 conv => arg 2; whnf
 have hs : qL Try.prog 30 6 (.ts []) (.d (zB n)) = some (.agg [.d (.int .i64 n.ino), .d (.int .i64 n.kind), .d (.int .i64 n.links), .d (.int .i64 n.parent), .d (.int .i64 n.size), .d (encB n.data), .ts []]) := by kernel_rfl
 simp (maxSteps:=1000000) (disch:=first|assumption|omega|rfl) only [↓gp, gc, Nat.reduceAdd, z32, zf32, hs]
 exact zdc (u := .ref 1 0 0) (v := .agg [.d (.int .i64 n.ino), .d (.int .i64 n.kind), .d (.int .i64 n.links), .d (.int .i64 n.parent), .d (.int .i64 n.size), .d (encB n.data), .ts []]) rfl rfl rfl (by kernel_rfl)
theorem Good2.told2 {k : Nat} {t : List Node} (h : Good2 k t) (hk : k ≤ 24) : Told2 t := by
 have nodOrd : ∀ {l : List Ent}, Ord l → (l.map (·.name)).Nodup := fun {l} ho => by
  unfold Ord at ho
  refine List.Pairwise.imp (fun {a b} hab hh => ?_) ho
  rw [hh, z6i] at hab
  cases hab
 refine ⟨h.a.g.lj.srt, fun n hn hne => ?_, fun n hn => ?_, fun n hn e he => ?_, by have := h.a.g.sm.len; omega, fun n hn => by have := h.a.g.sm.nms n hn; omega⟩
 ·refine Classical.byContradiction fun hk2 => hne ?_
  have := h.a.g.lj.fil n.ino (by rw [h.self hn]; exact hk2)
  rwa [h.self hn] at this
 ·have := h.a.g.lj.nod n.ino
  rw [h.self hn] at this
  exact nodOrd this
 ·have := h.a.g.ti.inv.ge2 n.ino e (by rw [h.self hn]; exact he)
  omega
end Go.Proofs.Ytghllhghboaagaa
end
section
namespace Go.Proofs.Ytghllhghboaagaa
open Go.Vm
theorem map_inj {α β : Type} {f : α → β} (hf : ∀ a b, f a = f b → a = b) : ∀ {l m : List α}, l.map f = m.map f → l = m
 | [], [], _ => rfl
 | [], _ :: _, h => by cases h
 | _ :: _, [], h => by cases h
 | a :: l, b :: m, h => by
  rw [List.map_cons, List.map_cons] at h
  obtain ⟨h1, h2⟩ := List.cons.inj h
  rw [hf a b h1, map_inj hf h2]
theorem zqn {a b : List UInt8} (h : encB a = encB b) : a = b := by
 unfold encB at h
 refine map_inj (f := fun b : UInt8 => D.int .u8 b.toNat) (fun x y hxy => ?_) (D.sl.inj h)
 have := (D.int.inj hxy).2
 exact UInt8.toNat_inj.1 (by omega)
theorem zky {a b : Ent} (h : zJ a = zJ b) : a = b := by
 obtain ⟨a1, a2⟩ := a
 obtain ⟨b1, b2⟩ := b
 simp only [zJ, D.agg.injEq, List.cons.injEq, D.int.injEq, D.str.injEq, true_and, and_true] at h
 rw [h.1, h.2]
theorem zhs {a b : Node} (h : zB a = zB b) : a = b := by
 obtain ⟨a1, a2, a3, a4, a5, a6, a7⟩ := a
 obtain ⟨b1, b2, b3, b4, b5, b6, b7⟩ := b
 simp only [zB, D.agg.injEq, List.cons.injEq, D.int.injEq, true_and, and_true, D.sl.injEq] at h
 obtain ⟨h1, h2, h3, h4, h5, h6, h7⟩ := h
 have h8 := zqn h6
 have h9 := map_inj (fun _ _ => zky) h7
 subst h1 h2 h3 h4 h5 h8 h9
 rfl
theorem zcn {a b : List Node} (h : encT a = encT b) : a = b := map_inj (fun _ _ => zhs) (D.sl.inj h)
structure Asks70 (ds : List D) (h : List (List Node)) : Prop where
 ds : ds = [.sl (h.map encT)]
 told : ∀ t ∈ h, Told2 t
 len : h.length < 1000000
 few : ∀ M : List (Slot × Int), (M.map (·.1)).Nodup → (∀ x : Slot, x ∈ M.map (·.1) ↔ ∃ t ∈ h, x ∈ (zS t).map (·.1)) → M.length < 800000
open Classical in
noncomputable def xK (ds : List D) : Option Out := if h : ∃ hs, Asks70 ds hs then some (.ret (.d (.sl ((vQ h.choose).map zK)))) else none
theorem zz2 {h : List (List Node)} (ha : Asks70 [.sl (h.map encT)] h) : xK [.sl (h.map encT)] = some (.ret (.d (.sl ((vQ h).map zK)))) := by
 have hx : ∃ hs, Asks70 [.sl (h.map encT)] hs := ⟨h, ha⟩
 unfold xK
 rw [dif_pos hx]
 have h1 := hx.choose_spec.ds
 simp only [List.cons.injEq, D.sl.injEq, and_true] at h1
 rw [← map_inj (fun _ _ => zcn) h1]
theorem q14 : ∀ ds o, xK ds = some o → ∃ o', o = OutD.out o' ∧ ∀ (A : Nat → Prop) (w : World) (us : Array Value), (∀ b, A b → b < w.heap.size) → RepS A w ds us.toList → Calls cfg.P 70 us w (z2z A w o') := by
 intro ds o ho
 unfold xK at ho
 split at ho
 ·rename_i hx
  have hs := hx.choose_spec
  generalize hx.choose = h at *
  cases ho
  have h1 := hs.ds
  subst h1
  exact ⟨.ret (.sl ((vQ h).map zK)), rfl, zog extC wG zst (zm4 h hs.told hs.len hs.few)⟩
 ·cases ho
end Go.Proofs.Ytghllhghboaagaa
end
section
namespace Go.Proofs.Ytghllhghboaagaa
open Go.Vm
def encI (x : Int) : D := .int .i64 x
theorem zl9 (e : Int) : qD Try.prog 3 (.d (encI e)) = true := by kernel_rfl
theorem zrf (e : Int) : vN Try.prog 3 (encI e) = true := by kernel_rfl
section
variable {S S' : zA} {v : V} {l : List Int} {k : Nat}
theorem z9e {xs : List V} {id k n : Nat} {zs : List V} (h : S[id]? = some (.row zs 3)) (hx : (zs.drop k).take n = xs) (hl : k + n ≤ zs.length) (hf : xs.all (qD Try.prog 3) = true) : srcV Try.prog S 3 33 (.rs id k n) = some xs := by
 have hz : (sz Try.prog 3).isSome = true := by kernel_rfl
 simp only [srcV, Try.underlying33, kU, h, hl, hx, if_true, hf, hz, Bool.and_self]
theorem zfg {l : List Int} : (l.map fun a => V.d (encI a)).all (qD Try.prog 3) = true := by
 rw [List.all_eq_true]
 intro x hx
 obtain ⟨a, _, rfl⟩ := List.mem_map.1 hx
 exact zl9 a
theorem szI3 : (sz Try.prog 3).isSome = true := by kernel_rfl
theorem zpv : zOk Try.prog 3 = true := by kernel_rfl
theorem zhy {n : Nat} (h : n ≤ 1000000) : room Try.prog 3 n = true := z38 (P := Try.prog) (e := 3) rfl (by decide) h
theorem bndI {y d k : Nat} (h : k ≤ y) : wC y (some (.d (.int .i64 (k : Int)))) d = some k := by
 have := z4a (n := y) (d := d) (i := (k : Int)) (by omega) (by omega)
 rw [this, Int.toNat_natCast]
theorem zei (h : SlE encI S v 3 l) (hk : k ≤ l.length) : ∃ va, qT Try.prog S 33 v none (some (.d (.int .i64 k))) = some va ∧ ((v = .ts [] ∧ l = [] ∧ va = .ts []) ∨ ∃ id ys, v = .rs id 0 l.length ∧ S[id]? = some (.row ((l ++ ys).map fun a => .d (encI a)) 3) ∧ va = .rs id 0 k) := by
 rcases h with ⟨rfl, rfl⟩ | ⟨id, ys, rfl, h1⟩
 ·have : k = 0 := by simpa using hk
  subst this
  refine ⟨.ts [], ?_, .inl ⟨rfl, rfl, rfl⟩⟩
  have h1 := bndI (y := ([] : List D).length) (d := ([] : List D).length) (k := 0) (by simp)
  simp only [qT, Try.underlying33, h1, wO, List.all_nil, szI3, Bool.and_self, if_true]
  rfl
 ·refine ⟨.rs id 0 k, ?_, .inr ⟨id, ys, rfl, h1, rfl⟩⟩
  have h3 : rowT S id 3 = true := by simp only [rowT, h1, beq_self_eq_true]
  simp only [qT, Try.underlying33, bndI hk, wO, h3, szI3, Bool.and_self, if_true, Nat.zero_add, Nat.sub_zero]
theorem zlg (h : SlE encI S v 3 l) (hk : k ≤ l.length) : ∃ vb, qT Try.prog S 33 v (some (.d (.int .i64 k))) none = some vb ∧ ((v = .ts [] ∧ l = [] ∧ vb = .ts []) ∨ ∃ id ys, v = .rs id 0 l.length ∧ S[id]? = some (.row ((l ++ ys).map fun a => .d (encI a)) 3) ∧ vb = .rs id k (l.length - k)) := by
 rcases h with ⟨rfl, rfl⟩ | ⟨id, ys, rfl, h1⟩
 ·have : k = 0 := by simpa using hk
  subst this
  refine ⟨.ts [], ?_, .inl ⟨rfl, rfl, rfl⟩⟩
  have h1 := bndI (y := ([] : List D).length) (d := 0) (k := 0) (by simp)
  simp only [qT, Try.underlying33, wO, h1, List.all_nil, szI3, Bool.and_self, if_true]
  rfl
 ·refine ⟨.rs id k (l.length - k), ?_, .inr ⟨id, ys, rfl, h1, rfl⟩⟩
  have h3 : rowT S id 3 = true := by simp only [rowT, h1, beq_self_eq_true]
  simp only [qT, Try.underlying33, wO, bndI hk, h3, szI3, Bool.and_self, if_true, Nat.zero_add]
theorem zja {e : Int} (h : SlE encI S v 3 l) (hk : k ≤ l.length) (hl : l.length < 900000) : ∃ va vb v6 S1 v7 S2 c1 c2, qT Try.prog S 33 v none (some (.d (.int .i64 k))) = some va ∧ qT Try.prog S 33 v (some (.d (.int .i64 k))) none = some vb ∧ qT Try.prog S1 33 v none (some (.d (.int .i64 k))) = some va ∧ z24 va va = true ∧
  zW Try.prog S 33 33 (.ts [encI e]) vb = some (v6, S1, c1) ∧ zW Try.prog S1 33 33 va v6 = some (v7, S2, c2) ∧ (c1 = 1 ∧ c2 = 2 ∨ c1 = 1 ∧ c2 = 3 ∨ c1 = 2 ∧ c2 = 3) ∧ Keep S S1 ∧ SlE encI S2 v7 3 (l.take k ++ e :: l.drop k) ∧ (∀ (j : Nat) (o : Ob), S[j]? = some o → idOf v ≠ some j → S2[j]? = some o) ∧ (∀ i, idOf v7 = some i → S.length ≤ i) := by
 obtain ⟨va, ha, hva⟩ := zei h hk
 obtain ⟨vb, hb, hvb⟩ := zlg h hk
 have hfe : ([encI e].map V.d).all (qD Try.prog 3) = true := by rw [List.map_cons, List.map_nil, List.all_cons, List.all_nil, zl9 e]; rfl
 have hfd : [encI e].all (vN Try.prog 3) = true := by rw [List.all_cons, List.all_nil, zrf e]; rfl
 have src1 : srcV Try.prog S 3 33 (.ts [encI e]) = some [.d (encI e)] := by
  simp only [srcV, Try.underlying33, kU]
  rw [if_pos (by rw [hfe, szI3]; rfl)]
  rfl
 rcases hva with ⟨rfl, rfl, rfl⟩ | ⟨id, ys, rfl, hrow, rfl⟩
 ·rcases hvb with ⟨_, _, rfl⟩ | ⟨id, ys, q, _⟩
  ·have hk0 : k = 0 := by simpa using hk
   subst hk0
   refine ⟨_, _, .ts [encI e], S, .rs S.length 0 1, S ++ [.row [.d (encI e)] 3], 1, 2, ha, hb, ha, rfl, ?_, ?_, .inl ⟨rfl, rfl⟩, Keep.refl, ?_, fun j o hj _ => Keep.app _ _ hj, ?_⟩
   ·simp only [zW, Try.underlying33, srcV, kU, List.map_nil, List.all_nil, szI3, Bool.and_self, if_true]
   ·have := zhy (n := 0 + (0 + 1)) (by omega)
    simp only [zW, Try.underlying33, src1, zpv, if_true, List.all_nil, List.length_nil, this, Bool.and_self, List.map_nil, List.nil_append]
   ·exact .inr ⟨S.length, [], rfl, by simp⟩
   ·intro i hi; cases hi; omega
  ·cases q
 ·rcases hvb with ⟨q, _⟩ | ⟨id', ys', q, hrow', rfl⟩
  ·cases q
  ·cases q
   have hlen : ((l ++ ys).map fun a => V.d (encI a)).length = l.length + ys.length := by simp
   have htk : ((l ++ ys).map fun a => V.d (encI a)).take k = (l.take k).map fun a => V.d (encI a) := by rw [← List.map_take, List.take_append_of_le_length hk]
   have hid := zZ hrow
   by_cases hkl : k = l.length
   ·subst hkl
    have srcb : srcV Try.prog S 3 33 (.rs id l.length (l.length - l.length)) = some [] := z9e hrow (by simp) (by rw [hlen]; omega) rfl
    refine ⟨_, _, .ts [encI e], S, .rs S.length 0 (l.length + 1), S.set id .dead ++ [.row ((l.take l.length).map (fun a => V.d (encI a)) ++ [.d (encI e)]) 3], 1, 3, ha, hb, ha, by simp [z24, kY, kX], ?_, ?_, .inr (.inl ⟨rfl, rfl⟩), Keep.refl, ?_, ?_, ?_⟩
    ·simp only [zW, Try.underlying33, srcb]
    ·have h1 := zhy (n := l.length + (0 + 1)) (by omega)
     have h2 : l.length ≤ l.length + ys.length := by omega
     simp only [zW, Try.underlying33, src1, zpv, if_true, hrow, hlen, h1, h2, htk, List.length_nil, decide_true, Bool.and_self, Nat.zero_add]
    ·refine .inr ⟨S.length, [], by simp, ?_⟩
     rw [List.getElem?_append_right (by simp)]
     simp
    ·intro j o hj hn
     have hjl := zZ hj
     rw [List.getElem?_append_left (by simpa using hjl), List.getElem?_set_ne]
     ·exact hj
     ·rintro rfl; exact hn rfl
    ·intro i hi; cases hi; omega
   ·have hkl' : k < l.length := by omega
    have hdr : l.drop k = l[k] :: l.drop (k + 1) := List.drop_eq_getElem_cons hkl'
    have srcb : srcV Try.prog S 3 33 (.rs id k (l.length - k)) = some ((l.drop k).map fun a => .d (encI a)) := by
     refine z9e hrow ?_ (by rw [hlen]; omega) zfg
     rw [← List.map_drop, ← List.map_take, List.drop_append_of_le_length hk, List.take_append_of_le_length (by rw [List.length_drop]; omega), List.take_of_length_le (by rw [List.length_drop]; omega)]
    have hl3 : ((l.drop (k + 1)).map fun a => V.d (encI a)).length = l.length - (k + 1) := by rw [List.length_map, List.length_drop]
    have hS1row : (S ++ [Ob.row ([encI e].map V.d ++ (l.drop k).map fun a => V.d (encI a)) 3])[S.length]? = some (.row ([encI e].map V.d ++ (l.drop k).map fun a => V.d (encI a)) 3) := qK
    have srcc : srcV Try.prog (S ++ [Ob.row ([encI e].map V.d ++ (l.drop k).map fun a => V.d (encI a)) 3]) 3 33 (.rs S.length 0 (1 + (l.length - (k + 1) + 1))) = some (.d (encI e) :: (l.drop k).map fun a => .d (encI a)) := by
     refine z9e hS1row ?_ ?_ ?_
     ·rw [List.drop_zero, List.take_of_length_le (by simp; omega)]; rfl
     ·simp; omega
     ·rw [List.all_cons, zl9 e, zfg]; rfl
    have hrow2 : (S ++ [Ob.row ([encI e].map V.d ++ (l.drop k).map fun a => V.d (encI a)) 3])[id]? = some (.row ((l ++ ys).map fun a => .d (encI a)) 3) := qA hrow
    refine ⟨_, _, .rs S.length 0 (1 + (l.length - (k + 1) + 1)), S ++ [Ob.row ([encI e].map V.d ++ (l.drop k).map fun a => V.d (encI a)) 3], .rs (S.length + 1) 0 (k + (l.length - k + 1)), (S ++ [Ob.row ([encI e].map V.d ++ (l.drop k).map fun a => V.d (encI a)) 3]).set id .dead ++ [Ob.row ((l.take k).map (fun a => V.d (encI a)) ++ .d (encI e) :: (l.drop k).map fun a => V.d (encI a)) 3], 2, 3, ha, hb, ?_, by simp [z24, kY, kX], ?_, ?_, .inr (.inr ⟨rfl, rfl⟩), Keep.app, ?_, ?_, ?_⟩
    ·obtain ⟨va2, q1, q2⟩ := zei (h.keep (Keep.app (l := [Ob.row ([encI e].map V.d ++ (l.drop k).map fun a => V.d (encI a)) 3]))) hk
     rcases q2 with ⟨q2, _⟩ | ⟨id2, _, q2, _, q3⟩
     ·cases q2
     ·cases q2; rw [q1, q3]
    ·have h1 := zhy (n := 1 + (l.length - (k + 1) + 1)) (by omega)
     simp only [zW, Try.underlying33, srcb, hdr, List.map_cons, zpv, if_true, hfd, hl3, List.length_cons, List.length_nil, Nat.zero_add, h1, Bool.and_self]
    ·have h1 := zhy (n := k + (l.length - k + 1)) (by omega)
     have h2 : k ≤ l.length + ys.length := by omega
     have hl4 : ((l.drop k).map fun a => V.d (encI a)).length = l.length - k := by rw [List.length_map, List.length_drop]
     simp only [zW, Try.underlying33, srcc, zpv, if_true, hrow2, hlen, hl4, h1, h2, htk, decide_true, Bool.and_self, List.length_append, List.length_cons, List.length_nil, Nat.zero_add]
    ·refine .inr ⟨S.length + 1, [], by simp [List.length_take, List.length_drop]; omega, ?_⟩
     rw [List.getElem?_append_right (by simp)]
     simp
    ·intro j o hj hn
     have hjl := zZ hj
     rw [List.getElem?_append_left (by simp; omega), List.getElem?_set_ne]
     ·exact qA hj
     ·rintro rfl; exact hn rfl
    ·intro i hi; cases hi; omega
end
def zqj : Nat := 5312662293245530767360
noncomputable def cfgH : Cfg := { P := Try.prog, mixed := by kernel_rfl, shared := fun f => Nat.beq f 71, ext := fun f => match Nat.beq f 70 with | true => some xK | false => match Nat.testBit zqj f with | true => some (evx cfg f) | false => Option.none, catch_ := fun _ => Option.none }
theorem hPH : cfgH.P = Try.prog := rfl
theorem zna {f : FuncId} {ds : List D} {o : Out} (h9 : Nat.beq f 70 = false) (hm : Nat.testBit zqj f = true) (h : Ev cfg f ds o) : Ev cfgH f ds o := by
 refine ⟨0, ?_⟩
 have hx : cfgH.ext f = some (evx cfg f) := by
  show (match Nat.beq f 70 with | true => some xK | false => match Nat.testBit zqj f with | true => some (evx cfg f) | false => Option.none) = _
  rw [h9, hm]
 unfold runD answer
 simp only [hx]
 exact zdv h
theorem zyr {h : List (List Node)} (ha : Asks70 [.sl (h.map encT)] h) : Ev cfgH 70 [.sl (h.map encT)] (.ret (.d (.sl ((vQ h).map zK)))) := by
 refine ⟨0, ?_⟩
 have hx : cfgH.ext 70 = some xK := rfl
 unfold runD answer
 simp only [hx]
 exact zz2 ha
theorem extH : z1d cfgH := by
 intro f g h
 have h : (match Nat.beq f 70 with | true => some xK | false => match Nat.testBit zqj f with | true => some (evx cfg f) | false => Option.none) = some g := h
 split at h
 ·rename_i hf
  cases h
  cases Nat.eq_of_beq_eq_true hf
  exact q14
 ·split at h
  ·cases h
   intro ds o ho
   obtain ⟨n, hn⟩ := ze1 ho
   exact z2t extC wG n f ds o hn
  ·cases h
theorem z4q : vY cfgH := fun f post h => by cases h
def z41 (n : Int) (l : List Int) : Nat → Nat
 | 0 => 0
 | k + 1 => if n ≤ l.getD k 0 then z41 n l k else k + 1
theorem zd4 {n : Int} {l : List Int} : ∀ {k : Nat}, z41 n l k ≤ k
 | 0 => Nat.le_refl _
 | k + 1 => by
  unfold z41
  split
  ·exact Nat.le_succ_of_le zd4
  ·exact Nat.le_refl _
theorem zz6 (l : List Int) (n : Int) (v : V) (S : zA) (hv : SlE encI S v 3 l) (hl : l.length < 900000) (R : Post) (x4 : V) : ∀ (k : Nat) (g2 g3 g6 g7 g8 g9 gP gQ gM gF gD gG gH gC gA gB gK gE gL gI gJ gN gO gR gS gT gX gW gU gV gZ gY gi gf gg gh gj gk gm gn : V), k ≤ l.length →
 (∀ g2 g3 g6 g7 g8 g9 gP gQ gM gF gD gG gH gC gA gB gK gE gL gI gJ gN gO gR gS gT gX gW gU gV gZ gY gi gf gg gh gj gk gm gn, R (.exit 0) (v :: (.d (.int .i64 n)) :: g2 :: g3 :: x4 :: (.d (.int .i64 (z41 n l k))) :: g6 :: g7 :: g8 :: g9 :: gP :: gQ :: gM :: gF :: gD :: gG :: gH :: gC :: gA :: gB :: gK :: gE :: gL :: gI :: gJ :: gN :: gO :: gR :: gS :: gT :: gX :: gW :: gU :: gV :: gZ :: gY :: gi :: gf :: gg :: gh :: gj :: gk :: gm :: gn :: []) S []) →
 Wp cfgH (.loop (lpOf (Try.f71.body.getD .skip) 0)) (v :: (.d (.int .i64 n)) :: g2 :: g3 :: x4 :: (.d (.int .i64 k)) :: g6 :: g7 :: g8 :: g9 :: gP :: gQ :: gM :: gF :: gD :: gG :: gH :: gC :: gA :: gB :: gK :: gE :: gL :: gI :: gJ :: gN :: gO :: gR :: gS :: gT :: gX :: gW :: gU :: gV :: gZ :: gY :: gi :: gf :: gg :: gh :: gj :: gk :: gm :: gn :: []) S [] R := by
 intro k
 induction k with
 | zero =>
  intro g2 g3 g6 g7 g8 g9 gP gQ gM gF gD gG gH gC gA gB gK gE gL gI gJ gN gO gR gS gT gX gW gU gV gZ gY gi gf gg gh gj gk gm gn hk hR
  have h0 : ¬ (((0 : Nat) : Int) > 0) := by omega
  rw [qQ]
  refine qC ?_
  conv => arg 2; whnf
  simp (maxSteps:=1000000) (disch:=first|assumption|omega|rfl) only [↓gp, gc, Nat.reduceAdd, hPH]
  exact hR _ _ _ _ _ _ _ _ _ _ _ _ _ _ _ _ _ _ _ _ _ _ _ _ _ _ _ _ _ _ _ _ _ _ _ _ _ _ _ _
 | succ k ih =>
  intro g2 g3 g6 g7 g8 g9 gP gQ gM gF gD gG gH gC gA gB gK gE gL gI gJ gN gO gR gS gT gX gW gU gV gZ gY gi gf gg gh gj gk gm gn hk hR
  have hlt : k < l.length := by omega
  obtain ⟨id, hix, hrd, _⟩ := hv.ix Try.underlying33 szI3 hlt
  have hg : l.getD k 0 = l[k] := by rw [List.getD_eq_getElem?_getD, List.getElem?_eq_getElem hlt]; rfl
  have h0 : (((k + 1 : Nat) : Int) > 0) := by omega
  have hk1 : ((k + 1 : Nat) : Int) - 1 = (k : Int) := by omega
  have hrd2 : rowE S id k = some (.d (.int .i64 l[k])) := hrd
  have hl3 : kE Try.prog 3 0 (some (.d (.int .i64 l[k]))) = some (.d (.int .i64 l[k])) := by kernel_rfl
  rw [qQ]
  refine qC ?_
  conv => arg 2; whnf
  by_cases hc : l[k] ≥ n
  ·have e : z41 n l (k + 1) = z41 n l k := by unfold z41; rw [hg, if_pos hc]; cases k <;> rfl
   rw [e] at hR
   simp (maxSteps:=1000000) (disch:=first|assumption|omega|rfl) only [↓gp, gc, Nat.reduceAdd, hPH, hk1, hix, hrd2, hl3]
   exact ih _ _ _ _ _ _ _ _ _ _ _ _ _ _ _ _ _ _ _ _ _ _ _ _ _ _ _ _ _ _ _ _ _ _ _ _ _ _ _ _ (by omega) hR
  ·have e : z41 n l (k + 1) = k + 1 := by unfold z41; rw [hg, if_neg hc]
   rw [e] at hR
   simp (maxSteps:=1000000) (disch:=first|assumption|omega|rfl) only [↓gp, gc, Nat.reduceAdd, hPH, hk1, hix, hrd2, hl3]
   exact hR _ _ _ _ _ _ _ _ _ _ _ _ _ _ _ _ _ _ _ _ _ _ _ _ _ _ _ _ _ _ _ _ _ _ _ _ _ _ _ _
def putL (n : Int) (l : List Int) : List Int := if z41 n l l.length < l.length ∧ l.getD (z41 n l l.length) 0 = n then l else l.take (z41 n l l.length) ++ n :: l.drop (z41 n l l.length)
theorem ztd (S0 : zA) (v : V) (l : List Int) (n : Int) (hv : SlE encI S0 v 3 l) (hl : l.length < 900000) : EvS cfgH 71 [v, .d (.int .i64 n)] S0 fun o S => ∃ v', o = .ret v' ∧ SlE encI S v' 3 (putL n l) ∧ (∀ (j : Nat) (o : Ob), S0[j]? = some o → idOf v ≠ some j → S[j]? = some o) ∧ (∀ i, idOf v' = some i → idOf v = some i ∨ S0.length ≤ i) := by
 refine wJ rfl zyv ?_
 show Wp cfgH (Try.f71.body.getD .skip) (v :: (.d (.int .i64 n)) :: uZ (uZ (uZ (uZ ((.tup []) :: (.tup []) :: []))))) S0 [] _
 unfold uZ
 conv => arg 2; whnf
 have hlen := hv.len (t := 33) Try.underlying33
 rw [qQ]
 simp (maxSteps:=1000000) (disch:=first|assumption|omega|rfl) only [↓gp, gc, Nat.reduceAdd, hPH, hlen]
 refine zz6 l n v S0 hv hl _ _ l.length _ _ _ _ _ _ _ _ _ _ _ _ _ _ _ _ _ _ _ _ _ _ _ _ _ _ _ _ _ _ _ _ _ _ _ _ _ _ _ _ (Nat.le_refl _) ?_
 intro g2 g3 g6 g7 g8 g9 gP gQ gM gF gD gG gH gC gA gB gK gE gL gI gJ gN gO gR gS gT gX gW gU gV gZ gY gi gf gg gh gj gk gm gn
 have hple : z41 n l l.length ≤ l.length := zd4
 generalize hr : putL n l = r
 unfold putL at hr
 generalize z41 n l l.length = p at *
 by_cases hp : p < l.length
 ·obtain ⟨id, hix, hrd, _⟩ := hv.ix Try.underlying33 szI3 hp
  have hg : l.getD p 0 = l[p] := by rw [List.getD_eq_getElem?_getD, List.getElem?_eq_getElem hp]; rfl
  have hrd2 : rowE S0 id p = some (.d (.int .i64 l[p])) := hrd
  have hl3 : kE Try.prog 3 0 (some (.d (.int .i64 l[p]))) = some (.d (.int .i64 l[p])) := by kernel_rfl
  have hpi : (p : Int) < (l.length : Int) := by omega
  rw [hg] at hr
  by_cases hq : l[p] = n
  ·rw [if_pos ⟨hp, hq⟩] at hr
   subst hr
   simp (maxSteps:=1000000) (disch:=first|assumption|omega|rfl) only [↓gp, gc, Nat.reduceAdd, hPH, hlen, hix, hrd2, hl3]
   exact ⟨rfl, _, zam rfl, _, rfl, hv, fun _ _ h _ => h, fun _ h => .inl h⟩
  ·rw [if_neg (fun hh => hq hh.2)] at hr
   subst hr
   obtain ⟨va, vb, v6, S1, v7, S2, c1, c2, e1, e2, e1', hsv, e3, e4, hc, hK1, hS7, hf, hnew⟩ := zja (e := n) hv hple hl
   have hbs : ∀ S, bs1 Try.prog S 33 (.d (.int .i64 n)) = some (.val (.ts [encI n]) S 0) := fun S => by kernel_rfl
   simp (maxSteps:=1000000) (disch:=first|assumption|omega|rfl) only [↓gp, gc, Nat.reduceAdd, hPH, hlen, hix, hrd2, hl3]
   rcases hc with ⟨rfl, rfl⟩ | ⟨rfl, rfl⟩ | ⟨rfl, rfl⟩
   ·refine kK (is := [0, 1, 2, 3, 4, 5, 6, 7, 8, 9, 10]) (h := 0) (by kernel_rfl) (by kernel_rfl) ?_
    simp (maxSteps:=1000000) (disch:=first|assumption|omega|rfl) only [List.replicate_zero, eq_self, gw, ga, Nat.reduceAdd, ↓gq, hPH, List.append_nil, Option.map_none, Option.map_some, hbs, e1, e2, e3, e4]
    refine ⟨zE (by kernel_rfl) (zE (by kernel_rfl) (zE (by kernel_rfl) qO)), by kernel_rfl, ?_⟩
    simp (maxSteps:=1000000) (disch:=first|assumption|omega|rfl) only [↓gp, gc, Nat.reduceAdd, hPH]
    exact ⟨rfl, _, zam rfl, _, rfl, hS7, hf, fun i hi => .inr (hnew i hi)⟩
   ·refine kK (is := [0, 1, 2, 3, 4, 5, 6, 7, 8, 9, 10]) (h := 0) (by kernel_rfl) (by kernel_rfl) ?_
    simp (maxSteps:=1000000) (disch:=first|assumption|omega|rfl) only [List.replicate_zero, eq_self, gw, ga, Nat.reduceAdd, ↓gq, hPH, List.append_nil, Option.map_none, Option.map_some, hbs, e1, e2, e3, e4]
    refine ⟨zE (by kernel_rfl) (zE (by kernel_rfl) (zE (by kernel_rfl) qO)), by kernel_rfl, ?_⟩
    simp (maxSteps:=1000000) (disch:=first|assumption|omega|rfl) only [↓gp, gc, Nat.reduceAdd, hPH]
    exact ⟨rfl, _, zam rfl, _, rfl, hS7, hf, fun i hi => .inr (hnew i hi)⟩
   ·refine kK (is := [0, 1, 2, 3, 4, 5, 6, 7, 8, 9, 10]) (h := 0) (by kernel_rfl) (by kernel_rfl) ?_
    simp (maxSteps:=1000000) (disch:=first|assumption|omega|rfl) only [List.replicate_zero, eq_self, gw, ga, Nat.reduceAdd, ↓gq, hPH, List.append_nil, Option.map_none, Option.map_some, hbs, e1, e2, e3, e4]
    refine ⟨zE (by kernel_rfl) (jJ rfl (by kernel_rfl) rfl ?_ hsv qO), zE (by kernel_rfl) (zE (by kernel_rfl) qO), by kernel_rfl, ?_⟩
    ·exact (show _ = (qT Try.prog S1 33 v none (some (.d (.int .i64 p)))).map (fun v => Rs.val v S1 1) from rfl).trans (by rw [e1']; rfl)
    simp (maxSteps:=1000000) (disch:=first|assumption|omega|rfl) only [↓gp, gc, Nat.reduceAdd, hPH]
    exact ⟨rfl, _, zam rfl, _, rfl, hS7, hf, fun i hi => .inr (hnew i hi)⟩
 ·have hpi : ¬ (p : Int) < (l.length : Int) := by omega
  rw [if_neg (fun hh => hp hh.1)] at hr
  subst hr
  obtain ⟨va, vb, v6, S1, v7, S2, c1, c2, e1, e2, e1', hsv, e3, e4, hc, hK1, hS7, hf, hnew⟩ := zja (e := n) hv hple hl
  have hbs : ∀ S, bs1 Try.prog S 33 (.d (.int .i64 n)) = some (.val (.ts [encI n]) S 0) := fun S => by kernel_rfl
  simp (maxSteps:=1000000) (disch:=first|assumption|omega|rfl) only [↓gp, gc, Nat.reduceAdd, hPH, hlen]
  rcases hc with ⟨rfl, rfl⟩ | ⟨rfl, rfl⟩ | ⟨rfl, rfl⟩
  ·refine kK (is := [0, 1, 2, 3, 4, 5, 6, 7, 8, 9, 10]) (h := 0) (by kernel_rfl) (by kernel_rfl) ?_
   simp (maxSteps:=1000000) (disch:=first|assumption|omega|rfl) only [List.replicate_zero, eq_self, gw, ga, Nat.reduceAdd, ↓gq, hPH, List.append_nil, Option.map_none, Option.map_some, hbs, e1, e2, e3, e4]
   refine ⟨zE (by kernel_rfl) (zE (by kernel_rfl) (zE (by kernel_rfl) qO)), by kernel_rfl, ?_⟩
   simp (maxSteps:=1000000) (disch:=first|assumption|omega|rfl) only [↓gp, gc, Nat.reduceAdd, hPH]
   exact ⟨rfl, _, zam rfl, _, rfl, hS7, hf, fun i hi => .inr (hnew i hi)⟩
  ·refine kK (is := [0, 1, 2, 3, 4, 5, 6, 7, 8, 9, 10]) (h := 0) (by kernel_rfl) (by kernel_rfl) ?_
   simp (maxSteps:=1000000) (disch:=first|assumption|omega|rfl) only [List.replicate_zero, eq_self, gw, ga, Nat.reduceAdd, ↓gq, hPH, List.append_nil, Option.map_none, Option.map_some, hbs, e1, e2, e3, e4]
   refine ⟨zE (by kernel_rfl) (zE (by kernel_rfl) (zE (by kernel_rfl) qO)), by kernel_rfl, ?_⟩
   simp (maxSteps:=1000000) (disch:=first|assumption|omega|rfl) only [↓gp, gc, Nat.reduceAdd, hPH]
   exact ⟨rfl, _, zam rfl, _, rfl, hS7, hf, fun i hi => .inr (hnew i hi)⟩
  ·refine kK (is := [0, 1, 2, 3, 4, 5, 6, 7, 8, 9, 10]) (h := 0) (by kernel_rfl) (by kernel_rfl) ?_
   simp (maxSteps:=1000000) (disch:=first|assumption|omega|rfl) only [List.replicate_zero, eq_self, gw, ga, Nat.reduceAdd, ↓gq, hPH, List.append_nil, Option.map_none, Option.map_some, hbs, e1, e2, e3, e4]
   refine ⟨zE (by kernel_rfl) (jJ rfl (by kernel_rfl) rfl ?_ hsv qO), zE (by kernel_rfl) (zE (by kernel_rfl) qO), by kernel_rfl, ?_⟩
   ·exact (show _ = (qT Try.prog S1 33 v none (some (.d (.int .i64 p)))).map (fun v => Rs.val v S1 1) from rfl).trans (by rw [e1']; rfl)
   simp (maxSteps:=1000000) (disch:=first|assumption|omega|rfl) only [↓gp, gc, Nat.reduceAdd, hPH]
   exact ⟨rfl, _, zam rfl, _, rfl, hS7, hf, fun i hi => .inr (hnew i hi)⟩
theorem zwh {C : Cfg} {f : FuncId} {ds : List D} {o : Out} {R : Out → zA → Prop} (hx : C.ext f = none) (h : EvS C f (ds.map .d) [] R) (hR : ∀ o' S, R o' S → z22 S o' = some o) : Ev C f ds o := by
 obtain ⟨n, o', S', h1, h2⟩ := h
 refine ⟨n, ?_⟩
 unfold runD answer
 simp only [hx, h1]
 exact hR _ _ h2
theorem zrt {t : List Node} (h : Told2 t) : Ev cfg 69 [.sl (t.map zB)] (.ret (.d (.map (z61 (zS t))))) := by
 refine zwh (ds := [.sl (t.map zB)]) rfl (ziy t h.srt h.dir h.nod h.pos h.len h.nms []) fun o S hh => ?_
 obtain ⟨i, ho, hM, _⟩ := hh
 subst ho
 have := q23 hM
 simp only [z22, this, Option.map_some]
theorem zoj {ops : Array Oper} {F : Dfs} {Q : Post} {K : List Nat → List (Nat × Nat) → List V → zA → Prop} {rd : List Nat} {cs : List (Nat × Nat)} {i : Nat} {dst : Option Tmp} {T : List V} {S : zA} {t : List Node} (h : Told2 t) :
  WpE cfgH ops F Q K rd cs i dst T S (some (.enter 69 [.d (.sl (t.map zB))])) = K (i :: rd) (cs ++ [(i, 1)]) (putT T dst (.d (.map (z61 (zS t))))) S :=
 z69 (ds := [.sl (t.map zB)]) rfl (zna rfl rfl (zrt h))
theorem zzi (t : List Node) (h : Told2 t) (s : Slot) : Ev cfgH 38 [.sl (t.map zB), zK s] (.ret (.d (.int .i64 (getS (zS t) s)))) := by
 refine z1r rfl rfl q0i ?_
 show Wp cfgH (Try.f38.body.getD .skip) ((.d (.sl (t.map zB))) :: (.d (zK s)) :: (.tup []) :: (.tup []) :: (.tup []) :: (.tup []) :: (.tup []) :: (.tup []) :: (.tup []) :: []) [] [] _
 conv => arg 2; whnf
 have q : ∀ S : zA, rowE (S ++ [Ob.row [.d (zK s)] 84]) S.length 0 = some (.d (zK s)) := fun S => zL
 have q0 := q []
 have lk : ∀ S, jR Try.prog S 118 (.d (.map (z61 (zS t)))) (.d (zK s)) false = some (.d (.int .i64 (getS (zS t) s))) := fun S => zh2 KeyV.d
 simp (maxSteps:=1000000) (disch:=first|assumption|omega|rfl) only [↓gp, gc, Nat.reduceAdd, hPH, tyS]
 refine jA (is := [0, 2, 1, 3, 4]) (h := 0) (by kernel_rfl) (by kernel_rfl) ?_
 simp (maxSteps:=1000000) (disch:=first|assumption|omega|rfl) only [List.replicate_zero, eq_self, gd, ga, Nat.reduceAdd, ↓gq, hPH, tyS, List.append_nil, zoj h, bo69, lk, q0]
 refine ⟨by kernel_rfl, ?_⟩
 simp (maxSteps:=1000000) (disch:=first|assumption|omega|rfl) only [↓gp, gc, Nat.reduceAdd, hPH, tyS]
 exact qN rfl rfl rfl
theorem z4c {n : Int} {l : List Int} : (putL n l).length ≤ l.length + 1 := by
 unfold putL
 split
 ·omega
 ·simp [List.length_take, List.length_drop]; have := zd4 (n := n) (l := l) (k := l.length); omega
section
variable {ops : Array Oper} {dst : Option Tmp} {k : List Oper} {T : List V} {S : zA} {F : Dfs} {Q : Post}
theorem z6r {v : V} {l : List Int} {n : Int} (hv : SlE encI S v 3 l) (hl : l.length < 900000) (hk : ∀ v' S', SlE encI S' v' 3 (putL n l) → (∀ (j : Nat) (o : Ob), S[j]? = some o → idOf v ≠ some j → S'[j]? = some o) → (∀ i, idOf v' = some i → idOf v = some i ∨ S.length ≤ i) → WpL cfgH ops k (putT T dst v') S' F Q) :
  WpR cfgH ops dst k T S F Q (some (.enter 71 [v, .d (.int .i64 n)])) := by
 refine jB rfl (ztd S v l n hv hl) (fun v1 S' h2 => ?_) (fun v1 S' h2 => ?_)
 ·obtain ⟨v', h3, h4, h5, h6⟩ := h2
  cases h3
  exact hk _ S' h4 h5 h6
 ·obtain ⟨i, h3, _⟩ := h2
  cases h3
theorem zqp {t : List Node} {s : Slot} (h : Told2 t) : WpR cfgH ops dst k T S F Q (some (.enter 38 [.d (.sl (t.map zB)), .d (zK s)])) = WpL cfgH ops k (putT T dst (.d (.int .i64 (getS (zS t) s)))) S F Q :=
 jI (ds := [.sl (t.map zB), zK s]) rfl (zzi t h s)
end
def zb4 (s : Slot) (h : List (List Node)) (ns : List Int) : List Int := h.foldl (fun ns t => putL (getS (zS t) s) ns) ns
theorem zyd (h : List (List Node)) (hh : ∀ t ∈ h, Told2 t) (hl : h.length < 800000) (s : Slot) (R : Post) (x2 x6 : V) : ∀ (k i : Nat) (ns : List Int) (v : V) (S : zA) (g3 g4 g8 g9 gF gD gG gH gC gA gB gK gE gL gI gJ gN gO : V), h.length - i = k → i ≤ h.length → SlE encI S v 3 ns → ns.length ≤ i → S[0]? = some (.row [.d (zK s)] 84) → idOf v ≠ some 0 →
 (∀ S v i' g3 g4 g8 g9 gF gD gG gH gC gA gB gK gE gL gI gJ gN gO, SlE encI S v 3 (zb4 s (h.drop i) ns) → R (.exit 0) ((.d (.sl (h.map encT))) :: (.d (.int .i64 0)) :: x2 :: g3 :: g4 :: (.ref 0 0 0) :: x6 :: v :: g8 :: g9 :: (.d (.sl (h.map encT))) :: (.d (.int .i64 h.length)) :: i' :: gF :: gD :: gG :: gH :: gC :: gA :: gB :: gK :: gE :: gL :: gI :: gJ :: gN :: gO :: []) S []) →
 Wp cfgH (.loop (lpOf (Try.f74.body.getD .skip) 0)) ((.d (.sl (h.map encT))) :: (.d (.int .i64 0)) :: x2 :: g3 :: g4 :: (.ref 0 0 0) :: x6 :: v :: g8 :: g9 :: (.d (.sl (h.map encT))) :: (.d (.int .i64 h.length)) :: (.d (.int .i64 i)) :: gF :: gD :: gG :: gH :: gC :: gA :: gB :: gK :: gE :: gL :: gI :: gJ :: gN :: gO :: []) S [] R := by
 intro k
 induction k with
 | zero =>
  intro i ns v S g3 g4 g8 g9 gF gD gG gH gC gA gB gK gE gL gI gJ gN gO hki hi hv hn h0 hid hR
  have hie : i = h.length := by omega
  rw [hie, List.drop_length] at hR
  rw [qQ]
  refine qC ?_
  conv => arg 2; whnf
  simp (maxSteps:=1000000) (disch:=first|assumption|omega|rfl) only [↓gp, gc, Nat.reduceAdd, hPH]
  exact hR _ _ _ _ _ _ _ _ _ _ _ _ _ _ _ _ _ _ _ _ _ hv
 | succ k ih =>
  intro i ns v S g3 g4 g8 g9 gF gD gG gH gC gA gB gK gE gL gI gJ gN gO hki hi hv hn h0 hid hR
  have hlt : i < h.length := by omega
  have hd : h.drop i = h[i] :: h.drop (i + 1) := List.drop_eq_getElem_cons hlt
  have hT := hh _ (List.getElem_mem hlt)
  rw [hd] at hR
  have hix := fun S => ix80 (S := S) hlt
  rw [qQ]
  refine qC ?_
  conv => arg 2; whnf
  generalize hee : h[i] = t at *
  have hl25 : ∀ S, jP Try.prog S 25 (.d (.ptr (encT t))) = some (.d (.sl (t.map zB))) := fun S => by kernel_rfl
  have q := zC h0
  have hge : ((i : Int) ≥ 0) := by omega
  have h1v := hv.one
  simp (maxSteps:=1000000) (disch:=first|assumption|omega|rfl) only [↓gp, gc, Nat.reduceAdd, hPH, hix, hl25, tyS, q, zqp hT, bo38, bo71, h1v]
  refine z6r hv (by omega) fun v' S' h1 h2 h3 => ?_
  simp (maxSteps:=1000000) (disch:=first|assumption|omega|rfl) only [↓gp, gc, Nat.reduceAdd, hPH]
  refine ih (i + 1) _ v' S' _ _ _ _ _ _ _ _ _ _ _ _ _ _ _ _ _ _ (by omega) (by omega) h1 (Nat.le_trans z4c (by omega)) (h2 _ _ h0 hid) (fun hh0 => ?_) hR
  rcases h3 _ hh0 with h4 | h4
  ·exact hid h4
  ·have := zZ h0; omega
theorem zuq (h : List (List Node)) (hh : ∀ t ∈ h, Told2 t) (hl : h.length < 800000) (s : Slot) : Ev cfgH 74 [.sl (h.map encT), .int .i64 0, zK s] (.ret (.d (.sl ((zb4 s h []).map encI)))) := by
 refine z1r rfl rfl zzr ?_
 show Wp cfgH (Try.f74.body.getD .skip) ((.d (.sl (h.map encT))) :: (.d (.int .i64 0)) :: (.d (zK s)) :: uZ (uZ ((.tup []) :: (.tup []) :: (.tup []) :: (.tup []) :: []))) [] [] _
 unfold uZ
 conv => arg 2; whnf
 simp (maxSteps:=1000000) (disch:=first|assumption|omega|rfl) only [↓gp, gc, Nat.reduceAdd, hPH, tyS, zzb]
 refine zyd h hh hl s _ _ _ h.length 0 [] _ _ _ _ _ _ _ _ _ _ _ _ _ _ _ _ _ _ _ _ rfl (by omega) (.inl ⟨rfl, rfl⟩) (by simp) rfl (by simp [idOf]) ?_
 intro S v i' g3 g4 g8 g9 gF gD gG gH gC gA gB gK gE gL gI gJ gN gO hv
 simp (maxSteps:=1000000) (disch:=first|assumption|omega|rfl) only [↓gp, gc, Nat.reduceAdd, hPH]
 exact qN rfl hv.one hv.frz
theorem still_ok (h : List (List Node)) (hh : ∀ t ∈ h, Told2 t) (hl : h.length < 800000) (s : Slot) : Ev cfgH 36 [.sl (h.map encT), .int .i64 0, zK s] (.ret (.d (.bool (decide (((zb4 s h []).length : Int) ≤ 1))))) := by
 have hc : ∀ {ops : Array Oper} {dst : Option Tmp} {k : List Oper} {T : List V} {S : zA} {F : Dfs} {Q : Post}, WpR cfgH ops dst k T S F Q (some (.enter 74 [.d (.sl (h.map encT)), .d (.int .i64 0), .d (zK s)])) = WpL cfgH ops k (putT T dst (.d (.sl ((zb4 s h []).map encI)))) S F Q := fun {ops dst k T S F Q} => jI (ds := [.sl (h.map encT), .int .i64 0, zK s]) rfl (zuq h hh hl s)
 refine z1r rfl rfl zxm ?_
 show Wp cfgH (Try.f36.body.getD .skip) ((.d (.sl (h.map encT))) :: (.d (.int .i64 0)) :: (.d (zK s)) :: uZ []) [] [] _
 unfold uZ
 conv => arg 2; whnf
 have q : ∀ S : zA, rowE (S ++ [Ob.row [.d (zK s)] 84]) S.length 0 = some (.d (zK s)) := fun S => zL
 have q0 := q []
 simp (maxSteps:=1000000) (disch:=first|assumption|omega|rfl) only [↓gp, gc, Nat.reduceAdd, hPH, tyS, q0, hc, bo74]
 exact qN rfl rfl rfl
def chgS (t u : List Node) : List Slot := (vQ [t, u]).filter fun s => decide (getS (zS t) s ≠ getS (zS u) s)
def vZ (n : Int) (ns : List Int) : List Int := if n = 0 then ns else putL n ns
def z9i (t u : List Node) (L : List Slot) (ns : List Int) : List Int := L.foldl (fun ns s => if getS (zS t) s = getS (zS u) s then ns else vZ (getS (zS u) s) (vZ (getS (zS t) s) ns)) ns
def z3p (t u : List Node) (n : Node) : Bool := decide (hasN t n.ino ≠ hasN u n.ino) || !decide ([z34 (getN t n.ino)] = [z34 (getN u n.ino)])
def z99 (t u : List Node) (l : List Node) (ns : List Int) : List Int := l.foldl (fun ns n => if z3p t u n then putL n.ino ns else ns) ns
def tchN (t u : List Node) : List Int := z99 t u (t ++ u) (z9i t u (vQ [t, u]) [])
theorem z2v {n : Int} {l : List Int} : (vZ n l).length ≤ l.length + 1 := by
 unfold vZ
 split
 ·omega
 ·exact z4c
def bs2V (P : Program) (S : zA) (t : TypeId) (v w : V) : Option Rs := opV P S [v, w] ⟨none, .buildSlice t 2 #[(0, .tmp 0), (1, .tmp 1)], 0, "", #[], none⟩
theorem zra {P : Program} {S : zA} {T : List V} {t : TypeId} {x y : Operand} {dst : Option Tmp} {ty : TypeId} {pos : String} {after : Array Edge} {g : Option (Nat × Bool)} : opV P S T ⟨dst, .buildSlice t 2 #[(0, x), (1, y)], ty, pos, after, g⟩ = bs2V P S t (zG T x) (zG T y) := rfl
theorem zyf {S : zA} {a b : Int} : bs2V Try.prog S 33 (.d (.int .i64 a)) (.d (.int .i64 b)) = some (.val (.ts [.int .i64 a, .int .i64 b]) S 0) := by kernel_rfl
theorem zwx {S : zA} {a b : List Node} : bs2V Try.prog S 80 (.d (.sl (a.map zB))) (.d (.sl (b.map zB))) = some (.val (.ts [.sl (a.map zB), .sl (b.map zB)]) S 0) := by kernel_rfl
theorem zx9 {S : zA} {T : List V} {dst : Option Tmp} {ty : TypeId} {pos : String} {after : Array Edge} {g : Option (Nat × Bool)} : opV Try.prog S T ⟨dst, .buildSlice 25 0 #[], ty, pos, after, g⟩ = some (.val (.ts []) S 0) := by kernel_rfl
theorem zvw {S : zA} {l : List Int} {i : Nat} (h : i < l.length) : qJ Try.prog S 33 (.ts (l.map encI)) (.d (.int .i64 i)) = some (.d (.ptr (encI l[i]))) := by
 have e : qJ Try.prog S 33 (.ts (l.map encI)) (.d (.int .i64 i)) = qJ Try.prog S 33 (.d (.sl (l.map encI))) (.d (.int .i64 i)) := by
  simp only [qJ, intOf?, Try.underlying33]
 rw [e]
 exact z9f Try.underlying33 zrf h
theorem zx1 (xs : List Int) (hx : xs.length ≤ 2) (c : Nat) (o : Ob) (R : Post) (x0 x1 x4 x5 x6 x7 x28 x29 x30 : V) : ∀ (k j : Nat) (ns : List Int) (v : V) (S : zA) (g2 g3 gP gQ gM gF gD gG gH gC gA gB gK gE gL gI gJ gN gO gR gW gU gV gZ gY gi gf gg gh gj gk gm gn gr hY hZ xI gz hC hH hJ xD xE xF xG xH xJ xL xM xN xO xP g66 g67 g68 xQ xK xR xS xT xU xV xW xX xY xZ g80 g81 g82 g83 g84 g85 g86 g87 g88 g89 g90 g91 g92 g93 g94 g95 g96 g97 g98 g99 g100 g101 g102 g103 g104 g105 g106 : V), xs.length - j = k → j ≤ xs.length → SlE encI S v 3 ns → ns.length + 2 < 900000 + j → S[c]? = some o → idOf v ≠ some c →
 (∀ S v j' g2 g3 gP gQ gM gF gD gG gH gC gA gB gK gE gL gI gJ gN gO gR gW gU gV gZ gY gi gf gg gh gj gk gm gn gr hY hZ xI gz hC hH hJ xD xE xF xG xH xJ xL xM xN xO xP g66 g67 g68 xQ xK xR xS xT xU xV xW xX xY xZ g80 g81 g82 g83 g84 g85 g86 g87 g88 g89 g90 g91 g92 g93 g94 g95 g96 g97 g98 g99 g100 g101 g102 g103 g104 g105 g106, SlE encI S v 3 ((xs.drop j).foldl (fun ns n => vZ n ns) ns) → S[c]? = some o → idOf v ≠ some c → R (.exit 2) (x0 :: x1 :: g2 :: g3 :: x4 :: x5 :: x6 :: x7 :: (.mr c) :: v :: gP :: gQ :: gM :: gF :: gD :: gG :: gH :: gC :: gA :: gB :: gK :: gE :: gL :: gI :: gJ :: gN :: gO :: gR :: x28 :: x29 :: x30 :: gW :: gU :: gV :: gZ :: gY :: gi :: gf :: gg :: gh :: gj :: gk :: gm :: gn :: gr :: hY :: hZ :: xI :: gz :: (.ts (xs.map encI)) :: (.d (.int .i64 xs.length)) :: j' :: hC :: hH :: hJ :: xD :: xE :: xF :: xG :: xH :: xJ :: xL :: xM :: xN :: xO :: xP :: g66 :: g67 :: g68 :: xQ :: xK :: xR :: xS :: xT :: xU :: xV :: xW :: xX :: xY :: xZ :: g80 :: g81 :: g82 :: g83 :: g84 :: g85 :: g86 :: g87 :: g88 :: g89 :: g90 :: g91 :: g92 :: g93 :: g94 :: g95 :: g96 :: g97 :: g98 :: g99 :: g100 :: g101 :: g102 :: g103 :: g104 :: g105 :: g106 :: []) S []) →
 Wp cfgH (.loop (lpOf (Try.f35.body.getD .skip) 2)) (x0 :: x1 :: g2 :: g3 :: x4 :: x5 :: x6 :: x7 :: (.mr c) :: v :: gP :: gQ :: gM :: gF :: gD :: gG :: gH :: gC :: gA :: gB :: gK :: gE :: gL :: gI :: gJ :: gN :: gO :: gR :: x28 :: x29 :: x30 :: gW :: gU :: gV :: gZ :: gY :: gi :: gf :: gg :: gh :: gj :: gk :: gm :: gn :: gr :: hY :: hZ :: xI :: gz :: (.ts (xs.map encI)) :: (.d (.int .i64 xs.length)) :: (.d (.int .i64 j)) :: hC :: hH :: hJ :: xD :: xE :: xF :: xG :: xH :: xJ :: xL :: xM :: xN :: xO :: xP :: g66 :: g67 :: g68 :: xQ :: xK :: xR :: xS :: xT :: xU :: xV :: xW :: xX :: xY :: xZ :: g80 :: g81 :: g82 :: g83 :: g84 :: g85 :: g86 :: g87 :: g88 :: g89 :: g90 :: g91 :: g92 :: g93 :: g94 :: g95 :: g96 :: g97 :: g98 :: g99 :: g100 :: g101 :: g102 :: g103 :: g104 :: g105 :: g106 :: []) S [] R := by
 intro k
 induction k with
 | zero =>
  intro j ns v S g2 g3 gP gQ gM gF gD gG gH gC gA gB gK gE gL gI gJ gN gO gR gW gU gV gZ gY gi gf gg gh gj gk gm gn gr hY hZ xI gz hC hH hJ xD xE xF xG xH xJ xL xM xN xO xP g66 g67 g68 xQ xK xR xS xT xU xV xW xX xY xZ g80 g81 g82 g83 g84 g85 g86 g87 g88 g89 g90 g91 g92 g93 g94 g95 g96 g97 g98 g99 g100 g101 g102 g103 g104 g105 g106 hkj hj hv hn h0 hid hR
  have hje : j = xs.length := by omega
  rw [hje, List.drop_length] at hR
  rw [qQ]
  refine qC ?_
  conv => arg 2; whnf
  simp (maxSteps:=1000000) (disch:=first|assumption|omega|rfl) only [↓gp, gc, Nat.reduceAdd, hPH]
  exact hR _ _ _ _ _ _ _ _ _ _ _ _ _ _ _ _ _ _ _ _ _ _ _ _ _ _ _ _ _ _ _ _ _ _ _ _ _ _ _ _ _ _ _ _ _ _ _ _ _ _ _ _ _ _ _ _ _ _ _ _ _ _ _ _ _ _ _ _ _ _ _ _ _ _ _ _ _ _ _ _ _ _ _ _ _ _ _ _ _ _ _ _ _ _ _ _ hv h0 hid
 | succ k ih =>
  intro j ns v S g2 g3 gP gQ gM gF gD gG gH gC gA gB gK gE gL gI gJ gN gO gR gW gU gV gZ gY gi gf gg gh gj gk gm gn gr hY hZ xI gz hC hH hJ xD xE xF xG xH xJ xL xM xN xO xP g66 g67 g68 xQ xK xR xS xT xU xV xW xX xY xZ g80 g81 g82 g83 g84 g85 g86 g87 g88 g89 g90 g91 g92 g93 g94 g95 g96 g97 g98 g99 g100 g101 g102 g103 g104 g105 g106 hkj hj hv hn h0 hid hR
  have hlt : j < xs.length := by omega
  have hd : xs.drop j = xs[j] :: xs.drop (j + 1) := List.drop_eq_getElem_cons hlt
  rw [hd] at hR
  have hix := fun S => zvw (S := S) hlt
  rw [qQ]
  refine qC ?_
  conv => arg 2; whnf
  generalize hee : xs[j] = e at *
  have hld : ∀ S, jP Try.prog S 3 (.d (.ptr (encI e))) = some (.d (.int .i64 e)) := fun S => by kernel_rfl
  by_cases hz : e = 0
  ·have hz' : ¬ (e ≠ 0) := fun h => h hz
   have e1 : vZ e ns = ns := by unfold vZ; rw [if_pos hz]
   rw [List.foldl_cons, e1] at hR
   simp (maxSteps:=1000000) (disch:=first|assumption|omega|rfl) only [↓gp, gc, Nat.reduceAdd, hPH, hix, hld]
   exact ih (j + 1) ns v S _ _ _ _ _ _ _ _ _ _ _ _ _ _ _ _ _ _ _ _ _ _ _ _ _ _ _ _ _ _ _ _ _ _ _ _ _ _ _ _ _ _ _ _ _ _ _ _ _ _ _ _ _ _ _ _ _ _ _ _ _ _ _ _ _ _ _ _ _ _ _ _ _ _ _ _ _ _ _ _ _ _ _ _ _ _ _ _ _ _ _ _ _ (by omega) (by omega) hv (by omega) h0 hid hR
  ·have e1 : vZ e ns = putL e ns := by unfold vZ; rw [if_neg hz]
   rw [List.foldl_cons, e1] at hR
   have h1v := hv.one
   simp (maxSteps:=1000000) (disch:=first|assumption|omega|rfl) only [↓gp, gc, Nat.reduceAdd, hPH, hix, hld, bo71, h1v]
   refine z6r hv (by omega) fun v' S' h1 h2 h3 => ?_
   simp (maxSteps:=1000000) (disch:=first|assumption|omega|rfl) only [↓gp, gc, Nat.reduceAdd, hPH]
   have hpl := z4c (n := e) (l := ns)
   refine ih (j + 1) _ v' S' _ _ _ _ _ _ _ _ _ _ _ _ _ _ _ _ _ _ _ _ _ _ _ _ _ _ _ _ _ _ _ _ _ _ _ _ _ _ _ _ _ _ _ _ _ _ _ _ _ _ _ _ _ _ _ _ _ _ _ _ _ _ _ _ _ _ _ _ _ _ _ _ _ _ _ _ _ _ _ _ _ _ _ _ _ _ _ _ _ _ _ _ _ (by omega) (by omega) h1 (by omega) (h2 _ _ h0 hid) (fun hh0 => ?_) hR
   rcases h3 _ hh0 with h4 | h4
   ·exact hid h4
   ·have := zZ h0; omega
theorem zj1 {k : Slot} {v : Int} : ∀ {M : List (Slot × Int)}, (updS M k v).length ≤ M.length + 1
 | [] => by simp [updS]
 | p :: r => by
  unfold updS
  split
  ·simp
  ·simp only [List.length_cons]
   have := zj1 (k := k) (v := v) (M := r)
   omega
theorem MapS.ob {S : zA} {i : Nat} {M : List (Slot × Int)} (h : MapS S i M) : ∃ o, S[i]? = some o ∧ ∀ {S' : zA}, S'[i]? = some o → MapS S' i M := by
 obtain ⟨es, c, h1, h2⟩ := h
 exact ⟨_, h1, fun h => ⟨es, c, h, h2⟩⟩
theorem q1m (t u : List Node) (L : List Slot) (hL : L.length < 200000) (c : Nat) (R : Post) (x0 x1 x4 x5 : V) : ∀ (k i : Nat) (ns : List Int) (v : V) (M : List (Slot × Int)) (S : zA) (g2 g3 gP gQ gM gF gD gG gH gC gA gB gK gE gL gI gJ gN gO gR gW gU gV gZ gY gi gf gg gh gj gk gm gn gr hY hZ xI gz xA xB xC hC hH hJ xD xE xF xG xH xJ xL xM xN xO xP g66 g67 g68 xQ xK xR xS xT xU xV xW xX xY xZ g80 g81 g82 g83 g84 g85 g86 g87 g88 g89 g90 g91 g92 g93 g94 g95 g96 g97 g98 g99 g100 g101 g102 g103 g104 g105 g106 : V), L.length - i = k → i ≤ L.length → SlE encI S v 3 ns → ns.length ≤ 2 * i → MapS S c M → (M.map (·.1)).Nodup → M.length ≤ i → (∀ x : Slot, x ∈ M.map (·.1) ↔ x ∈ L.take i ∧ getS (zS t) x ≠ getS (zS u) x) → idOf v ≠ some c →
 (∀ S v M i' g2 g3 gP gQ gM gF gD gG gH gC gA gB gK gE gL gI gJ gN gO gR gW gU gV gZ gY gi gf gg gh gj gk gm gn gr hY hZ xI gz xA xB xC hC hH hJ xD xE xF xG xH xJ xL xM xN xO xP g66 g67 g68 xQ xK xR xS xT xU xV xW xX xY xZ g80 g81 g82 g83 g84 g85 g86 g87 g88 g89 g90 g91 g92 g93 g94 g95 g96 g97 g98 g99 g100 g101 g102 g103 g104 g105 g106, SlE encI S v 3 (z9i t u (L.drop i) ns) → (z9i t u (L.drop i) ns).length ≤ 2 * L.length → MapS S c M → (M.map (·.1)).Nodup → M.length ≤ L.length → (∀ x : Slot, x ∈ M.map (·.1) ↔ x ∈ L ∧ getS (zS t) x ≠ getS (zS u) x) → idOf v ≠ some c → R (.exit 0) (x0 :: x1 :: g2 :: g3 :: x4 :: x5 :: (.d (.map (z61 (zS t)))) :: (.d (.map (z61 (zS u)))) :: (.mr c) :: v :: gP :: gQ :: gM :: gF :: gD :: gG :: gH :: gC :: gA :: gB :: gK :: gE :: gL :: gI :: gJ :: gN :: gO :: gR :: (.d (.sl (L.map zK))) :: (.d (.int .i64 L.length)) :: i' :: gW :: gU :: gV :: gZ :: gY :: gi :: gf :: gg :: gh :: gj :: gk :: gm :: gn :: gr :: hY :: hZ :: xI :: gz :: xA :: xB :: xC :: hC :: hH :: hJ :: xD :: xE :: xF :: xG :: xH :: xJ :: xL :: xM :: xN :: xO :: xP :: g66 :: g67 :: g68 :: xQ :: xK :: xR :: xS :: xT :: xU :: xV :: xW :: xX :: xY :: xZ :: g80 :: g81 :: g82 :: g83 :: g84 :: g85 :: g86 :: g87 :: g88 :: g89 :: g90 :: g91 :: g92 :: g93 :: g94 :: g95 :: g96 :: g97 :: g98 :: g99 :: g100 :: g101 :: g102 :: g103 :: g104 :: g105 :: g106 :: []) S []) →
 Wp cfgH (.loop (lpOf (Try.f35.body.getD .skip) 0)) (x0 :: x1 :: g2 :: g3 :: x4 :: x5 :: (.d (.map (z61 (zS t)))) :: (.d (.map (z61 (zS u)))) :: (.mr c) :: v :: gP :: gQ :: gM :: gF :: gD :: gG :: gH :: gC :: gA :: gB :: gK :: gE :: gL :: gI :: gJ :: gN :: gO :: gR :: (.d (.sl (L.map zK))) :: (.d (.int .i64 L.length)) :: (.d (.int .i64 i)) :: gW :: gU :: gV :: gZ :: gY :: gi :: gf :: gg :: gh :: gj :: gk :: gm :: gn :: gr :: hY :: hZ :: xI :: gz :: xA :: xB :: xC :: hC :: hH :: hJ :: xD :: xE :: xF :: xG :: xH :: xJ :: xL :: xM :: xN :: xO :: xP :: g66 :: g67 :: g68 :: xQ :: xK :: xR :: xS :: xT :: xU :: xV :: xW :: xX :: xY :: xZ :: g80 :: g81 :: g82 :: g83 :: g84 :: g85 :: g86 :: g87 :: g88 :: g89 :: g90 :: g91 :: g92 :: g93 :: g94 :: g95 :: g96 :: g97 :: g98 :: g99 :: g100 :: g101 :: g102 :: g103 :: g104 :: g105 :: g106 :: []) S [] R := by
 intro k
 induction k with
 | zero =>
  intro i ns v M S g2 g3 gP gQ gM gF gD gG gH gC gA gB gK gE gL gI gJ gN gO gR gW gU gV gZ gY gi gf gg gh gj gk gm gn gr hY hZ xI gz xA xB xC hC hH hJ xD xE xF xG xH xJ xL xM xN xO xP g66 g67 g68 xQ xK xR xS xT xU xV xW xX xY xZ g80 g81 g82 g83 g84 g85 g86 g87 g88 g89 g90 g91 g92 g93 g94 g95 g96 g97 g98 g99 g100 g101 g102 g103 g104 g105 g106 hki hi hv hn hM hMn hMl hm hid hR
  have hie : i = L.length := by omega
  rw [hie, List.drop_length] at hR
  rw [hie, List.take_length] at hm
  rw [qQ]
  refine qC ?_
  conv => arg 2; whnf
  simp (maxSteps:=1000000) (disch:=first|assumption|omega|rfl) only [↓gp, gc, Nat.reduceAdd, hPH]
  exact hR _ _ _ _ _ _ _ _ _ _ _ _ _ _ _ _ _ _ _ _ _ _ _ _ _ _ _ _ _ _ _ _ _ _ _ _ _ _ _ _ _ _ _ _ _ _ _ _ _ _ _ _ _ _ _ _ _ _ _ _ _ _ _ _ _ _ _ _ _ _ _ _ _ _ _ _ _ _ _ _ _ _ _ _ _ _ _ _ _ _ _ _ _ _ _ _ _ _ _ _ hv (show ns.length ≤ _ by omega) hM hMn (by omega) hm hid
 | succ k ih =>
  intro i ns v M S g2 g3 gP gQ gM gF gD gG gH gC gA gB gK gE gL gI gJ gN gO gR gW gU gV gZ gY gi gf gg gh gj gk gm gn gr hY hZ xI gz xA xB xC hC hH hJ xD xE xF xG xH xJ xL xM xN xO xP g66 g67 g68 xQ xK xR xS xT xU xV xW xX xY xZ g80 g81 g82 g83 g84 g85 g86 g87 g88 g89 g90 g91 g92 g93 g94 g95 g96 g97 g98 g99 g100 g101 g102 g103 g104 g105 g106 hki hi hv hn hM hMn hMl hm hid hR
  have hlt : i < L.length := by omega
  have hd : L.drop i = L[i] :: L.drop (i + 1) := List.drop_eq_getElem_cons hlt
  have htk : L.take (i + 1) = L.take i ++ [L[i]] := by rw [List.take_add_one, List.getElem?_eq_getElem hlt]; rfl
  rw [hd] at hR
  have hix := fun S => ix81 (S := S) hlt
  rw [qQ]
  refine qC ?_
  conv => arg 2; whnf
  generalize hee : L[i] = s at *
  have q := zC (qK (S := S) (o := Ob.row [.d (zK s)] 84))
  have lk1 : ∀ S, jR Try.prog S 118 (.d (.map (z61 (zS t)))) (.d (zK s)) false = some (.d (.int .i64 (getS (zS t) s))) := fun S => zh2 KeyV.d
  have lk2 : ∀ S, jR Try.prog S 118 (.d (.map (z61 (zS u)))) (.d (zK s)) false = some (.d (.int .i64 (getS (zS u) s))) := fun S => zh2 KeyV.d
  have hcS : c < S.length := by obtain ⟨o, h1, _⟩ := hM.ob; exact zZ h1
  have hK : Keep S (S ++ [Ob.row [.d (zK s)] 84]) := Keep.app
  have hstep : ∀ ns2 : List Int, z9i t u (s :: L.drop (i + 1)) ns2 = z9i t u (L.drop (i + 1)) (if getS (zS t) s = getS (zS u) s then ns2 else vZ (getS (zS u) s) (vZ (getS (zS t) s) ns2)) := fun ns2 => rfl
  rw [hstep] at hR
  by_cases hc : getS (zS t) s = getS (zS u) s
  ·rw [if_pos hc] at hR
   simp (maxSteps:=1000000) (disch:=first|assumption|omega|rfl) only [↓gp, gc, Nat.reduceAdd, hPH, hix, tyS, zL, zI, q]
   refine jA (is := [0, 1, 2, 3, 4, 5, 6]) (h := 0) (by kernel_rfl) (by kernel_rfl) ?_
   simp (maxSteps:=1000000) (disch:=first|assumption|omega|rfl) only [List.replicate_zero, eq_self, gd, ga, Nat.reduceAdd, ↓gq, hPH, tyS, List.append_nil, q, lk1, lk2]
   refine ⟨by kernel_rfl, ?_⟩
   simp (maxSteps:=1000000) (disch:=first|assumption|omega|rfl) only [↓gp, gc, Nat.reduceAdd, hPH]
   refine ih (i + 1) ns v M _ _ _ _ _ _ _ _ _ _ _ _ _ _ _ _ _ _ _ _ _ _ _ _ _ _ _ _ _ _ _ _ _ _ _ _ _ _ _ _ _ _ _ _ _ _ _ _ _ _ _ _ _ _ _ _ _ _ _ _ _ _ _ _ _ _ _ _ _ _ _ _ _ _ _ _ _ _ _ _ _ _ _ _ _ _ _ _ _ _ _ _ _ _ _ _ _ (by omega) (by omega) (hv.keep hK) (by omega) hM.app hMn (by omega) (fun x => ?_) hid hR
   rw [hm x, htk, List.mem_append, List.mem_singleton]
   constructor
   ·rintro ⟨h1, h2⟩; exact ⟨.inl h1, h2⟩
   ·rintro ⟨h1 | rfl, h2⟩
    ·exact ⟨h1, h2⟩
    ·exact absurd hc h2
  ·rw [if_neg hc] at hR
   obtain ⟨S2, hup, hM2, hk2⟩ := zsi (v := 1) (KeyV.d (k := s)) (hM.app (l := [Ob.row [.d (zK s)] 84]))
   have h84 : S2[S.length]? = some (.row [.d (zK s)] 84) := (hk2 _ (by omega)).trans qK
   have q2 := zC h84
   obtain ⟨o, ho1, ho2⟩ := hM2.ob
   have hv2 : SlE encI S2 v 3 ns := hv.frame2 fun j o hj hvj => (hk2 j (fun hh => hid (hh ▸ hvj))).trans (qA hj)
   simp (maxSteps:=1000000) (disch:=first|assumption|omega|rfl) only [↓gp, gc, Nat.reduceAdd, hPH, hix, tyS, zL, zI, q]
   refine jA (is := [0, 1, 2, 3, 4, 5, 6]) (h := 0) (by kernel_rfl) (by kernel_rfl) ?_
   simp (maxSteps:=1000000) (disch:=first|assumption|omega|rfl) only [List.replicate_zero, eq_self, gd, ga, Nat.reduceAdd, ↓gq, hPH, tyS, List.append_nil, q, lk1, lk2]
   refine ⟨by kernel_rfl, ?_⟩
   simp (maxSteps:=1000000) (disch:=first|assumption|omega|rfl) only [↓gp, gc, Nat.reduceAdd, hPH, tyS, q, hup, Option.map_some]
   refine jA (is := [0, 1, 2, 3, 4, 5, 6, 7, 8]) (h := 0) (by kernel_rfl) (by kernel_rfl) ?_
   simp (maxSteps:=1000000) (disch:=first|assumption|omega|rfl) only [List.replicate_zero, eq_self, gd, ga, Nat.reduceAdd, ↓gq, hPH, tyS, List.append_nil, q2, lk1, lk2, zra, zyf]
   refine ⟨by kernel_rfl, ?_⟩
   simp (maxSteps:=1000000) (disch:=first|assumption|omega|rfl) only [↓gp, gc, Nat.reduceAdd, hPH]
   have hl1 := z2v (n := getS (zS t) s) (l := ns)
   have hl2 := z2v (n := getS (zS u) s) (l := vZ (getS (zS t) s) ns)
   refine zx1 [getS (zS t) s, getS (zS u) s] (by simp) c o _ _ _ _ _ _ _ _ _ _ 2 0 ns v S2 _ _ _ _ _ _ _ _ _ _ _ _ _ _ _ _ _ _ _ _ _ _ _ _ _ _ _ _ _ _ _ _ _ _ _ _ _ _ _ _ _ _ _ _ _ _ _ _ _ _ _ _ _ _ _ _ _ _ _ _ _ _ _ _ _ _ _ _ _ _ _ _ _ _ _ _ _ _ _ _ _ _ _ _ _ _ _ _ _ _ _ _ _ rfl (by simp) hv2 (by omega) ho1 hid ?_
   intro S3 v3 j' g2 g3 gP gQ gM gF gD gG gH gC gA gB gK gE gL gI gJ gN gO gR gW gU gV gZ gY gi gf gg gh gj gk gm gn gr hY hZ xI gz hC hH hJ xD xE xF xG xH xJ xL xM xN xO xP g66 g67 g68 xQ xK xR xS xT xU xV xW xX xY xZ g80 g81 g82 g83 g84 g85 g86 g87 g88 g89 g90 g91 g92 g93 g94 g95 g96 g97 g98 g99 g100 g101 g102 g103 g104 g105 g106 hv3 ho3 hid3
   simp (maxSteps:=1000000) (disch:=first|assumption|omega|rfl) only [↓gp, gc, Nat.reduceAdd, hPH]
   refine ih (i + 1) _ v3 _ S3 _ _ _ _ _ _ _ _ _ _ _ _ _ _ _ _ _ _ _ _ _ _ _ _ _ _ _ _ _ _ _ _ _ _ _ _ _ _ _ _ _ _ _ _ _ _ _ _ _ _ _ _ _ _ _ _ _ _ _ _ _ _ _ _ _ _ _ _ _ _ _ _ _ _ _ _ _ _ _ _ _ _ _ _ _ _ _ _ _ _ _ _ _ _ _ _ (by omega) (by omega) hv3 (Nat.le_trans hl2 (by omega)) (ho2 ho3) (z9k hMn) (Nat.le_trans zj1 (by omega)) (fun x => ?_) hid3 hR
   rw [z8r, hm x, htk, List.mem_append, List.mem_singleton]
   constructor
   ·rintro (rfl | ⟨h1, h2⟩)
    ·exact ⟨.inr rfl, hc⟩
    ·exact ⟨.inl h1, h2⟩
   ·rintro ⟨h1 | rfl, h2⟩
    ·exact .inr ⟨h1, h2⟩
    ·exact .inl rfl
section
variable {ops : Array Oper} {F : Dfs} {Q : Post} {K : List Nat → List (Nat × Nat) → List V → zA → Prop} {rd : List Nat} {cs : List (Nat × Nat)} {i : Nat} {dst : Option Tmp} {T : List V} {S : zA}
theorem znd {n : Node} : WpE cfgH ops F Q K rd cs i dst T S (some (.enter 72 [.d (zB n)])) = K (i :: rd) (cs ++ [(i, 1)]) (putT T dst (.d (zB (z34 n)))) S :=
 z69 (ds := [zB n]) rfl (zna rfl rfl (ztj n))
theorem zj7 {a b : Node} : WpE cfgH ops F Q K rd cs i dst T S (some (.enter 34 [.ts [zB (z34 a)], .ts [zB (z34 b)]])) = K (i :: rd) (cs ++ [(i, 1)]) (putT T dst (.d (.bool (decide ([z34 a] = [z34 b]))))) S := by
 refine ze5 (ds := [.sl [zB (z34 a)], .sl [zB (z34 b)]]) rfl rfl rfl (zna rfl rfl ?_)
 exact zmz [z34 a] [z34 b] (by simp) (by simp) (fun n hn => by rw [List.mem_singleton.1 hn]; exact (by decide : (0 : Nat) < 1000000)) (fun n hn => by rw [List.mem_singleton.1 hn]; exact (by decide : (0 : Nat) < 1000000))
end
section
variable {ops : Array Oper} {dst : Option Tmp} {k : List Oper} {T : List V} {S : zA} {F : Dfs} {Q : Post}
theorem zab {t : List Node} {ino : Int} {k0 : Nat} (hS : Small k0 t) (hk0 : k0 < 300000) :
  WpR cfgH ops dst k T S F Q (some (.enter 15 [.d (.sl (t.map zB)), .d (.int .i64 ino)])) = WpL cfgH ops k (putT T dst (.tup [.d (zB (getN t ino)), .d (.bool (hasN t ino))])) S F Q :=
 jI (ds := [.sl (t.map zB), .int .i64 ino]) rfl (zna rfl rfl (zqk t ino k0 hk0 hS))
end
theorem bvb {a b : Bool} : binV Try.prog .neq 4 (.d (.bool a)) (.d (.bool b)) = some (.d (.bool (a != b))) := by cases a <;> cases b <;> kernel_rfl
theorem q1u (t u : List Node) (kt ku : Nat) (hkt : kt < 300000) (hku : ku < 300000) (hSt : Small kt t) (hSu : Small ku u) (W : List Node) (hW : W.length < 200000) (v6 : V) (c : Nat) (o : Ob) (R : Post) : ∀ (k i : Nat) (ns : List Int) (v : V) (S : zA) (g2 g3 g4 g5 g6 g7 gP gQ gM gF gD gG gH gC gA gB gK gE gL gI gJ gN gO gR gS gT gX gW gU gV gZ gY gi gf gg gh gj gk gm gn gr hY hZ xI gz xA xB xC hC hH hJ xD xE xF xG xH xJ xL xM xN xO xP xQ xK xR xS xT xU xV xW xX xY xZ g80 g81 g82 g83 g84 g85 g86 g87 g88 g89 g90 g91 g92 g93 g94 g95 g96 g97 g98 g99 g100 g101 g102 g103 g104 g105 g106 : V), W.length - i = k → i ≤ W.length → SlE encI S v 3 ns → ns.length + W.length < 800000 + i → S[c]? = some o → idOf v ≠ some c → SlE zB S v6 32 W → (∀ a, idOf v6 = some a → idOf v ≠ some a) →
 (∀ S v i' g2 g3 g4 g5 g6 g7 gP gQ gM gF gD gG gH gC gA gB gK gE gL gI gJ gN gO gR gS gT gX gW gU gV gZ gY gi gf gg gh gj gk gm gn gr hY hZ xI gz xA xB xC hC hH hJ xD xE xF xG xH xJ xL xM xN xO xP xQ xK xR xS xT xU xV xW xX xY xZ g80 g81 g82 g83 g84 g85 g86 g87 g88 g89 g90 g91 g92 g93 g94 g95 g96 g97 g98 g99 g100 g101 g102 g103 g104 g105 g106, SlE encI S v 3 (z99 t u (W.drop i) ns) → S[c]? = some o → idOf v ≠ some c → R (.exit 4) ((.d (.sl (t.map zB))) :: (.d (.sl (u.map zB))) :: g2 :: g3 :: g4 :: g5 :: g6 :: g7 :: (.mr c) :: v :: gP :: gQ :: gM :: gF :: gD :: gG :: gH :: gC :: gA :: gB :: gK :: gE :: gL :: gI :: gJ :: gN :: gO :: gR :: gS :: gT :: gX :: gW :: gU :: gV :: gZ :: gY :: gi :: gf :: gg :: gh :: gj :: gk :: gm :: gn :: gr :: hY :: hZ :: xI :: gz :: xA :: xB :: xC :: hC :: hH :: hJ :: xD :: xE :: xF :: xG :: xH :: xJ :: xL :: xM :: xN :: xO :: xP :: v6 :: (.d (.int .i64 W.length)) :: i' :: xQ :: xK :: xR :: xS :: xT :: xU :: xV :: xW :: xX :: xY :: xZ :: g80 :: g81 :: g82 :: g83 :: g84 :: g85 :: g86 :: g87 :: g88 :: g89 :: g90 :: g91 :: g92 :: g93 :: g94 :: g95 :: g96 :: g97 :: g98 :: g99 :: g100 :: g101 :: g102 :: g103 :: g104 :: g105 :: g106 :: []) S []) →
 Wp cfgH (.loop (lpOf (Try.f35.body.getD .skip) 4)) ((.d (.sl (t.map zB))) :: (.d (.sl (u.map zB))) :: g2 :: g3 :: g4 :: g5 :: g6 :: g7 :: (.mr c) :: v :: gP :: gQ :: gM :: gF :: gD :: gG :: gH :: gC :: gA :: gB :: gK :: gE :: gL :: gI :: gJ :: gN :: gO :: gR :: gS :: gT :: gX :: gW :: gU :: gV :: gZ :: gY :: gi :: gf :: gg :: gh :: gj :: gk :: gm :: gn :: gr :: hY :: hZ :: xI :: gz :: xA :: xB :: xC :: hC :: hH :: hJ :: xD :: xE :: xF :: xG :: xH :: xJ :: xL :: xM :: xN :: xO :: xP :: v6 :: (.d (.int .i64 W.length)) :: (.d (.int .i64 i)) :: xQ :: xK :: xR :: xS :: xT :: xU :: xV :: xW :: xX :: xY :: xZ :: g80 :: g81 :: g82 :: g83 :: g84 :: g85 :: g86 :: g87 :: g88 :: g89 :: g90 :: g91 :: g92 :: g93 :: g94 :: g95 :: g96 :: g97 :: g98 :: g99 :: g100 :: g101 :: g102 :: g103 :: g104 :: g105 :: g106 :: []) S [] R := by
 intro k
 induction k with
 | zero =>
  intro i ns v S g2 g3 g4 g5 g6 g7 gP gQ gM gF gD gG gH gC gA gB gK gE gL gI gJ gN gO gR gS gT gX gW gU gV gZ gY gi gf gg gh gj gk gm gn gr hY hZ xI gz xA xB xC hC hH hJ xD xE xF xG xH xJ xL xM xN xO xP xQ xK xR xS xT xU xV xW xX xY xZ g80 g81 g82 g83 g84 g85 g86 g87 g88 g89 g90 g91 g92 g93 g94 g95 g96 g97 g98 g99 g100 g101 g102 g103 g104 g105 g106 hki hi hv hn h0 hid h6 h69 hR
  have hie : i = W.length := by omega
  rw [hie, List.drop_length] at hR
  rw [qQ]
  refine qC ?_
  conv => arg 2; whnf
  simp (maxSteps:=1000000) (disch:=first|assumption|omega|rfl) only [↓gp, gc, Nat.reduceAdd, hPH]
  exact hR _ _ _ _ _ _ _ _ _ _ _ _ _ _ _ _ _ _ _ _ _ _ _ _ _ _ _ _ _ _ _ _ _ _ _ _ _ _ _ _ _ _ _ _ _ _ _ _ _ _ _ _ _ _ _ _ _ _ _ _ _ _ _ _ _ _ _ _ _ _ _ _ _ _ _ _ _ _ _ _ _ _ _ _ _ _ _ _ _ _ _ _ _ _ _ _ _ _ _ _ _ _ _ hv h0 hid
 | succ k ih =>
  intro i ns v S g2 g3 g4 g5 g6 g7 gP gQ gM gF gD gG gH gC gA gB gK gE gL gI gJ gN gO gR gS gT gX gW gU gV gZ gY gi gf gg gh gj gk gm gn gr hY hZ xI gz xA xB xC hC hH hJ xD xE xF xG xH xJ xL xM xN xO xP xQ xK xR xS xT xU xV xW xX xY xZ g80 g81 g82 g83 g84 g85 g86 g87 g88 g89 g90 g91 g92 g93 g94 g95 g96 g97 g98 g99 g100 g101 g102 g103 g104 g105 g106 hki hi hv hn h0 hid h6 h69 hR
  have hlt : i < W.length := by omega
  have hd : W.drop i = W[i] :: W.drop (i + 1) := List.drop_eq_getElem_cons hlt
  have hstep : ∀ ns2 : List Int, z99 t u (W[i] :: W.drop (i + 1)) ns2 = z99 t u (W.drop (i + 1)) (if z3p t u W[i] then putL W[i].ino ns2 else ns2) := fun ns2 => rfl
  rw [hd, hstep] at hR
  obtain ⟨id, hix, hrd, hidl⟩ := h6.ix (t := 25) Try.underlying25 (by kernel_rfl) hlt
  rw [qQ]
  refine qC ?_
  conv => arg 2; whnf
  generalize hee : W[i] = n at *
  obtain ⟨S1, hS1⟩ : ∃ S1, S ++ [Ob.row [.d (zB n)] 32] = S1 := ⟨_, rfl⟩
  obtain ⟨S2, hS2⟩ : ∃ S2, S1 ++ [Ob.row [.d (zB (getN t n.ino))] 32] = S2 := ⟨_, rfl⟩
  obtain ⟨S3, hS3⟩ : ∃ S3, S2 ++ [Ob.row [.d (zB (getN u n.ino))] 32] = S3 := ⟨_, rfl⟩
  have a1 : S1[S.length]? = some (.row [.d (zB n)] 32) := by rw [← hS1]; exact qK
  have a2 : S2[S.length]? = some (.row [.d (zB n)] 32) := by rw [← hS2]; exact qA a1
  have a3 : S3[S.length]? = some (.row [.d (zB n)] 32) := by rw [← hS3]; exact qA a2
  have b2 : S2[S1.length]? = some (.row [.d (zB (getN t n.ino))] 32) := by rw [← hS2]; exact qK
  have b3 : S3[S1.length]? = some (.row [.d (zB (getN t n.ino))] 32) := by rw [← hS3]; exact qA b2
  have c3 : S3[S2.length]? = some (.row [.d (zB (getN u n.ino))] 32) := by rw [← hS3]; exact qK
  have q1 := zC a1
  have q2 := zC a2
  have q3 := zC a3
  have qb := zC b3
  have qc := zC c3
  have hK : Keep S S3 := by rw [← hS3, ← hS2, ← hS1]; exact (Keep.app.trans Keep.app).trans Keep.app
  have hv3 := hv.keep hK
  have h63 := h6.keep hK
  have h03 := hK _ _ h0
  have h1v := hv.one
  simp (maxSteps:=1000000) (disch:=first|assumption|omega|rfl) only [↓gp, gc, Nat.reduceAdd, hPH, hix, hrd, tyS, z32, zf32, zL, zI, hS1, hS2, hS3, q1, q2, zab hSt hkt, zab hSu hku, bo15]
  refine jA (is := [0, 1, 2, 3, 4, 7, 5, 6, 8, 9, 10, 11, 12]) (h := 0) (by kernel_rfl) (by kernel_rfl) ?_
  have hfin : ∀ {r : Bool}, z3p t u n = r → (r = false → True) := fun _ _ => trivial
  by_cases hb : (hasN t n.ino != hasN u n.ino) = true
  ·have hdf : z3p t u n = true := by
    have hb2 : hasN t n.ino ≠ hasN u n.ino := by simpa using hb
    unfold z3p
    rw [decide_eq_true hb2]
    rfl
   rw [if_pos hdf] at hR
   simp (maxSteps:=1000000) (disch:=first|assumption|omega|rfl) only [List.replicate_zero, eq_self, gd, ga, Nat.reduceAdd, ↓gq, hPH, tyS, List.append_nil, qb, qc, bvb, hb]
   refine ⟨by kernel_rfl, ?_⟩
   simp (maxSteps:=1000000) (disch:=first|assumption|omega|rfl) only [↓gp, gc, Nat.reduceAdd, hPH, q3, bo71, h1v]
   refine z6r hv3 (by omega) fun v' S' e1 e2 e3 => ?_
   simp (maxSteps:=1000000) (disch:=first|assumption|omega|rfl) only [↓gp, gc, Nat.reduceAdd, hPH]
   have hpl := z4c (n := n.ino) (l := ns)
   refine ih (i + 1) _ v' S' _ _ _ _ _ _ _ _ _ _ _ _ _ _ _ _ _ _ _ _ _ _ _ _ _ _ _ _ _ _ _ _ _ _ _ _ _ _ _ _ _ _ _ _ _ _ _ _ _ _ _ _ _ _ _ _ _ _ _ _ _ _ _ _ _ _ _ _ _ _ _ _ _ _ _ _ _ _ _ _ _ _ _ _ _ _ _ _ _ _ _ _ _ _ _ _ _ _ _ _ (by omega) (by omega) e1 (by omega) (e2 _ _ h03 hid) (fun hh => ?_) (h63.frame2 fun j q hj hi6 => e2 _ _ hj (h69 j hi6)) (fun a ha hh => ?_) hR
   ·rcases e3 _ hh with h4 | h4
    ·exact hid h4
    ·have := zZ h03; omega
   ·rcases e3 _ hh with h4 | h4
    ·exact h69 a ha h4
    ·have := h63.lt ha; omega
  ·have hb' : (hasN t n.ino != hasN u n.ino) = false := by simpa using hb
   cases hsm : decide ([z34 (getN t n.ino)] = [z34 (getN u n.ino)]) with
   | true =>
    have hdf : z3p t u n = false := by
     have hb2 : ¬ hasN t n.ino ≠ hasN u n.ino := by simpa using hb'
     unfold z3p
     rw [decide_eq_false hb2, hsm]
     rfl
    rw [hdf] at hR
    simp (maxSteps:=1000000) (disch:=first|assumption|omega|rfl) only [List.replicate_zero, eq_self, gd, ga, Nat.reduceAdd, ↓gq, hPH, tyS, List.append_nil, qb, qc, bvb, hb', znd, bo72, bs25, zj7, bo34, hsm, z19, Bool.not_true]
    refine ⟨by kernel_rfl, ?_⟩
    simp (maxSteps:=1000000) (disch:=first|assumption|omega|rfl) only [↓gp, gc, Nat.reduceAdd, hPH]
    exact ih (i + 1) ns v S3 _ _ _ _ _ _ _ _ _ _ _ _ _ _ _ _ _ _ _ _ _ _ _ _ _ _ _ _ _ _ _ _ _ _ _ _ _ _ _ _ _ _ _ _ _ _ _ _ _ _ _ _ _ _ _ _ _ _ _ _ _ _ _ _ _ _ _ _ _ _ _ _ _ _ _ _ _ _ _ _ _ _ _ _ _ _ _ _ _ _ _ _ _ _ _ _ _ _ _ _ (by omega) (by omega) hv3 (by omega) h03 hid h63 h69 hR
   | false =>
    have hdf : z3p t u n = true := by
     unfold z3p
     rw [hsm]
     simp
    rw [if_pos hdf] at hR
    simp (maxSteps:=1000000) (disch:=first|assumption|omega|rfl) only [List.replicate_zero, eq_self, gd, ga, Nat.reduceAdd, ↓gq, hPH, tyS, List.append_nil, qb, qc, bvb, hb', znd, bo72, bs25, zj7, bo34, hsm, z19, Bool.not_false]
    refine ⟨by kernel_rfl, ?_⟩
    simp (maxSteps:=1000000) (disch:=first|assumption|omega|rfl) only [↓gp, gc, Nat.reduceAdd, hPH, q3, bo71, h1v]
    refine z6r hv3 (by omega) fun v' S' e1 e2 e3 => ?_
    simp (maxSteps:=1000000) (disch:=first|assumption|omega|rfl) only [↓gp, gc, Nat.reduceAdd, hPH]
    have hpl := z4c (n := n.ino) (l := ns)
    refine ih (i + 1) _ v' S' _ _ _ _ _ _ _ _ _ _ _ _ _ _ _ _ _ _ _ _ _ _ _ _ _ _ _ _ _ _ _ _ _ _ _ _ _ _ _ _ _ _ _ _ _ _ _ _ _ _ _ _ _ _ _ _ _ _ _ _ _ _ _ _ _ _ _ _ _ _ _ _ _ _ _ _ _ _ _ _ _ _ _ _ _ _ _ _ _ _ _ _ _ _ _ _ _ _ _ _ (by omega) (by omega) e1 (by omega) (e2 _ _ h03 hid) (fun hh => ?_) (h63.frame2 fun j q hj hi6 => e2 _ _ hj (h69 j hi6)) (fun a ha hh => ?_) hR
    ·rcases e3 _ hh with h4 | h4
     ·exact hid h4
     ·have := zZ h03; omega
    ·rcases e3 _ hh with h4 | h4
     ·exact h69 a ha h4
     ·have := h63.lt ha; omega
end Go.Proofs.Ytghllhghboaagaa
end
section
namespace Go.Vm
section
variable {C : Cfg}
theorem zfs : ∀ {l m : List D}, l.map V.d = m.map V.d → l = m
 | [], [], _ => rfl
 | [], _ :: _, h => by cases h
 | _ :: _, [], h => by cases h
 | a :: l, b :: m, h => by
  rw [List.map_cons, List.map_cons] at h
  obtain ⟨h1, h2⟩ := List.cons.inj h
  rw [V.d.inj h1, zfs h2]
theorem zjj (hext : z1d C) (hcatch : vY C) {f : FuncId} {c : Code} {n : Nat} {rs : Array ResultVar} {ds es : List D} (hb : zF C.P f = some ⟨c, n, rs⟩) (h : EOk C c (z05 n (ds.map .d)) [] [] (RetQ C.P rs (.ret (.tup (es.map .d))))) :
  ∀ (A : Nat → Prop) (w : World) (us : Array Value), (∀ b, A b → b < w.heap.size) → RepS A w ds us.toList → Calls C.P f us w (z2z A w (.tup es)) := by
 intro A w us hlt hr
 obtain ⟨fn, hf, hbody, hn, hres⟩ := z1l hb
 refine calls_of_wp_defers hf hbody ?_
 have hI : Inv C.P [] (fun _ => 0) A w := z95 hlt
 have hstart := z2j (P := C.P) (S := []) (ρ := fun _ => 0) (A := A) (w := w) fn.ntmps (vH hr)
 have hn : n = fn.ntmps := hn
 have hres : rs = fn.results := hres
 rw [hn] at h
 refine z0r (h.run hI hstart rfl fun x T1 S1 F1 e a' w' hq he => ?_)
 obtain ⟨hx, rfl, v, hv, ho⟩ := hq
 have good : St C.P [] (fun _ => 0) A w T1 S1 [] a' w' → Leaves C.P fn a'.tmps (z2z A w (.tup es)) a'.defers .returning w' := fun hs => by
  obtain ⟨ρ1, A1, k1, k2, k3, k4⟩ := hs
  rw [hres] at hv
  refine zf8 (z5h hext hcatch 0).1 hv (fun u w2 hh => ?_) (S2 := S1) rfl k1 k2 k3 k4
  obtain ⟨ρ', A', h1, h2, h3⟩ := hh
  unfold z22 at ho
  split at ho
  ·rename_i vs hvs
   obtain ⟨xs, hx2, h5⟩ := Option.map_eq_some_iff.1 ho
   cases hvs
   have h6 : xs = es := zfs (V.tup.inj (Out.ret.inj h5))
   subst h6
   obtain ⟨us', rfl, h3⟩ := h3
   exact ⟨_, z5u hlt h1 h2 (vs.flatMap (qH S1 zR)), us', rfl, z7g h1 hx2 h3 (fun i hi => hi)⟩
  ·rename_i v0 hne hv0
   obtain ⟨y, hy, h5⟩ := Option.map_eq_some_iff.1 ho
   cases h5
  ·rename_i v0 hv0
   cases hv0
 cases e with
 | normal => exact good he.2
 | ret => exact good he.2
 | exit k => rcases hx with rfl | rfl <;> exact absurd he.1 (by simp)
 | panic c => obtain ⟨y, u, h1, _⟩ := he; rcases hx with rfl | rfl <;> cases h1
 | goto l => exact he.elim
 | outgrown => exact he.elim
end
end Go.Vm
end
section
namespace Go.Proofs.Ytghllhghboaagaa
open Go.Vm
theorem zi5 {α : Type} {enc : α → D} {t e : TypeId} {S : zA} {v : V} {l ds : List α} (hu : Try.prog.underlying t = some (.slice e)) (hz : zOk Try.prog e = true) (hs : (sz Try.prog e).isSome = true) (hf : ∀ a, qD Try.prog e (.d (enc a)) = true) (hr : room Try.prog e (l.length + ds.length) = true) (h : SlE enc S v e l) :
  ∃ v' S' c, zW Try.prog S t t v (.d (.sl (ds.map enc))) = some (v', S', c) ∧ SlE enc S' v' e (l ++ ds) ∧ (∀ (j : Nat) (o : Ob), S[j]? = some o → idOf v ≠ some j → S'[j]? = some o) ∧ (∀ i, idOf v' = some i → idOf v = some i ∨ S.length ≤ i) := by
 have hall : ((ds.map enc).map V.d).all (qD Try.prog e) = true := by
  rw [List.all_eq_true]
  intro x hx
  obtain ⟨y, hy, rfl⟩ := List.mem_map.1 hx
  obtain ⟨a, _, rfl⟩ := List.mem_map.1 hy
  exact hf a
 have src : srcV Try.prog S e t (.d (.sl (ds.map enc))) = some ((ds.map enc).map V.d) := by
  simp only [srcV, hu, kU, hall, hs, Bool.and_self, if_true]
 cases ds with
 | nil =>
  rw [List.append_nil]
  have src0 : srcV Try.prog S e t (.d (.sl [])) = some [] := src
  rcases h with ⟨rfl, rfl⟩ | ⟨id, ys, rfl, h1⟩
  ·exact ⟨.ts [], S, 1, by simp only [zW, hu, src0, List.map_nil], .inl ⟨rfl, rfl⟩, fun _ _ h _ => h, fun i hi => .inl hi⟩
  ·exact ⟨.rs id 0 l.length, S, 1, by simp only [zW, hu, src0, List.map_nil], .inr ⟨id, ys, rfl, h1⟩, fun _ _ h _ => h, fun i hi => .inl hi⟩
 | cons a r =>
  have src1 : srcV Try.prog S e t (.d (.sl (enc a :: r.map enc))) = some (.d (enc a) :: (r.map enc).map .d) := src
  have hl2 : ((r.map enc).map V.d).length = r.length := by simp
  rcases h with ⟨rfl, rfl⟩ | ⟨id, ys, rfl, h1⟩
  ·have hr' : room Try.prog e (0 + (r.length + 1)) = true := by simpa using hr
   refine ⟨.rs S.length 0 (0 + (r.length + 1)), S ++ [.row ((a :: r).map fun a => .d (enc a)) e], 2, ?_, .inr ⟨S.length, [], by simp, by simp⟩, fun j o hj _ => Keep.app _ _ hj, fun i hi => by cases hi; exact .inr (Nat.le_refl _)⟩
   show zW Try.prog S t t _ (.d (.sl (enc a :: r.map enc))) = _
   simp only [zW, hu, src1, hz, if_true, List.map_cons, List.all_nil, List.length_nil, hl2, hr', Bool.and_self, List.map_nil, List.nil_append, List.map_map, Function.comp_def, List.length_map]
  ·have hid := zZ h1
   have htk : ((l ++ ys).map fun a => V.d (enc a)).take l.length = l.map fun a => V.d (enc a) := by rw [← List.map_take, List.take_append_of_le_length (Nat.le_refl _), List.take_length]
   have hlen : ((l ++ ys).map fun a => V.d (enc a)).length = l.length + ys.length := by simp
   have h2 : l.length ≤ l.length + ys.length := by omega
   have hr' : room Try.prog e (l.length + (r.length + 1)) = true := by simpa using hr
   refine ⟨.rs S.length 0 (l.length + (r.length + 1)), S.set id .dead ++ [.row (l.map (fun a => V.d (enc a)) ++ (a :: r).map fun a => .d (enc a)) e], 3, ?_, .inr ⟨S.length, [], by simp, ?_⟩, ?_, fun i hi => by cases hi; exact .inr (Nat.le_refl _)⟩
   ·show zW Try.prog S t t _ (.d (.sl (enc a :: r.map enc))) = _
    simp only [zW, hu, src1, hz, if_true, List.map_cons, h1, hlen, hl2, hr', h2, htk, decide_true, Bool.and_self, List.map_map, Function.comp_def, List.length_map]
   ·rw [List.getElem?_append_right (by simp)]
    simp
   ·intro j o hj hn
    have hjl := zZ hj
    rw [List.getElem?_append_left (by simpa using hjl), List.getElem?_set_ne]
    ·exact hj
    ·rintro rfl; exact hn rfl
section
variable {ops : Array Oper} {dst : Option Tmp} {k : List Oper} {T : List V} {S : zA} {F : Dfs} {Q : Post}
theorem za2 {t : List Node} (h : Told2 t) : WpR cfgH ops dst k T S F Q (some (.enter 69 [.d (.sl (t.map zB))])) = WpL cfgH ops k (putT T dst (.d (.map (z61 (zS t))))) S F Q :=
 jI (ds := [.sl (t.map zB)]) rfl (zna rfl rfl (zrt h))
theorem zgi {t u : List Node} (ha : Asks70 [.sl ([t, u].map encT)] [t, u]) : WpR cfgH ops dst k T S F Q (some (.enter 70 [.ts [.sl (t.map zB), .sl (u.map zB)]])) = WpL cfgH ops k (putT T dst (.d (.sl ((vQ [t, u]).map zK)))) S F Q :=
 znu (ds := [.sl [.sl (t.map zB), .sl (u.map zB)]]) rfl rfl rfl (zyr ha)
end
structure Pair (t u : List Node) : Prop where
 tt : Told2 t
 tu : Told2 u
 st : ∃ k, k < 300000 ∧ Small k t
 su : ∃ k, k < 300000 ∧ Small k u
 ask : Asks70 [.sl ([t, u].map encT)] [t, u]
 few : (vQ [t, u]).length < 200000
 len : (t ++ u).length < 200000
theorem zc0 (h : List (List Node)) : SrtS (vQ h) := z2f
theorem zsc : zF Try.prog 35 = some ⟨Try.f35.body.getD .skip, 107, #[.tmp 4, .tmp 5]⟩ := by
 unfold zF
 rw [Try.func35]
 rfl
theorem ztr (S0 : zA) (i : Nat) (M : List (Slot × Int)) (h : MapS S0 i M) (hk : (M.map (·.1)).Nodup) (hl : M.length < 800000) : EOkC cfgH 73 [.mr i] S0 (fun v S => Keep S0 S ∧ SlE zK S v 84 (z8c (M.map (·.1)))) := ⟨fun hI hr => (zea S0 i M h hk hl).run hI hr⟩
theorem zla {t u : List Node} {l : List Slot} (hm : ∀ x : Slot, x ∈ l ↔ x ∈ vQ [t, u] ∧ getS (zS t) x ≠ getS (zS u) x) : chgS t u = z8c l := by
 refine z8s (List.Pairwise.filter _ (zc0 _)) z2f fun x => ?_
 rw [z1o, hm x]
 unfold chgS
 rw [List.mem_filter, decide_eq_true_eq]
theorem zhg (t u : List Node) (h : Pair t u) :
  EOk cfgH (Try.f35.body.getD .skip) (z05 107 ([D.sl (t.map zB), D.sl (u.map zB)].map .d)) [] [] (RetQ cfgH.P #[.tmp 4, .tmp 5] (.ret (.tup ([D.sl ((chgS t u).map zK), D.sl ((tchN t u).map encI)].map .d)))) := by
 obtain ⟨kt, hkt, hSt⟩ := h.st
 obtain ⟨ku, hku, hSu⟩ := h.su
 have hfew := h.few
 have hlen := h.len
 show EOk cfgH (Try.f35.body.getD .skip) ((.d (.sl (t.map zB))) :: (.d (.sl (u.map zB))) :: (.tup []) :: (.tup []) :: (.tup []) :: (.tup []) :: (.tup []) :: (.tup []) :: (.tup []) :: (.tup []) :: (.tup []) :: (.tup []) :: (.tup []) :: (.tup []) :: (.tup []) :: (.tup []) :: (.tup []) :: (.tup []) :: (.tup []) :: (.tup []) :: (.tup []) :: (.tup []) :: (.tup []) :: (.tup []) :: (.tup []) :: (.tup []) :: (.tup []) :: (.tup []) :: (.tup []) :: (.tup []) :: (.tup []) :: (.tup []) :: (.tup []) :: (.tup []) :: (.tup []) :: (.tup []) :: (.tup []) :: (.tup []) :: (.tup []) :: (.tup []) :: (.tup []) :: (.tup []) :: (.tup []) :: (.tup []) :: (.tup []) :: (.tup []) :: (.tup []) :: (.tup []) :: (.tup []) :: (.tup []) :: (.tup []) :: (.tup []) :: (.tup []) :: (.tup []) :: (.tup []) :: (.tup []) :: (.tup []) :: (.tup []) :: (.tup []) :: (.tup []) :: (.tup []) :: (.tup []) :: (.tup []) :: (.tup []) :: (.tup []) :: (.tup []) :: (.tup []) :: (.tup []) :: (.tup []) :: (.tup []) :: (.tup []) :: (.tup []) :: (.tup []) :: (.tup []) :: (.tup []) :: (.tup []) :: (.tup []) :: (.tup []) :: (.tup []) :: (.tup []) :: (.tup []) :: (.tup []) :: (.tup []) :: (.tup []) :: (.tup []) :: (.tup []) :: (.tup []) :: (.tup []) :: (.tup []) :: (.tup []) :: (.tup []) :: (.tup []) :: (.tup []) :: (.tup []) :: (.tup []) :: (.tup []) :: (.tup []) :: (.tup []) :: (.tup []) :: (.tup []) :: (.tup []) :: (.tup []) :: (.tup []) :: (.tup []) :: (.tup []) :: (.tup []) :: (.tup []) :: []) [] [] _
 conv => arg 2; whnf
 refine kQ ?_
 refine wS extH z4q ?_
 show Wp cfgH _ _ _ _ (post cfgH [] _)
 simp (maxSteps:=1000000) (disch:=first|assumption|omega|rfl) only [↓gp, gc, Nat.reduceAdd, hPH]
 show EOk cfgH _ _ _ _ _
 refine kQ ?_
 refine wS extH z4q ?_
 show Wp cfgH _ _ _ _ (post cfgH [] _)
 simp (maxSteps:=1000000) (disch:=first|assumption|omega|rfl) only [↓gp, gc, Nat.reduceAdd, hPH, za2 h.tt, za2 h.tu, bo69]
 show EOk cfgH _ _ _ _ _
 refine kQ ?_
 refine wS extH z4q ?_
 show Wp cfgH _ _ _ _ (post cfgH [] _)
 simp (maxSteps:=1000000) (disch:=first|assumption|omega|rfl) only [↓gp, gc, Nat.reduceAdd, hPH, ↓z4f]
 show EOk cfgH _ _ _ _ _
 refine kQ ?_
 refine wS extH z4q ?_
 show Wp cfgH _ _ _ _ (post cfgH [] _)
 simp (maxSteps:=1000000) (disch:=first|assumption|omega|rfl) only [↓gp, gc, Nat.reduceAdd, hPH]
 show EOk cfgH _ _ _ _ _
 refine kQ ?_
 refine wS extH z4q ?_
 show Wp cfgH _ _ _ _ (post cfgH [] _)
 simp (maxSteps:=1000000) (disch:=first|assumption|omega|rfl) only [↓gp, gc, Nat.reduceAdd, hPH, ↓vbs, zra, zwx, zgi h.ask, bo70, tyS]
 refine q1m t u (vQ [t, u]) hfew 0 _ _ _ _ _ _ 0 [] _ [] _ _ _ _ _ _ _ _ _ _ _ _ _ _ _ _ _ _ _ _ _ _ _ _ _ _ _ _ _ _ _ _ _ _ _ _ _ _ _ _ _ _ _ _ _ _ _ _ _ _ _ _ _ _ _ _ _ _ _ _ _ _ _ _ _ _ _ _ _ _ _ _ _ _ _ _ _ _ _ _ _ _ _ _ _ _ _ _ _ _ _ _ _ _ _ _ _ rfl (Nat.zero_le _) (.inl ⟨rfl, rfl⟩) (Nat.zero_le _) ⟨[], 0, rfl, rfl, List.Pairwise.nil, fun e he => by cases he⟩ List.Pairwise.nil (Nat.le_refl _) (fun x => by simp) (by simp [idOf]) ?_
 intro S v M i' g2 g3 gP gQ gM gF gD gG gH gC gA gB gK gE gL gI gJ gN gO gR gW gU gV gZ gY gi gf gg gh gj gk gm gn gr hY hZ xI gz xA xB xC hC hH hJ xD xE xF xG xH xJ xL xM xN xO xP g66 g67 g68 xQ xK xR xS xT xU xV xW xX xY xZ g80 g81 g82 g83 g84 g85 g86 g87 g88 g89 g90 g91 g92 g93 g94 g95 g96 g97 g98 g99 g100 g101 g102 g103 g104 g105 g106 hv hvl hM hMn hMl hm hid
 rw [List.drop_zero] at hv hvl
 simp (maxSteps:=1000000) (disch:=first|assumption|omega|rfl) only [↓gp, gc, Nat.reduceAdd, hPH]
 show EOk cfgH _ _ _ _ _
 refine kQ ?_
 refine wS extH z4q ?_
 show Wp cfgH _ _ _ _ (post cfgH [] _)
 obtain ⟨v6, S1, c1, e1, e2, e3, e4⟩ := zi5 (t := 25) (enc := zB) (ds := t) (v := .ts []) (l := []) (S := S) Try.underlying25 (by kernel_rfl) (by kernel_rfl) zgo (zlp (by simp at hlen; simp; omega)) (.inl ⟨rfl, rfl⟩)
 rw [List.nil_append] at e2
 have e3 : ∀ (j : Nat) (o : Ob), S[j]? = some o → S1[j]? = some o := fun j o hj => e3 j o hj (by simp [idOf])
 have e4 : ∀ i, idOf v6 = some i → S.length ≤ i := fun i hi => (e4 i hi).elim (fun h => by cases h) id
 obtain ⟨v7, S2, c2, f1, f2, f3, f4⟩ := zi5 (t := 25) (ds := u) Try.underlying25 (by kernel_rfl) (by kernel_rfl) zgo (zlp (by simp at hlen; omega)) e2
 have hlen7 := f2.len (t := 25) Try.underlying25
 obtain ⟨o, ho1, ho2⟩ := hM.ob
 have h0S := zZ ho1
 have ho2' : S2[0]? = some o := f3 _ _ (e3 _ _ ho1) (fun hh => by have := e4 _ hh; omega)
 have hv2 : SlE encI S2 v 3 (z9i t u (vQ [t, u]) []) := hv.frame2 fun j q hj hi => f3 _ _ (e3 _ _ hj) (fun hh => by have := e4 _ hh; have := hv.lt hi; omega)
 simp (maxSteps:=1000000) (disch:=first|assumption|omega|rfl) only [↓gp, gc, Nat.reduceAdd, hPH, ↓vbs, zx9, e1, f1, hlen7]
 refine q1u t u kt ku hkt hku hSt hSu (t ++ u) hlen v7 0 o _ _ 0 _ v S2 _ _ _ _ _ _ _ _ _ _ _ _ _ _ _ _ _ _ _ _ _ _ _ _ _ _ _ _ _ _ _ _ _ _ _ _ _ _ _ _ _ _ _ _ _ _ _ _ _ _ _ _ _ _ _ _ _ _ _ _ _ _ _ _ _ _ _ _ _ _ _ _ _ _ _ _ _ _ _ _ _ _ _ _ _ _ _ _ _ _ _ _ _ _ _ _ _ _ _ _ rfl (Nat.zero_le _) hv2 (by omega) ho2' hid f2 (fun a ha hh => ?_) ?_
 ·have h1 := hv.lt hh
  rcases f4 a ha with h2 | h2
  ·have := e4 a h2; omega
  ·have := (show S.length ≤ S1.length from Keep.len e3); omega
 intro S3 v3 i3 g2 g3 g4 g5 g6 g7 gP gQ gM gF gD gG gH gC gA gB gK gE gL gI gJ gN gO gR gS gT gX gW gU gV gZ gY gi gf gg gh gj gk gm gn gr hY hZ xI gz xA xB xC hC hH hJ xD xE xF xG xH xJ xL xM xN xO xP xQ xK xR xS xT xU xV xW xX xY xZ g80 g81 g82 g83 g84 g85 g86 g87 g88 g89 g90 g91 g92 g93 g94 g95 g96 g97 g98 g99 g100 g101 g102 g103 g104 g105 g106 hv3 ho3 hid3
 rw [List.drop_zero] at hv3
 simp (maxSteps:=1000000) (disch:=first|assumption|omega|rfl) only [↓gp, gc, Nat.reduceAdd, hPH]
 show EOk cfgH _ _ _ _ _
 have hM3 := ho2 ho3
 refine kQ ?_
 refine zc2 ?_
 refine zdo rfl rfl ?_
 refine zde rfl (by kernel_rfl) (ztr S3 0 M hM3 hMn (by omega)) fun v5 S4 hv5 => ?_
 have key : ∀ T : List V, T.getD 4 (.tup []) = v5 → T.getD 5 (.tup []) = v3 → ∃ w, jF Try.prog #[.tmp 4, .tmp 5] T S4 = some w ∧ z22 S4 (.ret w) = some (.ret (.tup [.d (.sl ((chgS t u).map zK)), .d (.sl ((tchN t u).map encI))])) := fun T h1 h2 =>
  (z0n h1 h2 hv5.2.one hv3.one (by rw [zla hm]; exact hv5.2.frz) (hv3.keep hv5.1).frz).2.2
 have h5v := hv5.2.one
 have h3v := hv3.one
 refine zmc extH z4q ?_
 simp (maxSteps:=1000000) (disch:=first|assumption|omega|rfl) only [↓gp, gc, Nat.reduceAdd, hPH]
 show EOk cfgH _ _ _ _ _
 refine wS extH z4q ?_
 show Wp cfgH _ _ _ _ (post cfgH [] _)
 simp (maxSteps:=1000000) (disch:=first|assumption|omega|rfl) only [↓gp, gc, Nat.reduceAdd, hPH]
 exact ⟨.inr trivial, trivial, key _ rfl rfl⟩
open Classical in
noncomputable def gY (ds : List D) : Option Out := if h : ∃ p : List Node × List Node, Pair p.1 p.2 ∧ ds = [.sl (p.1.map zB), .sl (p.2.map zB)] then some (.ret (.tup ([D.sl ((chgS h.choose.1 h.choose.2).map zK), D.sl ((tchN h.choose.1 h.choose.2).map encI)].map .d))) else none
theorem zzo {t u : List Node} (h : Pair t u) : gY [.sl (t.map zB), .sl (u.map zB)] = some (.ret (.tup ([D.sl ((chgS t u).map zK), D.sl ((tchN t u).map encI)].map .d))) := by
 have hx : ∃ p : List Node × List Node, Pair p.1 p.2 ∧ [D.sl (t.map zB), D.sl (u.map zB)] = [.sl (p.1.map zB), .sl (p.2.map zB)] := ⟨(t, u), h, rfl⟩
 unfold gY
 rw [dif_pos hx]
 have h1 := hx.choose_spec.2
 generalize hx.choose = p at *
 simp only [List.cons.injEq, and_true] at h1
 rw [zcn h1.1, zcn h1.2]
theorem q0x : ∀ ds o, gY ds = some o → ∃ o', o = OutD.out o' ∧ ∀ (A : Nat → Prop) (w : World) (us : Array Value), (∀ b, A b → b < w.heap.size) → RepS A w ds us.toList → Calls cfg.P 35 us w (z2z A w o') := by
 intro ds o ho
 unfold gY at ho
 split at ho
 ·rename_i hx
  obtain ⟨hs, hd⟩ := hx.choose_spec
  generalize hx.choose = p at *
  cases ho
  subst hd
  exact ⟨.tup [.sl ((chgS p.1 p.2).map zK), .sl ((tchN p.1 p.2).map encI)], rfl, zjj extH z4q zsc (zhg p.1 p.2 hs)⟩
 ·cases ho
end Go.Proofs.Ytghllhghboaagaa
end
section
namespace Go.Proofs.Ytghllhghboaagaa
open Go.Vm
theorem zl7 {α : Type} {r : α → α → Prop} (irr : ∀ a, ¬ r a a) (tr : ∀ {a b c}, r a b → r b c → r a c) : ∀ {l m : List α}, l.Pairwise r → m.Pairwise r → (∀ x, x ∈ l ↔ x ∈ m) → l = m
 | [], [], _, _, _ => rfl
 | [], b :: m, _, _, h => by have := (h b).2 (by simp); cases this
 | a :: l, [], _, _, h => by have := (h a).1 (by simp); cases this
 | a :: l, b :: m, h1, h2, h => by
  obtain ⟨g1, g2⟩ := List.pairwise_cons.1 h1
  obtain ⟨g3, g4⟩ := List.pairwise_cons.1 h2
  have e : a = b := Classical.byContradiction fun hne => by
   have ha : a ∈ m := by
    rcases List.mem_cons.1 ((h a).1 (by simp)) with hh | hh
    ·exact absurd hh hne
    ·exact hh
   have hb : b ∈ l := by
    rcases List.mem_cons.1 ((h b).2 (by simp)) with hh | hh
    ·exact absurd hh.symm hne
    ·exact hh
   exact irr a (tr (g1 b hb) (g3 a ha))
  subst e
  congr 1
  refine zl7 irr tr g2 g4 fun x => ⟨fun hx => ?_, fun hx => ?_⟩
  ·rcases List.mem_cons.1 ((h x).1 (by simp [hx])) with hh | hh
   ·subst hh; exact absurd (g1 x hx) (irr x)
   ·exact hh
  ·rcases List.mem_cons.1 ((h x).2 (by simp [hx])) with hh | hh
   ·subst hh; exact absurd (g3 x hx) (irr x)
   ·exact hh
theorem z72 {α : Type} [DecidableEq α] : ∀ {l m : List α}, l.Nodup → (∀ x ∈ l, x ∈ m) → l.length ≤ m.length
 | [], _, _, _ => Nat.zero_le _
 | a :: r, m, hn, h => by
  rw [List.nodup_cons] at hn
  have ha := h a (by simp)
  have h1 := z72 (m := m.erase a) hn.2 fun x hx => (List.mem_erase_of_ne (fun hh => hn.1 (by rw [← hh]; exact hx))).2 (h x (by simp [hx]))
  rw [List.length_erase_of_mem ha] at h1
  have := List.length_pos_of_mem ha
  rw [List.length_cons]
  omega
theorem zjf {l : List Slot} (h : SrtS l) : l.Nodup := List.Pairwise.imp (fun {a b} hab hh => by rw [hh, zcz] at hab; cases hab) h
theorem zbj {B : Nat} : ∀ {t : List Node}, (∀ n ∈ t, n.names.length ≤ B) → (zS t).length ≤ t.length * B
 | [], _ => Nat.zero_le _
 | n :: r, h => by
  have e : zS (n :: r) = z6o n n.names ++ zS r := rfl
  have h1 := zbj (t := r) (B := B) fun m hm => h m (by simp [hm])
  have h2 := h n (by simp)
  have h3 : (z6o n n.names).length = n.names.length := by unfold z6o; simp
  rw [e, List.length_append, List.length_cons, Nat.add_mul, Nat.one_mul]
  omega
theorem zkl {t u : List Node} : (vQ [t, u]).length ≤ (zS t).length + (zS u).length := by
 have h1 := z72 (zjf (zc0 [t, u])) (m := (zS t ++ zS u).map (·.1)) fun x hx => by
  have hx : x ∈ z8c (([t, u].flatMap zS).map (·.1)) := hx
  rw [z1o] at hx
  simpa using hx
 simpa using h1
theorem Good2.slen {k : Nat} {t : List Node} (h : Good2 k t) (hk : k ≤ 24) : (zS t).length ≤ 14641 := by
 have h1 := h.a.g.sm.len
 have h2 := zbj (t := t) (B := 121) fun n hn => by have := h.a.g.sm.nms n hn; omega
 have h3 : t.length * 121 ≤ 121 * 121 := Nat.mul_le_mul_right _ (by omega)
 omega
theorem Pair.of {k j : Nat} {t u : List Node} (h : Good2 k t) (h' : Good2 j u) (hk : k ≤ 24) (hj : j ≤ 24) : Pair t u := by
 have l1 := h.slen hk
 have l2 := h'.slen hj
 have s1 := h.a.g.sm.len
 have s2 := h'.a.g.sm.len
 refine ⟨h.told2 hk, h'.told2 hj, ⟨_, by omega, h.a.g.sm⟩, ⟨_, by omega, h'.a.g.sm⟩, ⟨rfl, fun x hx => ?_, by simp, fun M hM hm => ?_⟩, Nat.lt_of_le_of_lt zkl (by omega), by rw [List.length_append]; omega⟩
 ·rcases List.mem_cons.1 hx with rfl | hx
  ·exact h.told2 hk
  ·rw [List.mem_singleton.1 hx]; exact h'.told2 hj
 ·have h1 := z72 hM (m := (zS t ++ zS u).map (·.1)) fun x hx => by
   obtain ⟨w, hw, hx⟩ := (hm x).1 hx
   rw [List.map_append, List.mem_append]
   rcases List.mem_cons.1 hw with rfl | hw
   ·exact .inl hx
   ·rw [List.mem_singleton.1 hw] at hx; exact .inr hx
  rw [List.length_map, List.length_map, List.length_append] at h1
  omega
theorem zg0 {k : Slot} : ∀ {M : List (Slot × Int)}, k ∉ M.map (·.1) → getS M k = 0
 | [], _ => rfl
 | p :: r, h => by
  rw [List.map_cons, List.mem_cons, not_or] at h
  unfold getS
  rw [if_neg h.1]
  exact zg0 h.2
theorem zil {k : Slot} : ∀ {M : List (Slot × Int)}, getS M k ≠ 0 → (k, getS M k) ∈ M
 | [], h => absurd rfl h
 | p :: r, h => by
  unfold getS at h ⊢
  split at h
  ·rename_i hk
   rw [if_pos hk, hk]
   exact List.mem_cons_self
  ·rename_i hk
   rw [if_neg hk]
   exact List.mem_cons_of_mem _ (zil h)
theorem zn8 {k : Slot} {v : Int} : ∀ {M : List (Slot × Int)}, (M.map (·.1)).Nodup → (k, v) ∈ M → getS M k = v
 | [], _, h => by cases h
 | p :: r, hn, h => by
  rw [List.map_cons, List.nodup_cons] at hn
  unfold getS
  rcases List.mem_cons.1 h with h | h
  ·rw [← h, if_pos rfl]
  ·rw [if_neg (fun hh => hn.1 (by rw [← hh]; exact List.mem_map_of_mem (f := fun p : Slot × Int => p.1) h))]
   exact zn8 hn.2 h
theorem z9m {t u : List Node} {s : Slot} (h : s ∉ chgS t u) : getS (zS t) s = getS (zS u) s := by
 refine Classical.byContradiction fun hne => h ?_
 unfold chgS
 rw [List.mem_filter]
 refine ⟨?_, decide_eq_true hne⟩
 show s ∈ z8c (([t, u].flatMap zS).map (·.1))
 rw [z1o]
 by_cases h1 : s ∈ (zS t).map (·.1)
 ·have := h1; simp only [List.flatMap_cons, List.flatMap_nil, List.append_nil, List.map_append, List.mem_append]; exact .inl this
 by_cases h2 : s ∈ (zS u).map (·.1)
 ·simp only [List.flatMap_cons, List.flatMap_nil, List.append_nil, List.map_append, List.mem_append]; exact .inr h2
 exact absurd ((zg0 h1).trans (zg0 h2).symm) hne
theorem zn9 {c : Int} : putL c [c] = [c] := by
 simp [putL, z41]
theorem zq7 {c : Int} : putL c [] = [c] := by
 simp [putL, z41]
theorem zfb {s : Slot} {c : Int} : ∀ {h : List (List Node)} {ns : List Int}, (∀ t ∈ h, getS (zS t) s = c) → (ns = [] ∨ ns = [c]) → (zb4 s h ns).length ≤ 1
 | [], ns, _, hn => by rcases hn with rfl | rfl <;> simp [zb4]
 | t :: r, ns, hh, hn => by
  have e : zb4 s (t :: r) ns = zb4 s r (putL (getS (zS t) s) ns) := rfl
  rw [e, hh t (by simp)]
  refine zfb (fun x hx => hh x (by simp [hx])) (.inr ?_)
  rcases hn with rfl | rfl
  ·exact zq7
  ·exact zn9
theorem zu8 {n : Int} {l : List Int} : putL n l ≠ [] := by
 unfold putL
 split
 ·rename_i h
  intro hh
  rw [hh] at h
  simp at h
 ·simp
theorem zdy {t u : List Node} : ∀ {l : List Node} {ns : List Int}, z99 t u l ns = [] → ns = [] ∧ ∀ n ∈ l, z3p t u n = false
 | [], ns, h => ⟨h, fun n hn => by cases hn⟩
 | a :: r, ns, h => by
  have e : z99 t u (a :: r) ns = z99 t u r (if z3p t u a then putL a.ino ns else ns) := rfl
  rw [e] at h
  obtain ⟨h1, h2⟩ := zdy h
  cases hd : z3p t u a with
  | true => rw [hd, if_pos rfl] at h1; exact absurd h1 zu8
  | false =>
   rw [hd] at h1
   refine ⟨h1, fun n hn => ?_⟩
   rcases List.mem_cons.1 hn with rfl | hn
   ·exact hd
   ·exact h2 n hn
theorem zi7 {t : List Node} {p : Slot × Int} : p ∈ zS t ↔ ∃ n ∈ t, ∃ e ∈ n.names, p = (⟨n.ino, e.name⟩, e.ino) := by
 unfold zS z6o
 rw [List.mem_flatMap]
 constructor
 ·rintro ⟨n, hn, hp⟩
  obtain ⟨e, he, rfl⟩ := List.mem_map.1 hp
  exact ⟨n, hn, e, he, rfl⟩
 ·rintro ⟨n, hn, e, he, rfl⟩
  exact ⟨n, hn, List.mem_map_of_mem (f := fun e : Ent => ((⟨n.ino, e.name⟩ : Slot), e.ino)) he⟩
theorem Good2.ord {k : Nat} {t : List Node} {n : Node} (h : Good2 k t) (hn : n ∈ t) : Ord n.names := by
 have := h.a.g.lj.nod n.ino
 rwa [h.self hn] at this
theorem ze8 {k j : Nat} {t u : List Node} (h : Good2 k t) (h' : Good2 j u) (hk : k ≤ 24) (hs : ∀ s, getS (zS t) s = getS (zS u) s) {n m : Node} (hn : n ∈ t) (hm : m ∈ u) (hi : n.ino = m.ino) {e : Ent} (he : e ∈ n.names) : e ∈ m.names := by
 have hT := h.told2 hk
 have h1 : (((⟨n.ino, e.name⟩ : Slot), e.ino) : Slot × Int) ∈ zS t := zi7.2 ⟨n, hn, e, he, rfl⟩
 have h2 := zn8 (zfd hT) h1
 have hp := hT.pos n hn e he
 rw [hs] at h2
 have h3 := zil (M := zS u) (k := ⟨n.ino, e.name⟩) (by omega)
 rw [h2] at h3
 obtain ⟨m', hm', e', he', h4⟩ := zi7.1 h3
 simp only [Prod.mk.injEq, Slot.mk.injEq] at h4
 obtain ⟨⟨h5, h6⟩, h7⟩ := h4
 have h8 : m' = m := h'.a.g.lj.srt.uniq _ hm' _ hm (by omega)
 have h9 : e = e' := by cases e; cases e'; simp_all
 rw [h9, ← h8]
 exact he'
theorem zfq {k j : Nat} {t u : List Node} (h : Good2 k t) (h' : Good2 j u) (hk : k ≤ 24) (hj : j ≤ 24) (hs : ∀ s, getS (zS t) s = getS (zS u) s) (hd : ∀ n ∈ t, z3p t u n = false) {n : Node} (hn : n ∈ t) : n ∈ u := by
 have h1 := hd n hn
 unfold z3p at h1
 rw [Bool.or_eq_false_iff] at h1
 obtain ⟨h2, h3⟩ := h1
 have h2 : hasN t n.ino = hasN u n.ino := Classical.byContradiction fun hh => by rw [decide_eq_true hh] at h2; cases h2
 rw [z0p.2 ⟨n, hn, rfl⟩] at h2
 obtain ⟨m, hm, hmi⟩ := z0p.1 h2.symm
 rw [h.self hn, ← hmi, h'.self hm] at h3
 have h4 : z34 n = z34 m := by simpa using h3
 have h5 : n.names = m.names := by
  have tr : ∀ {a b c : Ent}, wD a.name b.name = true → wD b.name c.name = true → wD a.name c.name = true := fun {a b c} => z2b
  refine zl7 (r := fun a b : Ent => wD a.name b.name = true) (fun a hh => by rw [z6i] at hh; cases hh) tr ?_ ?_ fun e => ⟨fun he => ze8 h h' hk hs hn hm hmi.symm he, fun he => ze8 h' h hj (fun s => (hs s).symm) hm hn hmi he⟩
  ·exact List.pairwise_map.1 (h.ord hn)
  ·exact List.pairwise_map.1 (h'.ord hm)
 have h6 : n = m := by
  cases n; cases m
  simp only [z34, Node.mk.injEq] at h4 h5 ⊢
  simp_all
 rw [h6]
 exact hm
theorem zvc {k j : Nat} {t u : List Node} (h : Good2 k t) (h' : Good2 j u) (hk : k ≤ 24) (hj : j ≤ 24) (hc : chgS t u = []) (hn : tchN t u = []) : t = u := by
 have hs : ∀ s, getS (zS t) s = getS (zS u) s := fun s => z9m (by rw [hc]; exact fun hh => by cases hh)
 obtain ⟨_, hd⟩ := zdy hn
 have hd' : ∀ n ∈ u, z3p u t n = false := fun n hn => by
  have h1 := hd n (List.mem_append_right _ hn)
  unfold z3p at h1 ⊢
  rw [Bool.or_eq_false_iff] at h1 ⊢
  refine ⟨?_, ?_⟩
  ·have h2 : hasN t n.ino = hasN u n.ino := Classical.byContradiction fun hh => by rw [decide_eq_true hh] at h1; cases h1.1
   exact decide_eq_false (fun hh => hh h2.symm)
  ·have h2 : z34 (getN t n.ino) = z34 (getN u n.ino) := by simpa using h1.2
   simp [h2]
 refine zl7 (r := fun a b : Node => a.ino < b.ino) (fun a hh => Int.lt_irrefl _ hh) (fun h1 h2 => Int.lt_trans h1 h2) (List.pairwise_map.1 h.a.g.lj.srt) (List.pairwise_map.1 h'.a.g.lj.srt) fun n => ⟨fun hn => zfq h h' hk hj hs (fun n hn => hd n (List.mem_append_left _ hn)) hn, fun hn => zfq h' h hj hk (fun s => (hs s).symm) hd' hn⟩
def zyc : Nat := 17181051904
noncomputable def cfgU : Cfg := { P := Try.prog, mixed := by kernel_rfl, shared := fun _ => false, ext := fun f => match Nat.beq f 19 with | true => some (evx cfgS f) | false => match Nat.beq f 35 with | true => some gY | false => match Nat.beq f 36 with | true => some (evx cfgH f) | false => match Nat.testBit zyc f with | true => some (evx cfg f) | false => Option.none, catch_ := fun _ => Option.none }
theorem hPU : cfgU.P = Try.prog := rfl
theorem zjc {C : Cfg} {f : FuncId} {g : List D → Option Out} {ds : List D} {o : Out} (hx : C.ext f = some g) (h : g ds = some o) : Ev C f ds o := by
 refine ⟨0, ?_⟩
 unfold runD answer
 simp only [hx]
 exact h
theorem zmi {f : FuncId} {ds : List D} {o : Out} (hx : cfgU.ext f = some (evx cfg f)) (h : Ev cfg f ds o) : Ev cfgU f ds o := zjc hx (zdv h)
theorem extU : z1d cfgU := by
 intro f g h
 have h : (match Nat.beq f 19 with | true => some (evx cfgS f) | false => match Nat.beq f 35 with | true => some gY | false => match Nat.beq f 36 with | true => some (evx cfgH f) | false => match Nat.testBit zyc f with | true => some (evx cfg f) | false => Option.none) = some g := h
 split at h
 ·cases h
  intro ds o ho
  obtain ⟨n, hn⟩ := ze1 ho
  exact z2t extS zyi n f ds o hn
 split at h
 ·rename_i hf
  cases h
  cases Nat.eq_of_beq_eq_true hf
  exact q0x
 split at h
 ·cases h
  intro ds o ho
  obtain ⟨n, hn⟩ := ze1 ho
  exact z2t extH z4q n f ds o hn
 split at h
 ·cases h
  intro ds o ho
  obtain ⟨n, hn⟩ := ze1 ho
  exact z2t extC wG n f ds o hn
 ·cases h
theorem catchU : vY cfgU := fun f post h => by cases h
theorem zke : Ev cfg 11 [] (.ret (.d (.bool true))) := ⟨60, by kernel_rfl⟩
section
variable {ops : Array Oper} {dst : Option Tmp} {k : List Oper} {T : List V} {S : zA} {F : Dfs} {Q : Post}
theorem zva {n : Nat} {t : List Node} {o : Opn} (h : At n t) (hn : n ≤ 23) (hl : o.a.length < 900000) (hlb : o.b.length < 900000) :
  WpR cfgU ops dst k T S F Q (some (.enter 19 [.d (.sl (t.map zB)), .d (encOpn o)])) = WpL cfgU ops k (putT T dst (.tup [.d (.sl ((jL t o).1.map zB)), .d (z7u (jL t o).2)])) S F Q :=
 jI (ds := [.sl (t.map zB), encOpn o]) rfl (zjc (C := cfgU) rfl (zdv (q2u t _ (by omega) h.g o hl hlb h.num (h.step hn).num)))
theorem zgr {l : List Opn} {m : Int} (hm : m ≤ 1000) : WpR cfgU ops dst k T S F Q (some (.enter 10 [.d (.sl (l.map encOpn)), .d (.int .i64 m)])) = WpL cfgU ops k (putT T dst (.d (.bool (zg1 l m)))) S F Q :=
 jI (ds := [.sl (l.map encOpn), .int .i64 m]) rfl (zmi rfl (zv1 l m hm))
theorem z8k : WpR cfgU ops dst k T S F Q (some (.enter 11 [])) = WpL cfgU ops k (putT T dst (.d (.bool true))) S F Q :=
 jI (ds := []) rfl (zmi rfl zke)
theorem zu5 {o : Opn} (hl : o.data.length < 900000) : WpR cfgU ops dst k T S F Q (some (.enter 20 [.d (encOpn o)])) = WpL cfgU ops k (putT T dst (.d (encOpn o))) S F Q :=
 jI (ds := [encOpn o]) rfl (zmi rfl (ztu o hl))
theorem zut : WpR cfgU ops dst k T S F Q (some (.enter 17 [])) = WpL cfgU ops k (putT T dst (.d (.sl (newN.map zB)))) S F Q :=
 jI (ds := []) rfl (zmi rfl zti)
theorem zp4 {t u : List Node} (h : Pair t u) : WpR cfgU ops dst k T S F Q (some (.enter 35 [.d (.sl (t.map zB)), .d (.sl (u.map zB))])) = WpL cfgU ops k (putT T dst (.tup [.d (.sl ((chgS t u).map zK)), .d (.sl ((tchN t u).map encI))])) S F Q :=
 jI (ds := [.sl (t.map zB), .sl (u.map zB)]) rfl (zjc (C := cfgU) rfl (zzo h))
theorem zsj {t u : List Node} (h : Pair t u) : WpR cfgU ops dst k T S F Q (some (.enter 34 [.d (.sl (t.map zB)), .d (.sl (u.map zB))])) = WpL cfgU ops k (putT T dst (.d (.bool (decide (t = u))))) S F Q :=
 jI (ds := [.sl (t.map zB), .sl (u.map zB)]) rfl (zmi rfl (zmz t u h.tt.len h.tu.len h.tt.nms h.tu.nms))
def HS (S : zA) (v : V) (h : List (List Node)) : Prop := v = .ts (h.map encT) ∨ SlE encT S v 25 h
theorem HS.frz {v : V} {h : List (List Node)} (hh : HS S v h) : Go.Vm.frz S zR v = some (.sl (h.map encT)) := by
 rcases hh with rfl | hh
 ·rfl
 ·exact hh.frz
theorem HS.one {v : V} {h : List (List Node)} (hh : HS S v h) : v.one = true := by
 rcases hh with rfl | hh
 ·rfl
 ·exact hh.one
theorem HS.keep {S' : zA} {v : V} {h : List (List Node)} (hh : HS S v h) (hk : Keep S S') : HS S' v h := by
 rcases hh with rfl | hh
 ·exact .inl rfl
 ·exact .inr (hh.keep hk)
theorem zpy {v : V} {h : List (List Node)} {s : Slot} (hv : HS S v h) (hh : ∀ t ∈ h, Told2 t) (hl : h.length < 800000) : WpR cfgU ops dst k T S F Q (some (.enter 36 [v, .d (.int .i64 0), .d (zK s)])) = WpL cfgU ops k (putT T dst (.d (.bool (decide (((zb4 s h []).length : Int) ≤ 1))))) S F Q :=
 z6p (ds := [.sl (h.map encT), .int .i64 0, zK s]) rfl (by simp only [allO, hv.frz, zq0]) rfl (zjc (C := cfgU) rfl (zdv (still_ok h hh hl s)))
end
theorem zrl {t : List Node} : qD Try.prog 25 (.d (encT t)) = true := by kernel_rfl
theorem zqm {S : zA} {v : V} {h : List (List Node)} {t : List Node} (hv : HS S v h) (hl : h.length < 900000) : ∃ v' S' c, zW Try.prog S 80 80 v (.ts [encT t]) = some (v', S', c) ∧ SlE encT S' v' 25 (h ++ [t]) ∧ (∀ (j : Nat) (o : Ob), S[j]? = some o → idOf v ≠ some j → S'[j]? = some o) ∧ idOf v' = some S.length := by
 have hr : room Try.prog 25 (h.length + 1) = true := z38 (P := Try.prog) (e := 25) rfl (by decide) (by omega)
 have hz : zOk Try.prog 25 = true := by kernel_rfl
 have hsz : (sz Try.prog 25).isSome = true := by kernel_rfl
 rcases hv with rfl | hv
 ·have src1 : srcV Try.prog S 25 80 (.ts [encT t]) = some [.d (encT t)] := by
   simp only [srcV, Try.underlying80, kU, List.map_cons, List.map_nil, List.all_cons, List.all_nil, zrl, hsz, Bool.and_self, if_true]
  have hall : (h.map encT).all (vN Try.prog 25) = true := by
   rw [List.all_eq_true]
   intro x hx
   obtain ⟨a, _, rfl⟩ := List.mem_map.1 hx
   exact zmy a
  have hr' : room Try.prog 25 (h.length + (0 + 1)) = true := by simpa using hr
  refine ⟨.rs S.length 0 (h.length + (0 + 1)), S ++ [.row ((h.map encT).map .d ++ [.d (encT t)]) 25], 2, ?_, .inr ⟨S.length, [], by simp, by simp⟩, fun j o hj _ => Keep.app _ _ hj, rfl⟩
  simp only [zW, Try.underlying80, src1, hz, if_true, hall, List.length_map, List.length_nil, hr', Bool.and_self]
 ·obtain ⟨v', S', c, h1, _, h2, h3, h4, _⟩ := zg8 (t := 80) Try.underlying80 hz hsz (zrl (t := t)) hr hv
  exact ⟨v', S', c, h1, h2, h3, h4⟩
theorem bs80 {S : zA} {t : List Node} : bs1 Try.prog S 80 (.d (.sl (t.map zB))) = some (.val (.ts [encT t]) S 0) := by kernel_rfl
theorem bvSl {a b : Slot} : binV Try.prog .eql 84 (.d (zK a)) (.d (zK b)) = some (.d (.bool (a == b))) := by
 have h0 : binV Try.prog .eql 84 (.d (zK a)) (.d (zK b)) = (eqV Try.prog 84 (.d (zK a)) (.d (zK b))).map fun b => .d (.bool b) := rfl
 rw [h0, eqSl]
 rfl
theorem zpn (p : List Slot) (hp : p.length < 1000000) (s : Slot) (R : Post) (x0 x1 x4 x5 x6 x8 x9 x12 : V) (S : zA) (h0 : S[0]? = some (.row [.d (zK s)] 79)) : ∀ (k j : Nat) (b : Bool) (g2 gP gD gG gH gC gA gB gK gE gL gI gJ gN gO gR gS gT gX gW gU gV gZ gY gi gf gg gh gj gk gm gn gr hY hZ xI gz xA xB xC hC hH hJ xD xE xF xG xH xJ xL xM xN xO xP g66 g67 g68 xQ xK xR xS xT xU xV xW xX xY xZ g80 g81 g82 g83 g84 g85 g86 g87 g88 : V), p.length - j = k → j ≤ p.length →
   (∀ j' g2 gP gD gG gH gC gA gB gK gE gL gI gJ gN gO gR gS gT gX gW gU gV gZ gY gi gf gg gh gj gk gm gn gr hY hZ xI gz xA xB xC hC hH hJ xD xE xF xG xH xJ xL xM xN xO xP g66 g67 g68 xQ xK xR xS xT xU xV xW xX xY xZ g80 g81 g82 g83 g84 g85 g86 g87 g88, R (.exit 2) (x0 :: x1 :: g2 :: (.ref 0 0 0) :: x4 :: x5 :: x6 :: (.d (.bool (b || (p.drop j).any fun a => a == s))) :: x8 :: x9 :: gP :: (.d (.sl (p.map zK))) :: x12 :: j' :: gD :: gG :: gH :: gC :: gA :: gB :: gK :: gE :: gL :: gI :: gJ :: gN :: gO :: gR :: gS :: gT :: gX :: gW :: gU :: gV :: gZ :: gY :: gi :: gf :: gg :: gh :: gj :: gk :: gm :: gn :: gr :: hY :: hZ :: xI :: gz :: xA :: xB :: xC :: hC :: hH :: hJ :: xD :: xE :: xF :: xG :: xH :: xJ :: xL :: xM :: xN :: xO :: xP :: g66 :: g67 :: g68 :: xQ :: xK :: xR :: xS :: xT :: xU :: xV :: xW :: xX :: xY :: xZ :: g80 :: g81 :: g82 :: g83 :: g84 :: g85 :: g86 :: g87 :: g88 :: []) S []) →
   Wp cfgU (.loop (lpOf (Try.f9.body.getD .skip) 2)) (x0 :: x1 :: g2 :: (.ref 0 0 0) :: x4 :: x5 :: x6 :: (.d (.bool b)) :: x8 :: x9 :: gP :: (.d (.sl (p.map zK))) :: x12 :: (.d (.int .i64 j)) :: gD :: gG :: gH :: gC :: gA :: gB :: gK :: gE :: gL :: gI :: gJ :: gN :: gO :: gR :: gS :: gT :: gX :: gW :: gU :: gV :: gZ :: gY :: gi :: gf :: gg :: gh :: gj :: gk :: gm :: gn :: gr :: hY :: hZ :: xI :: gz :: xA :: xB :: xC :: hC :: hH :: hJ :: xD :: xE :: xF :: xG :: xH :: xJ :: xL :: xM :: xN :: xO :: xP :: g66 :: g67 :: g68 :: xQ :: xK :: xR :: xS :: xT :: xU :: xV :: xW :: xX :: xY :: xZ :: g80 :: g81 :: g82 :: g83 :: g84 :: g85 :: g86 :: g87 :: g88 :: []) S [] R := by
  have q := zC h0
  intro k
  induction k with
  | zero =>
    intro j b g2 gP gD gG gH gC gA gB gK gE gL gI gJ gN gO gR gS gT gX gW gU gV gZ gY gi gf gg gh gj gk gm gn gr hY hZ xI gz xA xB xC hC hH hJ xD xE xF xG xH xJ xL xM xN xO xP g66 g67 g68 xQ xK xR xS xT xU xV xW xX xY xZ g80 g81 g82 g83 g84 g85 g86 g87 g88 hk hj hR
    have hje : j = p.length := by omega
    rw [hje, List.drop_length, List.any_nil, Bool.or_false] at hR
    rw [qQ]
    refine qC ?_
    conv => arg 2; whnf
    simp (maxSteps:=1000000) (disch:=first|assumption|omega|rfl) only [↓gp, gc, Nat.reduceAdd, hPU, tyS]
    exact hR _ _ _ _ _ _ _ _ _ _ _ _ _ _ _ _ _ _ _ _ _ _ _ _ _ _ _ _ _ _ _ _ _ _ _ _ _ _ _ _ _ _ _ _ _ _ _ _ _ _ _ _ _ _ _ _ _ _ _ _ _ _ _ _ _ _ _ _ _ _ _ _ _ _ _ _ _ _
  | succ k ih =>
    intro j b g2 gP gD gG gH gC gA gB gK gE gL gI gJ gN gO gR gS gT gX gW gU gV gZ gY gi gf gg gh gj gk gm gn gr hY hZ xI gz xA xB xC hC hH hJ xD xE xF xG xH xJ xL xM xN xO xP g66 g67 g68 xQ xK xR xS xT xU xV xW xX xY xZ g80 g81 g82 g83 g84 g85 g86 g87 g88 hk hj hR
    have hlt : j < p.length := by omega
    have hd : p.drop j = p[j] :: p.drop (j + 1) := List.drop_eq_getElem_cons hlt
    rw [hd, List.any_cons] at hR
    have hix := fun S => ix81 (S := S) hlt
    rw [qQ]
    refine qC ?_
    conv => arg 2; whnf
    generalize hee : p[j] = a at *
    rw [← Bool.or_assoc] at hR
    cases b with
    | true =>
      simp (maxSteps:=1000000) (disch:=first|assumption|omega|rfl) only [↓gp, gc, Nat.reduceAdd, hPU, tyS]
      refine jA (is := [0, 1, 2, 3, 4, 5, 6, 7, 8, 9]) (h := 0) (by kernel_rfl) (by kernel_rfl) ?_
      simp (maxSteps:=1000000) (disch:=first|assumption|omega|rfl) only [List.replicate_zero, eq_self, gd, ga, Nat.reduceAdd, ↓gq, hPU, tyS, List.append_nil]
      refine ⟨by kernel_rfl, ?_⟩
      simp (maxSteps:=1000000) (disch:=first|assumption|omega|rfl) only [↓gp, gc, Nat.reduceAdd, hPU, tyS]
      exact ih (j + 1) true _ _ _ _ _ _ _ _ _ _ _ _ _ _ _ _ _ _ _ _ _ _ _ _ _ _ _ _ _ _ _ _ _ _ _ _ _ _ _ _ _ _ _ _ _ _ _ _ _ _ _ _ _ _ _ _ _ _ _ _ _ _ _ _ _ _ _ _ _ _ _ _ _ _ _ _ _ (by omega) (by omega) hR
    | false =>
      rw [Bool.false_or] at hR
      simp (maxSteps:=1000000) (disch:=first|assumption|omega|rfl) only [↓gp, gc, Nat.reduceAdd, hPU, tyS]
      refine jA (is := [0, 1, 2, 3, 4, 5, 6, 7, 8, 9]) (h := 0) (by kernel_rfl) (by kernel_rfl) ?_
      simp (maxSteps:=1000000) (disch:=first|assumption|omega|rfl) only [List.replicate_zero, eq_self, gd, ga, Nat.reduceAdd, ↓gq, hPU, tyS, List.append_nil, hix, q, bvSl]
      refine ⟨by kernel_rfl, ?_⟩
      simp (maxSteps:=1000000) (disch:=first|assumption|omega|rfl) only [↓gp, gc, Nat.reduceAdd, hPU, tyS]
      exact ih (j + 1) (a == s) _ _ _ _ _ _ _ _ _ _ _ _ _ _ _ _ _ _ _ _ _ _ _ _ _ _ _ _ _ _ _ _ _ _ _ _ _ _ _ _ _ _ _ _ _ _ _ _ _ _ _ _ _ _ _ _ _ _ _ _ _ _ _ _ _ _ _ _ _ _ _ _ _ _ _ _ _ (by omega) (by omega) hR
end Go.Proofs.Ytghllhghboaagaa
end
