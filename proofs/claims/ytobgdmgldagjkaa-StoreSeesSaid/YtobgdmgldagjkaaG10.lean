/- roll.Write: a block as it is written back, and what is left. -/
import Derived.Test.YtobgdmgldagjkaaG09
set_option linter.unusedVariables false
set_option linter.unusedSimpArgs false
set_option maxRecDepth 100000
set_option maxHeartbeats 4000000
set_option linter.defProp false
section
namespace Go.Proofs.Ytobgdmgldagjkaa
open Go.Vm
theorem z9q : ∀ b : List UInt8, kQ (b.map fun x => .d (byD x)) (b.map fun x => .d (byD x)) = true
 | [] => rfl
 | x :: r => by
  have h : kF (.d (byD x)) (.d (byD x)) = true := by
   show jI (byD x) (byD x) = true
   exact kX
  simp only [List.map_cons, kQ, h, z9q r, Bool.and_self]
theorem zg4 {v : V} {b : List UInt8} (h : IsB v b) : z0t v v = true := by
 rcases h with rfl | rfl
 ·exact z2a (n := 4) b
 ·exact z9q b
theorem ztg {P : Program} {S : Store} {T : List V} {a u1 u2 : Tmp} {t : TypeId} {x v w1 w2 : V} (h : T.getD a (.tup []) = x) (hl : kC P S t x = some v) (h1 : T.getD u1 (.tup []) = w1) (h2 : T.getD u2 (.tup []) = w2) (o0 : v.one = true) (o1 : w1.one = true) (o2 : w2.one = true) : qC P #[.cell a t, .tmp u1, .tmp u2] T S = some (.tup [v, w1, w2]) := by
 simp only [qC, allO, jS, h, hl, h1, h2, List.all_cons, List.all_nil, o0, o1, o2, Bool.and_self, if_true]
theorem zj4 (S : Store) (no : Int) (u : V) (b : List UInt8) (hu : IsB u b) (hb : b.length = 256) (L : V) (es : List V) (l : List Chg) (hL : OwnS S L 122 es) (hl : ChgsV S es l) (hes : es.length ≤ 150000) (n last : Nat) (hlast : last ≤ 100000) (hok : ∀ ch ∈ l, z5n n last ch) (hids : l.Pairwise (fun a b => a.id < b.id)) :
  EvS cfg 113 [u, L, .d (.int .i64 no)] S (fun o S' => Keep S S' ∧ ∃ v L' w fs ids, o = .ret (.tup [v, L', w]) ∧ IsB v (rolL b l no ids) ∧ OwnS S' L' 122 fs ∧ ChgsV S' fs (l.filter fun ch => decide (ch.id ∉ ids)) ∧ OwnS S' w 3 (zX ids) ∧ ids.length ≤ l.length ∧ RdOk l no l.length ids) := by
 refine qN rfl zsk ?_
 show Wp cfg (Try.f113.body.getD .skip) (u :: L :: (.d (.int .i64 no)) :: uZ (uZ [])) S [] _
 unfold uZ
 conv => arg 2; whnf
 rw [zR]
 generalize ha : S.length = a
 have hft := bt42.fits hu hb
 have hu1 := hu.one
 have hL1 := qF hL
 have hll := hl.1
 have hldu := bt42.load hu hb
 have hk0 : Keep S (S ++ [.row [u] 42, .row [blkV (zC 256)] 42]) := Keep.refl.app
 obtain ⟨o, S1, ⟨hK1, v, w, ids, rfl, hv, hw, hidl, hrd⟩, hE⟩ := qR (zlm (S ++ [.row [u] 42, .row [blkV (zC 256)] 42]) no u b hu hb L es l (hk0.own hL) (hl.keep hk0) hes n last hlast hok hids)
 have hE := fun {ops dst k T F Q} => zQ (ops := ops) (dst := dst) (l := k) (T := T) (F := F) (Q := Q) rfl hE
 have hK01 := hk0.trans hK1
 have hlv := z1d (no := no) (ids := ids) hb (fun ch hch => (hok ch hch).1)
 have hv1 := hv.one
 have hw1 := qF hw
 have l0 := z256
 have hst := bt42.store hv hlv (w := blkV (zC 256)) isB_v z256
 have hld := bt42.load hv hlv
 have hk2 : Keep S1 (S1 ++ [.row [v] 42]) := Keep.refl.app
 have hK02 := hK01.trans hk2
 obtain ⟨o, S3, ⟨hK3, L', fs, rfl, hL', hc'⟩, hE3⟩ := qR (zi4 (S1 ++ [.row [v] 42]) L es l (hK02.own hL) (hl.keep hK02) hes n last hlast hok w ids (hk2.own hw) (by omega))
 have hE3 := fun {ops base K ws cs i dst T} => kV (ops := ops) (base := base) (K := K) (ws := ws) (cs := cs) (i := i) (dst := dst) (T := T) rfl hE3
 have hL'1 := qF hL'
 generalize ha1 : S1.length = a1
 simp (maxSteps:=1000000) (disch:=first|assumption|omega|rfl) only [↓gp, gc, Nat.reduceAdd, hft, z42, zf42, List.append_assoc, List.length_append, List.length_cons, List.length_nil, ha, rA0 ha, hldu, hu1, hL1, hE, zvk, hv1, hw1, ha1, rA0 ha1, pA0 ha1, hst, z256]
 have hr3 : S3[a1]? = some (.row [v] 42) := hK3 _ _ (by rw [List.getElem?_append_right (by omega), ha1, Nat.sub_self]; rfl)
 have hrb : S3[a + 1]? = some (.row [blkV (zC 256)] 42) := hK3 _ _ (hk2 _ _ (hK1 _ _ (by rw [List.getElem?_append_right (by omega), ha, Nat.add_sub_cancel_left]; rfl)))
 have hr8 := zK (e := 42) hrb
 have hp8 := fun y => qH (y := y) (e := 42) hrb
 have hsm := zg4 hv
 refine kL (is := [0, 1, 2, 4, 3, 5, 6, 7]) (h := 0) (by kernel_rfl) (by kernel_rfl) ?_
 simp (maxSteps:=1000000) (disch:=first|assumption|omega|rfl) only [List.replicate_zero, eq_self, gw, ga, Nat.reduceAdd, ↓gq, vso, List.append_nil, rA0 ha1, hld, hL1, hw1, hE3, zyc, hL'1, hr8, hp8, hst, hv1]
 refine ⟨qV rfl (by kernel_rfl) rfl (z3f ((zM (zK (e := 42) hr3)).trans hld)) hsm qM, zV (by kernel_rfl) qM, by kernel_rfl, ?_⟩
 simp (maxSteps:=1000000) (disch:=first|assumption|omega|rfl) only [↓gp, gc, Nat.reduceAdd]
 have hl1 : kC Try.prog (S3.set (a + 1) (.row [v] 42)) 42 (.ref (a + 1) 0 0) = some v := (zM (zK (e := 42) (List.getElem?_set_self (zN hrb)))).trans hld
 exact ⟨rfl, _, ztg rfl hl1 rfl rfl hv1 hL'1 hw1, (hK02.trans hK3).set (by omega), v, L', w, fs, ids, rfl, hv, z4j hL' hrb (by decide), hc'.mono (fun _ _ hh => z4j hh hrb (by decide)) (fun _ _ hh => z4j hh hrb (by decide)), z4j ((hk2.trans hK3).own hw) hrb (by decide), hidl, hrd⟩
def CS.flush (C : CS) (k : Nat) (ids : List Int) : CS := ⟨C.img.set k (rolL (C.img.getD k []) C.list (k : Int) ids), C.list.filter (fun ch => decide (ch.id ∉ ids)), C.last⟩
def zeo (C C' : CS) (no : Int) : Prop := C' = C ∨ ∃ (k : Nat) (ids : List Int), no = k ∧ k < C.img.length ∧ RdOk C.list (k : Int) C.list.length ids ∧ C' = C.flush k ids
theorem CS.Ok.flush {C : CS} (h : C.Ok) {k : Nat} (hk : k < C.img.length) {ids : List Int} : (C.flush k ids).Ok := by
 have hb : (C.img.getD k []).length = 256 := by
  rw [List.getD_eq_getElem?_getD, List.getElem?_eq_getElem hk]
  exact h.len _ (List.getElem_mem hk)
 refine ⟨?_, ?_, ?_, ?_, h.last⟩
 ·show (C.img.set _ _).length ≤ 512
  rw [List.length_set]; exact h.n
 ·intro b hm
  rcases List.mem_or_eq_of_mem_set hm with hm | rfl
  ·exact h.len b hm
  ·exact z1d hb fun ch hch => (h.chs ch hch).1
 ·intro ch hch
  have := h.chs ch (List.mem_filter.1 hch).1
  show z5n (C.img.set _ _).length _ _
  rw [List.length_set]; exact this
 ·exact h.ids.sublist List.filter_sublist
theorem z9p {f g : Int → Option V} (h : ∀ x, (f x).isSome = (g x).isSome) : ∀ n, cntI f n = cntI g n
 | 0 => rfl
 | n + 1 => by unfold cntI; rw [z9p h n, h]
theorem zn5 {S : Store} {v : V} {e : TypeId} {xs : List V} {i : Nat} {o : Ob} (h : OwnS S v e xs) (hi : S[i]? = some .hole) : OwnS (S.set i o) v e xs := by
 rcases h with h | ⟨id, rfl, h2⟩
 ·exact .inl h
 ·refine .inr ⟨id, rfl, ?_⟩
  rw [List.getElem?_set_ne (by rintro rfl; cases getE hi h2)]
  exact h2
theorem lc2' {d m : Nat} {L : V} {last : Int} {id n : Nat} : qI Try.prog 119 2 (.rs id 0 n) (cacV d m L last) = some (cacV d m (.rs id 0 n) last) := by kernel_rfl
theorem lc2n {d m : Nat} {L : V} {last : Int} : qI Try.prog 119 2 (.ts []) (cacV d m L last) = some (cacV d m (.ts []) last) := by kernel_rfl
theorem sc2g {S : Store} {d m : Nat} {L v : V} {xs : List V} {e : TypeId} {last : Int} (h : OwnS S v e xs) : qI Try.prog 119 2 v (cacV d m L last) = some (cacV d m v last) := by
 rcases z1r h with rfl | ⟨i, k, rfl⟩
 ·exact lc2n
 ·exact lc2'
theorem zpb {P : Program} {S : Store} {T : List V} {dst : Option Tmp} {ty : TypeId} {pos : String} {after : Array Edge} {g : Option (Nat × Bool)} {t : TypeId} {m k : Operand} : opV P S T ⟨dst, .mapEntry t m k, ty, pos, after, g⟩ = (wZ P S t (zB T m) (zB T k)).map fun r => .val r.1 r.2 3 := rfl
theorem zml {P : Program} {S : Store} {T : List V} {dst : Option Tmp} {ty : TypeId} {pos : String} {after : Array Edge} {g : Option (Nat × Bool)} {t : TypeId} {m k x : Operand} : opV P S T ⟨dst, .entryStore t m k x, ty, pos, after, g⟩ = (kM S (zB T m) (zB T k) (zB T x)).map fun S' => .skip S' 3 := rfl
theorem zn3 {ty : TypeId} {pos : String} {after : Array Edge} {dst : Option Tmp} {g : Option (Nat × Bool)} {t : TypeId} {r k : Operand} : jK ⟨dst, .mapEntry t r k, ty, pos, after, g⟩ = false := rfl
theorem znx {ty : TypeId} {pos : String} {after : Array Edge} {dst : Option Tmp} {g : Option (Nat × Bool)} {t : TypeId} {r k x : Operand} : jK ⟨dst, .entryStore t r k x, ty, pos, after, g⟩ = false := rfl
theorem zop (S : Store) (c r m : Nat) (C : CS) (h0 : CacheAt S c r m C) (no : Int) : EvS cfg 83 [.ref c 0 0, .d (.int .i64 no)] S (fun o S' => FrC m r S S' ∧ o = .ret (.d (.int .i64 0)) ∧ ∃ C', CacheAt S' c r m C' ∧ zeo C C' no) := by
 obtain ⟨d, L, es, vs, f, z, w, q, h, hq⟩ := h0
 refine qN rfl zxo ?_
 show Wp cfg (Try.f83.body.getD .skip) ((.ref c 0 0) :: (.d (.int .i64 no)) :: uZ (uZ (uZ (uZ (uZ ((.tup []) :: (.tup []) :: (.tup []) :: (.tup []) :: (.tup []) :: (.tup []) :: (.tup []) :: (.tup []) :: [])))))) S [] _
 unfold uZ
 conv => arg 2; whnf
 rw [zR]
 have hc0 : rowE S c 0 = some (cacV d m L C.last) := zK (e := 150) h.hc
 have hlk := (h.hm.look zi8 no).1
 generalize ha : S.length = a
 cases hf : f no with
 | none =>
  rw [hf] at hlk
  simp only [Option.getD_none, Option.isSome_none] at hlk
  have l0 := z256
  have hst := bt42.store (v := blkV (zC 256)) isB_v z256 (w := blkV (zC 256)) isB_v z256
  simp (maxSteps:=1000000) (disch:=first|assumption|omega|rfl) only [↓gp, gc, Nat.reduceAdd, z73, z2o, hc0, lc1, hlk, z42, zf42, ha, rA0 ha, pA0 ha, hst, kJ, Bool.not_false]
  exact ⟨rfl, _, rfl, Frm.refl.app, rfl, C, ⟨d, L, es, vs, f, z, w, q, h.keep Keep.refl.app, hq⟩, .inl rfl⟩
 | some v =>
  rw [hf] at hlk
  simp only [Option.getD_some, Option.isSome_some] at hlk
  obtain ⟨k, b, rfl, hb, hvb⟩ := h.kn _ _ hf
  have hkl : k < C.img.length := (List.getElem?_eq_some_iff.1 hb).1
  have hbl := h.ok.len b (List.mem_of_getElem? hb)
  have l0 := z256
  have hst := bt42.store hvb hbl (w := blkV (zC 256)) isB_v z256
  have hldv := bt42.load hvb hbl
  have hv1 := hvb.one
  have hlast := h.ok.last
  have hwq := h.wq
  have hll := h.lc.1
  have hk2 : Keep S ((S ++ [.row [v] 42]) ++ [.hole, .hole, .hole, .hole, .hole, .hole, .hole, .hole, .hole, .hole, .hole, .hole, .hole, .hole, .hole]) := Keep.refl.app.app
  have h2 := h.keep hk2
  obtain ⟨o, S3, ⟨hK3, v2, L', wv, fs, ids, rfl, hv2, hL', hc', hwv, hidl, hrd⟩, hE⟩ := qR (zj4 ((S ++ [.row [v] 42]) ++ [.hole, .hole, .hole, .hole, .hole, .hole, .hole, .hole, .hole, .hole, .hole, .hole, .hole, .hole, .hole]) (k : Int) v b hvb hbl L es C.list h2.lo h2.lc (by omega) C.img.length C.last hlast h.ok.chs h.ok.ids)
  have hE := fun {ops base K ws cs i dst T} => kV (ops := ops) (base := base) (K := K) (ws := ws) (cs := cs) (i := i) (dst := dst) (T := T) rfl hE
  have hlv := z1d (no := (k : Int)) (ids := ids) hbl (fun ch hch => (h.ok.chs ch hch).1)
  have hL1 := qF h.lo
  have hL'1 := qF hL'
  have hw1 := qF hwv
  have hv21 := hv2.one
  have hst2 := bt42.store hv2 hlv (w := blkV (zC 256)) isB_v z256
  have hK03 := hk2.trans hK3
  simp (maxSteps:=1000000) (disch:=first|assumption|omega|rfl) only [↓gp, gc, Nat.reduceAdd, z73, z2o, hc0, lc1, hlk, z42, zf42, ha, rA0 ha, pA0 ha, hst, kJ, Bool.not_true]
  have hc2 : ∀ l, rowE ((S ++ [.row [v] 42]) ++ l) c 0 = some (cacV d m L C.last) := fun l => zK (e := 150) ((Keep.refl.app.app (l := l)) _ _ h.hc)
  have hr2 : ∀ l, rowE ((S ++ [.row [v] 42]) ++ l) a 0 = some v := fun l => zK (e := 42) (by rw [List.append_assoc, List.getElem?_append_right (by omega), ha, Nat.sub_self]; rfl)
  have hk1 : Keep S (S ++ [.row [v] 42]) := Keep.refl.app
  have hb1 : (S ++ [Ob.row [v] 42]).length = a + 1 := by simp [ha]
  generalize S ++ [Ob.row [v] 42] = S1 at *
  have hh3 : S3[a + 1 + 11]? = some .hole := hK3 _ _ (by rw [← hb1, List.getElem?_append_right (by omega), Nat.add_sub_cancel_left]; rfl)
  have hh3l := zN hh3
  have hra3 : rowE (S3.set (a + 1 + 11) (.row [blkV (zC 256)] 42)) (a + 1 + 11) 0 = some (blkV (zC 256)) := zK (e := 42) (List.getElem?_set_self hh3l)
  have hpa3 : ∀ y, jF (S3.set (a + 1 + 11) (.row [blkV (zC 256)] 42)) (a + 1 + 11) 0 y = some (S3.set (a + 1 + 11) (.row [y] 42)) := fun y => by
   rw [qH (e := 42) (List.getElem?_set_self hh3l), List.set_set]
  refine kL (is := [0, 1, 2, 3, 4, 5, 6, 7, 8, 9, 10, 11, 12, 13, 14]) (h := 15) (by kernel_rfl) (by kernel_rfl) ?_
  simp (maxSteps:=1000000) (disch:=first|assumption|omega|rfl) only [List.replicate_zero, eq_self, gw, ga, Nat.reduceAdd, ↓gq, vso, hc2, hr2, kB, vK, z5o, lc2, hldv, hL1, hv1, hE, zw8, hv21, hL'1, hw1, zay z42 zf42, z8x, hb1, hra3, hpa3, hst2]
  refine ⟨zV (by kernel_rfl) (zV (by kernel_rfl) qM), hh3, zV (by kernel_rfl) (zV (by kernel_rfl) qM), by kernel_rfl, ?_⟩
  have hkA : ∀ {x : V} {e : TypeId} {xs : List V}, OwnS S3 x e xs → OwnS (S3.set (a + 1 + 11) (.row [v2] 42)) x e xs := fun ho => zn5 ho hh3
  have hK04 : Keep S (S3.set (a + 1 + 11) (.row [v2] 42)) := hK03.set (by omega)
  have hL'4 := hkA hL'
  have hc'4 := hc'.mono (fun _ _ => hkA) (fun _ _ => hkA)
  have hwv4 := hkA hwv
  have hr4 : (S3.set (a + 1 + 11) (.row [v2] 42))[a + 1 + 11]? = some (.row [v2] 42) := List.getElem?_set_self hh3l
  generalize S3.set (a + 1 + 11) (.row [v2] 42) = S4 at *
  have hln : zI Try.prog S4 .len [46] [wv] = some (.val (.d (.int .i64 (ids.length : Int))) S4 0) := by rw [wB Try.underlying46 hwv4, zW]
  have h4 := h.keep hK04
  by_cases hz : ids.length = 0
  ·have hde : ∀ i' : Decidable ((ids.length : Int) = 0), @decide ((ids.length : Int) = 0) i' = true := fun i' => decide_eq_true (by omega)
   simp (maxSteps:=1000000) (disch:=first|assumption|omega|rfl) only [↓gp, gc, Nat.reduceAdd, hln, hde]
   exact ⟨rfl, _, rfl, Frm.keep hK04, rfl, C, ⟨d, L, es, vs, f, z, w, q, h4, hq⟩, .inl rfl⟩
  ·have hde : ∀ i' : Decidable ((ids.length : Int) = 0), @decide ((ids.length : Int) = 0) i' = false := fun i' => decide_eq_false (by omega)
   have hc4 := zK (e := 150) h4.hc
   have hra4 := zK (e := 42) hr4
   have hld2 := bt42.load hv2 hlv
   have hkv : k < vs.length := by rw [h.il]; exact hkl
   obtain ⟨v0, b0, hv0l, hv0, hb0, hvb0, hbl0⟩ := h.imv hkl
   have hwr := fun {ops base K ws cs i dst T} => kV (ops := ops) (base := base) (K := K) (ws := ws) (cs := cs) (i := i) (dst := dst) (T := T) rfl (z55 S4 d r vs z w q false k v2 v0 _ b0 h4.dk hkv hv2 hlv hv0 hvb0 hbl0 (by omega) h.zb (fun hh => Bool.noConfusion hh))
   simp only [Bool.false_eq_true, if_false] at hwr
   simp (maxSteps:=1000000) (disch:=first|assumption|omega|rfl) only [↓gp, gc, Nat.reduceAdd, hln, hde]
   refine kL (is := [0, 1, 2, 3, 4, 5, 6, 7]) (h := 0) (by kernel_rfl) (by kernel_rfl) ?_
   simp (maxSteps:=1000000) (disch:=first|assumption|omega|rfl) only [List.replicate_zero, eq_self, gw, ga, Nat.reduceAdd, ↓gq, vso, List.append_nil, hc4, hra4, kB, vK, zep, lc0, hld2, hv21, hwr, bo53]
   refine ⟨zV (by kernel_rfl) (zV (by kernel_rfl) qM), by kernel_rfl, ?_⟩
   have hdr : d ≠ r := fun e => h4.dk.ne e.symm
   have hdl := zN h4.dk.hd
   have hrl := zN h4.dk.hr
   have hK5 : ∀ j o, S4[j]? = some o → j ≠ d → j ≠ r → (((S4.set d (.row [dskV r vs.length z false false ((w : Int) + 1) q] 89)).set r (.row (vs.set k v2) 42)) ++ [.row [.ref d 0 0] 26, .row [v2] 42, .row [.d (.int .i64 0)] 29])[j]? = some o := fun j o hj n1 n2 => by
    rw [List.getElem?_append_left (by rw [List.length_set, List.length_set]; exact zN hj), List.getElem?_set_ne (Ne.symm n2), List.getElem?_set_ne (Ne.symm n1)]
    exact hj
   have hD5 : DskAt (((S4.set d (.row [dskV r vs.length z false false ((w : Int) + 1) q] 89)).set r (.row (vs.set k v2) 42)) ++ [.row [.ref d 0 0] 26, .row [v2] 42, .row [.d (.int .i64 0)] 29]) d r (vs.set k v2) z false false ((w + 1 : Nat) : Int) q := by
    refine ⟨?_, ?_, h4.dk.ne⟩
    ·rw [List.getElem?_append_left (by rw [List.length_set, List.length_set]; exact hdl), List.getElem?_set_ne (Ne.symm hdr), List.getElem?_set_self hdl, List.length_set]
     have : ((w + 1 : Nat) : Int) = (w : Int) + 1 := by omega
     rw [this]
    ·rw [List.getElem?_append_left (by rw [List.length_set, List.length_set]; exact hrl), List.getElem?_set_self (by rw [List.length_set]; exact hrl)]
   have hl5 : S4.length ≤ (((S4.set d (Ob.row [dskV r vs.length z false false ((w : Int) + 1) q] 89)).set r (Ob.row (vs.set k v2) 42)) ++ [Ob.row [.ref d 0 0] 26, Ob.row [v2] 42, Ob.row [.d (.int .i64 0)] 29]).length := by simp
   generalize ((S4.set d (Ob.row [dskV r vs.length z false false ((w : Int) + 1) q] 89)).set r (Ob.row (vs.set k v2) 42)) ++ [Ob.row [.ref d 0 0] 26, Ob.row [v2] 42, Ob.row [.d (.int .i64 0)] 29] = S5 at *
   have hra_d : a + 1 + 11 ≠ d := by rintro rfl; have := getE hr4 h4.dk.hd; simp at this
   have hra_r : a + 1 + 11 ≠ r := by have := zN h.dk.hr; omega
   have hc5' := hK5 _ _ h4.hc h4.cd h4.cr
   have hc5 := zK (e := 150) hc5'
   have hra5' := hK5 _ _ hr4 hra_d hra_r
   have hra5 := zK (e := 42) hra5'
   have hm5 : MpI S5 m f := by
    obtain ⟨l, kk, e1, e2⟩ := h4.hm
    exact ⟨l, kk, hK5 _ _ e1 h4.md h4.mr, e2⟩
   obtain ⟨n, hme, hes⟩ := hm5.entry zi8 (k : Int) hf
   obtain ⟨oo, hes2, hm6, es', cc', hoo⟩ := hes S5 v2 rfl hv21
   have hc6' : (S5.set m oo)[c]? = some (.row [cacV d m L C.last] 150) := by rw [List.getElem?_set_ne (Ne.symm h4.cm)]; exact hc5'
   have hc6 := zK (e := 150) hc6'
   have hpc6 := fun y => qH (y := y) (e := 150) hc6'
   have hscL := sc2g (d := d) (m := m) (L := L) (last := (C.last : Int)) hL'4
   have hsm := zg4 hv2
   simp (maxSteps:=1000000) (disch:=first|assumption|omega|rfl) only [↓gp, gc, Nat.reduceAdd]
   refine kL (is := [0, 1, 2, 3, 4, 5, 6, 7, 8, 9, 10, 11, 12, 13]) (h := 0) (by kernel_rfl) (by kernel_rfl) ?_
   simp (maxSteps:=1000000) (disch:=first|assumption|omega|rfl) only [List.replicate_zero, eq_self, gw, ga, Nat.reduceAdd, ↓gq, vso, List.append_nil, hc5, hra5, kB, vK, z2o, z5o, lc1, hld2, hv21, zpb, zml, zn3, znx, hme, hes2, hc6, hpc6, hscL, hL'1]
   refine ⟨qV rfl (by kernel_rfl) rfl (z3f ((zM hra5).trans hld2)) hsm (zV (by kernel_rfl) qM), zV (by kernel_rfl) (zV (by kernel_rfl) qM), zV (by kernel_rfl) (zV (by kernel_rfl) qM), by kernel_rfl, ?_⟩
   simp (maxSteps:=1000000) (disch:=first|assumption|omega|rfl) only [↓gp, gc, Nat.reduceAdd]
   have hcl6 := zN hc6'
   have kp : ∀ j o, S4[j]? = some o → j ≠ d → j ≠ r → j ≠ m → j ≠ c → ((S5.set m oo).set c (.row [cacV d m L' C.last] 150))[j]? = some o := fun j o hj n1 n2 n3 n4 => by
    rw [List.getElem?_set_ne (Ne.symm n4), List.getElem?_set_ne (Ne.symm n3)]
    exact hK5 j o hj n1 n2
   have hc7 : ((S5.set m oo).set c (.row [cacV d m L' C.last] 150))[c]? = some (.row [cacV d m L' C.last] 150) := List.getElem?_set_self hcl6
   have hm7 : MpI ((S5.set m oo).set c (.row [cacV d m L' C.last] 150)) m (updI f (k : Int) (some v2)) := hm6.keep (List.getElem?_set_ne h4.cm)
   have hd7 : DskAt ((S5.set m oo).set c (.row [cacV d m L' C.last] 150)) d r (vs.set k v2) z false false ((w + 1 : Nat) : Int) q :=
    ⟨by rw [List.getElem?_set_ne h4.cd, List.getElem?_set_ne h4.md]; exact hD5.hd, by rw [List.getElem?_set_ne h4.cr, List.getElem?_set_ne h4.mr]; exact hD5.hr, hD5.ne⟩
   have hl7 : S4.length ≤ ((S5.set m oo).set c (.row [cacV d m L' C.last] 150)).length := by rw [List.length_set, List.length_set]; exact hl5
   generalize (S5.set m oo).set c (Ob.row [cacV d m L' C.last] 150) = S7 at *
   have own7 : ∀ {x : V} {e : TypeId} {xs : List V}, (e ≠ 89 ∧ e ≠ 42 ∧ e ≠ 150) → OwnS S4 x e xs → OwnS S7 x e xs := fun he ho => by
    rcases ho with ho | ⟨id, e1, e2⟩
    ·exact .inl ho
    ·refine .inr ⟨id, e1, kp _ _ e2 ?_ ?_ ?_ ?_⟩
     ·rintro rfl; cases getE e2 h4.dk.hd; exact he.1 rfl
     ·rintro rfl; cases getE e2 h4.dk.hr; exact he.2.1 rfl
     ·rintro rfl; obtain ⟨_, _, e3, _⟩ := h4.hm; cases getE e2 e3
     ·rintro rfl; cases getE e2 h4.hc; exact he.2.2 rfl
   have hF : FrC m r S S7 := (Frm.keep hK04).trans ⟨hl7, fun j o hj hcm => by
    refine kp j o hj ?_ ?_ ?_ ?_
    ·rintro rfl; have := getE hj h4.dk.hd; subst this; cases hcm
    ·rintro rfl; have := getE hj h4.dk.hr; subst this; simp [calm] at hcm
    ·rintro rfl; obtain ⟨_, _, e3, _⟩ := h4.hm; have := getE hj e3; subst this; simp [calm] at hcm
    ·rintro rfl; have := getE hj h4.hc; subst this; cases hcm⟩
   have hgd : C.img.getD k [] = b := by rw [List.getD_eq_getElem?_getD, hb]; rfl
   have hflt : (C.list.filter fun ch => decide (ch.id ∉ ids)).length < C.list.length := by
    obtain ⟨x, xs, hx⟩ : ∃ x xs, ids = x :: xs := by
     cases ids with
     | nil => simp at hz
     | cons x xs => exact ⟨x, xs, rfl⟩
    obtain ⟨ch, h1, h2, _⟩ := hrd.1 x (by rw [hx]; exact List.mem_cons_self)
    have h1 := List.mem_of_mem_take h1
    rcases Nat.lt_or_ge (C.list.filter fun ch => decide (ch.id ∉ ids)).length C.list.length with hh | hh
    ·exact hh
    ·have hall := List.filter_eq_self.1 (List.filter_sublist.eq_of_length (Nat.le_antisymm (List.length_filter_le ..) hh)) ch h1
     simp only [decide_eq_true_eq] at hall
     exact absurd (by rw [hx, ← h2]; exact List.mem_cons_self) hall
   refine ⟨rfl, _, rfl, hF, rfl, C.flush k ids, ⟨d, L', fs, vs.set k v2, updI f (k : Int) (some v2), z, w + 1, q, ⟨hc7, hm7, hd7, h.zb, ?_, ?_, ?_, own7 (by decide) hL'4, hc'4.mono (fun _ _ => own7 (by decide)) (fun _ _ => own7 (by decide)), ?_, h.ok.flush hkl⟩, ?_⟩, .inr ⟨k, ids, rfl, hkl, hrd, rfl⟩⟩
   ·show (vs.set k v2).length = (C.img.set k _).length
    rw [List.length_set, List.length_set]; exact h.il
   ·intro i x bb hx hbb
    have hbb : (C.img.set k (rolL (C.img.getD k []) C.list (k : Int) ids))[i]? = some bb := hbb
    by_cases e : i = k
    ·subst e
     rw [List.getElem?_set_self (by rw [h.il]; exact hkl)] at hx
     rw [List.getElem?_set_self hkl] at hbb
     cases hx
     cases hbb
     rw [hgd]; exact hv2
    ·rw [List.getElem?_set_ne (Ne.symm e)] at hx hbb
     exact h.im i x bb hx hbb
   ·intro x u hx
    unfold updI at hx
    split at hx
    ·rename_i e
     cases hx
     refine ⟨k, _, e, List.getElem?_set_self hkl, ?_⟩
     rw [hgd]; exact hv2
    ·rename_i e
     obtain ⟨k2, b2, e2, e3, e4⟩ := h.kn x u hx
     refine ⟨k2, b2, e2, ?_, e4⟩
     show (C.img.set k _)[k2]? = some b2
     rw [List.getElem?_set_ne (by rintro rfl; exact e e2)]
     exact e3
   ·show w + 1 + (C.list.filter fun ch => decide (ch.id ∉ ids)).length ≤ C.last + 100
    omega
   ·show q ≤ cntI (updI f (k : Int) (some v2)) (C.img.set k _).length + 1
    rw [List.length_set, z9p (g := f) (fun x => by
     unfold updI
     split
     ·rename_i e; rw [e, hf]; rfl
     ·rfl)]
    exact hq
theorem zaz {b d : List UInt8} {a : Nat} (h : a + d.length ≤ b.length) (i : Nat) : (layB b a d)[i]? = if a ≤ i ∧ i < a + d.length then d[i - a]? else b[i]? := by
 unfold layB
 have e1 : (b.take a).length = a := by rw [List.length_take]; omega
 by_cases h1 : i < a
 ·rw [if_neg (by omega), List.append_assoc, List.getElem?_append_left (by rw [e1]; exact h1), List.getElem?_take, if_pos h1]
 ·by_cases h2 : i < a + d.length
  ·rw [if_pos ⟨by omega, h2⟩, List.append_assoc, List.getElem?_append_right (by rw [e1]; omega), e1, List.getElem?_append_left (by omega)]
  ·rw [if_neg (by omega), List.getElem?_append_right (by rw [List.length_append, e1]; omega), List.length_append, e1, List.getElem?_drop]
   congr 1
   omega
theorem zo9 {b d e : List UInt8} {x y : Nat} (h1 : x + d.length ≤ b.length) (h2 : y + e.length ≤ b.length) (hm : x + d.length ≤ y ∨ y + e.length ≤ x) : layB (layB b x d) y e = layB (layB b y e) x d := by
 apply List.ext_getElem?
 intro i
 rw [zaz (by rw [qU h1]; exact h2), zaz h1, zaz (by rw [qU h2]; exact h1), zaz h2]
 by_cases c1 : x ≤ i ∧ i < x + d.length
 ·by_cases c2 : y ≤ i ∧ i < y + e.length
  ·omega
  ·rw [if_neg c2, if_pos c1, if_pos c1]
 ·rw [if_neg c1, if_neg c1]
def layC (b : List UInt8) (ch : Chg) : List UInt8 := layB b ch.at_.toNat ch.data
theorem znr {b : List UInt8} {ch : Chg} (hb : b.length = 256) (h : kW ch.at_ ch.data) : (layC b ch).length = 256 := by
 obtain ⟨_, _, h3, h4⟩ := h
 unfold layC
 rw [qU (by omega), hb]
theorem zk9 {b : List UInt8} {c d : Chg} (hb : b.length = 256) (hc : kW c.at_ c.data) (hd : kW d.at_ d.data) (hm : ¬ z3x c.at_ c.data d.at_ d.data) : layC (layC b c) d = layC (layC b d) c := by
 obtain ⟨_, _, c3, c4⟩ := hc
 obtain ⟨_, _, d3, d4⟩ := hd
 unfold z3x at hm
 exact zo9 (by omega) (by omega) (by omega)
theorem z2c {b : List UInt8} {l : List Chg} {ch : Chg} {no : Int} : seeL b (ch :: l) no = seeL (if ch.no = no then layC b ch else b) l no := rfl
theorem zch {no : Int} {c : Chg} (hc : kW c.at_ c.data) : ∀ {l : List Chg} {b : List UInt8}, b.length = 256 → (∀ g ∈ l, kW g.at_ g.data) → (∀ g ∈ l, g.no = no → ¬ z3x g.at_ g.data c.at_ c.data) → seeL (layC b c) l no = layC (seeL b l no) c
 | [], b, _, _, _ => rfl
 | g :: r, b, hb, hg, hm => by
  rw [z2c, z2c]
  have hg1 := hg g List.mem_cons_self
  have ih := fun {b : List UInt8} (hb : b.length = 256) => zch (b := b) hc hb (fun x hx => hg x (List.mem_cons_of_mem _ hx)) (fun x hx => hm x (List.mem_cons_of_mem _ hx))
  by_cases e : g.no = no
  ·rw [if_pos e, if_pos e, ← zk9 hb hg1 hc (hm g List.mem_cons_self e)]
   exact ih (znr hb hg1)
  ·rw [if_neg e, if_neg e]
   exact ih hb
theorem zd0 {l : List Chg} {no : Int} {ids : List Int} {b : List UInt8} (hb : b.length = 256) (hok : ∀ ch ∈ l, kW ch.at_ ch.data) (hrd : RdOk l no l.length ids) : ∀ i, i ≤ l.length → seeL (rolL b (l.take i) no ids) ((l.take i).filter fun ch => decide (ch.id ∉ ids)) no = seeL b (l.take i) no
 | 0, _ => rfl
 | i + 1, hi => by
  have hlt : i < l.length := by omega
  have ih := zd0 hb hok hrd i (by omega)
  have hpk := hok l[i] (List.getElem_mem hlt)
  have hsub : ∀ ch ∈ l.take i, kW ch.at_ ch.data := fun ch hch => hok ch (List.mem_of_mem_take hch)
  have hlr := z1d (no := no) (ids := ids) hb hsub
  rw [wI hlt, zd5, z18, List.filter_append]
  by_cases hin : l[i].id ∈ ids
  ·have e : ([l[i]].filter fun ch => decide (ch.id ∉ ids)) = [] := by simp [hin]
   rw [e, List.append_nil]
   by_cases hno : l[i].no = no
   ·rw [if_pos ⟨hno, hin⟩, if_pos hno, ← ih]
    show seeL (layC _ l[i]) _ no = layC _ l[i]
    refine zch hpk hlr (fun g hg => hsub g (List.mem_filter.1 hg).1) fun g hg hgn hmt => ?_
    obtain ⟨g1, g2⟩ := List.mem_filter.1 hg
    simp only [decide_eq_true_eq] at g2
    exact g2 (hrd.2 i l[i] (List.getElem?_eq_getElem hlt) hin g g1 hgn hmt)
   ·rw [if_neg (fun h => hno h.1), if_neg hno]
    exact ih
  ·have e : ([l[i]].filter fun ch => decide (ch.id ∉ ids)) = [l[i]] := by simp [hin]
   have hn2 : ¬ (l[i].no = no ∧ l[i].id ∈ ids) := fun h => hin h.2
   rw [e, z18, if_neg hn2, ih]
theorem zho {b : List UInt8} {no : Int} {p : Chg → Bool} : ∀ {l : List Chg}, (∀ ch ∈ l, p ch = false → ch.no ≠ no) → seeL b (l.filter p) no = seeL b l no := by
 intro l
 induction l generalizing b with
 | nil => intro _; rfl
 | cons ch r ih =>
  intro h
  have ih := fun {b : List UInt8} => ih (b := b) fun c hc => h c (List.mem_cons_of_mem _ hc)
  cases hp : p ch with
  | true =>
   rw [List.filter_cons_of_pos (by rw [hp]), z2c, z2c]
   exact ih
  | false =>
   rw [List.filter_cons_of_neg (by rw [hp]; decide), z2c, if_neg (h ch List.mem_cons_self hp)]
   exact ih
theorem CS.Ok.img_len {C : CS} (h : C.Ok) {no : Nat} (hn : no < C.img.length) : (C.img.getD no []).length = 256 := by
 rw [List.getD_eq_getElem?_getD, List.getElem?_eq_getElem hn]
 exact h.len _ (List.getElem_mem hn)
theorem zku {C : CS} (h : C.Ok) {k : Nat} {ids : List Int} (hk : k < C.img.length) (hrd : RdOk C.list (k : Int) C.list.length ids) {no : Nat} (hn : no < C.img.length) : (C.flush k ids).see no = C.see no := by
 have hpk : ∀ ch ∈ C.list, kW ch.at_ ch.data := fun ch hch => (h.chs ch hch).1
 unfold CS.see CS.flush
 by_cases e : no = k
 ·subst e
  have e1 : (C.img.set no (rolL (C.img.getD no []) C.list (no : Int) ids)).getD no [] = rolL (C.img.getD no []) C.list (no : Int) ids := by
   rw [List.getD_eq_getElem?_getD, List.getElem?_set_self hk]; rfl
  rw [e1]
  have := zd0 (h.img_len hk) hpk hrd C.list.length (Nat.le_refl _)
  rw [List.take_length] at this
  exact this
 ·have e1 : (C.img.set k (rolL (C.img.getD k []) C.list (k : Int) ids)).getD no [] = C.img.getD no [] := by
   rw [List.getD_eq_getElem?_getD, List.getElem?_set_ne (Ne.symm e), ← List.getD_eq_getElem?_getD]
  rw [e1]
  refine zho fun ch hch hp => ?_
  simp only [decide_eq_false_iff_not, Decidable.not_not] at hp
  obtain ⟨c2, h1, h2, h3⟩ := hrd.1 _ hp
  obtain ⟨i, hi⟩ := List.mem_iff_getElem?.1 hch
  obtain ⟨j, hj⟩ := List.mem_iff_getElem?.1 (List.mem_of_mem_take h1)
  have := ziy h.ids hi hj h2.symm
  subst this
  rw [hi] at hj
  cases hj
  omega
theorem z8y {C C' : CS} (h : C.Ok) {no : Int} (hf : zeo C C' no) : C'.img.length = C.img.length ∧ C'.last = C.last ∧ ∀ k < C.img.length, C'.see k = C.see k := by
 rcases hf with rfl | ⟨k, ids, rfl, hk, hrd, rfl⟩
 ·exact ⟨rfl, rfl, fun _ _ => rfl⟩
 ·refine ⟨?_, rfl, fun j hj => zku h hk hrd hj⟩
  show (C.img.set _ _).length = _
  rw [List.length_set]
theorem zg6 {C : CS} {no : Nat} {a : Int} {b : List UInt8} {needs : List Int} {k : Nat} : (C.put no a b needs).see k = if no = k then layB (C.see k) a.toNat b else C.see k := by
 unfold CS.see CS.put
 rw [z18]
 by_cases e : no = k
 ·rw [if_pos e, if_pos (by subst e; rfl)]
 ·rw [if_neg e, if_neg (by show ¬ ((no : Int) = (k : Int)); omega)]
def small (n : Int) : Prop := 0 ≤ n ∧ n ≤ 65535
instance {n : Int} : Decidable (small n) := by unfold small; infer_instance
def numI (i : Ino) : List Int := [i.d0, i.d1, i.d2, i.d3, i.d4, i.d5, i.ind]
def zd4 : Ino := ⟨0, 0, 0, 0, 0, 0, 0, 0, 0, 0, 0⟩
def MayI (i : Ino) : Prop := (0 ≤ i.kind ∧ i.kind ≤ 2 ∧ (i.kind = 0 → i = zd4)) ∧ small i.links ∧ small i.parent ∧ 0 ≤ i.size ∧ i.size ≤ 34304 ∧ ∀ n ∈ numI i, small n
instance {i : Ino} : Decidable (MayI i) := by unfold MayI; infer_instance
def aggI (l : List Int) : D := .agg (l.map (.int .i64))
theorem zrn : zA Try.prog 126 = some ⟨(Try.f126.body.getD .skip), 9, #[.tmp 2]⟩ := by
 unfold zA
 rw [Try.func126]
 rfl
theorem zrt : zA Try.prog 120 = some ⟨(Try.f120.body.getD .skip), 52, #[.tmp 2]⟩ := by
 unfold zA
 rw [Try.func120]
 rfl
theorem zes : (zA Try.prog 126).isSome = true := by kernel_rfl
theorem zw5 : (zA Try.prog 121).isSome = true := by kernel_rfl
theorem zur : (zA Try.prog 120).isSome = true := by kernel_rfl
theorem zns (n : Int) : Ev cfg 126 [.int .i64 n] (.ret (.d (.bool (decide (small n))))) := by
 refine jW rfl rfl zrn ?_
 show Wp cfg (Try.f126.body.getD .skip) ((.d (.int .i64 n)) :: (.tup []) :: (.tup []) :: (.tup []) :: (.tup []) :: (.tup []) :: (.tup []) :: (.tup []) :: (.tup []) :: []) [] [] _
 conv => arg 2; whnf
 by_cases h1 : n ≥ 0
 ·have e : decide (small n) = decide (n ≤ 65535) := by
   by_cases h : n ≤ 65535
   ·rw [decide_eq_true h]; exact decide_eq_true ⟨h1, h⟩
   ·rw [decide_eq_false h]; exact decide_eq_false (fun hh => h hh.2)
  rw [e]
  simp (maxSteps:=1000000) (disch:=first|assumption|omega|rfl) only [↓gp, gc, Nat.reduceAdd]
  exact zO rfl rfl rfl
 ·have e : decide (small n) = false := decide_eq_false (fun hh => h1 hh.1)
  rw [e]
  simp (maxSteps:=1000000) (disch:=first|assumption|omega|rfl) only [↓gp, gc, Nat.reduceAdd]
  exact zO rfl rfl rfl
theorem zia (i : Ino) : Ev cfg 121 [zS i] (.ret (.d (aggI (numI i)))) := ⟨1000, by kernel_rfl⟩
section
variable {ops : Array Oper} {dst : Option Tmp} {k : List Oper} {T : List V} {S : Store} {F : Dfs} {Q : Post}
theorem z0n {n : Int} : WpR cfg ops dst k T S F Q (some (.enter 126 [.d (.int .i64 n)])) = WpL cfg ops k (putT T dst (.d (.bool (decide (small n))))) S F Q := qA (ds := [.int .i64 n]) rfl (zns n)
theorem zde {i : Ino} : WpR cfg ops dst k T S F Q (some (.enter 121 [.d (zS i)])) = WpL cfg ops k (putT T dst (.d (aggI (numI i)))) S F Q := qA (ds := [zS i]) rfl (zia i)
end
theorem zfs {e : TypeId} (he : Try.prog.underlying e = some (.int .i64)) : ∀ (xs ys : List Int), xs.length = ys.length → eqLs Try.prog e xs.length (xs.map (.int .i64)) (ys.map (.int .i64)) = some (decide (xs = ys))
 | [], [], _ => rfl
 | x :: xs, y :: ys, h => by
  have ih := zfs he xs ys (by simpa using h)
  have h1 : vC Try.prog e (.int .i64 x) (.int .i64 y) = some (x == y) := by simp [vC, he]
  simp only [List.length_cons, List.map_cons, eqLs, h1]
  by_cases hx : x = y
  ·subst hx
   simp only [beq_self_eq_true, ih]
   congr 1
   by_cases hq : xs = ys
   ·rw [decide_eq_true hq, decide_eq_true (by rw [hq])]
   ·rw [decide_eq_false hq, decide_eq_false (by simpa using hq)]
  ·have h2 : (x == y) = false := by simp [hx]
   rw [h2]
   simp [hx]
theorem u3 : Try.prog.underlying 3 = some (.int .i64) := by kernel_rfl
theorem eq61 (i j : Ino) : eqD Try.prog 8 61 (zS i) (zS j) = some (decide (i = j)) := by
 have hs : Try.prog.stoodInHeld 61 = false := by kernel_rfl
 have hu59 : Try.prog.underlying 59 = some (.array 6 3) := by kernel_rfl
 have hs3 : sz Try.prog 3 = some 1 := by kernel_rfl
 have p0 : ∀ {x0 x1 x2 x3 x4 x5 x6 x7 x8 x9 x10 : D}, z11 Try.prog 3 [x0, x1, x2, x3, x4, x5, x6, x7, x8, x9, x10] 0 = some x0 := by intros; kernel_rfl
 have p1 : ∀ {x0 x1 x2 x3 x4 x5 x6 x7 x8 x9 x10 : D}, z11 Try.prog 3 [x0, x1, x2, x3, x4, x5, x6, x7, x8, x9, x10] 1 = some x1 := by intros; kernel_rfl
 have p2 : ∀ {x0 x1 x2 x3 x4 x5 x6 x7 x8 x9 x10 : D}, z11 Try.prog 3 [x0, x1, x2, x3, x4, x5, x6, x7, x8, x9, x10] 2 = some x2 := by intros; kernel_rfl
 have p3 : ∀ {x0 x1 x2 x3 x4 x5 x6 x7 x8 x9 x10 : D}, z11 Try.prog 3 [x0, x1, x2, x3, x4, x5, x6, x7, x8, x9, x10] 3 = some x3 := by intros; kernel_rfl
 have p4 : ∀ {x0 x1 x2 x3 x4 x5 x6 x7 x8 x9 x10 : D}, z11 Try.prog 59 [x0, x1, x2, x3, x4, x5, x6, x7, x8, x9, x10] 4 = some (.agg [x4, x5, x6, x7, x8, x9]) := by intros; kernel_rfl
 have p5 : ∀ {x0 x1 x2 x3 x4 x5 x6 x7 x8 x9 x10 : D}, z11 Try.prog 3 [x0, x1, x2, x3, x4, x5, x6, x7, x8, x9, x10] 10 = some x10 := by intros; kernel_rfl
 have g3 : ∀ x y : Int, eqD Try.prog 7 3 (.int .i64 x) (.int .i64 y) = some (x == y) := fun x y => by simp [eqD, vC, u3]
 have xK : ∀ (a b c d e f a' b' c' d' e' f' : Int), eqD Try.prog 7 59 (.agg [.int .i64 a, .int .i64 b, .int .i64 c, .int .i64 d, .int .i64 e, .int .i64 f]) (.agg [.int .i64 a', .int .i64 b', .int .i64 c', .int .i64 d', .int .i64 e', .int .i64 f']) = some (decide ([a, b, c, d, e, f] = [a', b', c', d', e', f'])) := by
  intro a b c d e f a' b' c' d' e' f'
  have := zfs u3 [a, b, c, d, e, f] [a', b', c', d', e', f'] rfl
  simp only [List.length_cons, List.length_nil, List.map_cons, List.map_nil] at this
  simp only [eqD, hu59, hs3]
  rw [← this]
  rfl
 obtain ⟨k, l, s, p, a, b, c, d, e, f, n⟩ := i
 obtain ⟨k', l', s', p', a', b', c', d', e', f', n'⟩ := j
 unfold eqD zS
 simp only [Try.underlying61, hs, Bool.false_eq_true, if_false]
 simp only [eqFs, p0, p1, p2, p3, p4, p5, g3, xK]
 simp only [ne_eq, String.reduceEq, not_false_eq_true, if_true]
 by_cases h1 : k = k'
 ·by_cases h2 : l = l'
  ·by_cases h3 : s = s'
   ·by_cases h4 : p = p'
    ·by_cases h5 : [a, b, c, d, e, f] = [a', b', c', d', e', f']
     ·by_cases h6 : n = n'
      ·simp only [List.cons.injEq, and_true] at h5
       simp [h1, h2, h3, h4, h5, h6]
      ·simp only [List.cons.injEq, and_true] at h5
       have e6 : (n == n') = false := by simp [h6]
       simp [h1, h2, h3, h4, h5, h6, e6]
     ·rw [decide_eq_false h5]
      simp only [List.cons.injEq, and_true] at h5
      simp only [h1, h2, h3, h4, beq_self_eq_true]
      refine congrArg some (decide_eq_false ?_).symm
      intro h
      simp only [Ino.mk.injEq] at h
      exact h5 ⟨h.2.2.2.2.1, h.2.2.2.2.2.1, h.2.2.2.2.2.2.1, h.2.2.2.2.2.2.2.1, h.2.2.2.2.2.2.2.2.1, h.2.2.2.2.2.2.2.2.2.1⟩
    ·have e4 : (p == p') = false := by simp [h4]
     simp [h1, h2, h3, h4, e4]
   ·have e3 : (s == s') = false := by simp [h3]
    simp [h1, h2, h3, e3]
  ·have e2 : (l == l') = false := by simp [h2]
   simp [h1, h2, e2]
 ·have e1 : (k == k') = false := by simp [h1]
  simp [h1, e1]
theorem ne61 {u : V} {i j : Ino} {v : V} (hu : IsI u i) (hv : IsI v j) : binV Try.prog .neq 61 u v = some (.d (.bool (decide (i ≠ j)))) ∧ binV Try.prog .eql 61 u v = some (.d (.bool (decide (i = j)))) := by
 have h1 : ptrT Try.prog 61 = false := by kernel_rfl
 have h2 : mapT Try.prog 61 = false := by kernel_rfl
 have h3 : fnT Try.prog 61 = false := by kernel_rfl
 have h4 : Try.prog.eqGuardType Try.prog.depth 61 = false := by kernel_rfl
 have ha : asD u = some (zS i) := by rcases hu with rfl | rfl <;> rfl
 have hb : asD v = some (zS j) := by rcases hv with rfl | rfl <;> rfl
 have h8 : eqV Try.prog 61 u v = some (decide (i = j)) := by
  have h7 := eq61 i j
  simp only [eqV, h1, h2, h3, ha, hb, Bool.false_eq_true, if_false]
  simp only [zS, h4, Bool.false_eq_true, if_false] at h7 ⊢
  exact h7
 have hn : (!decide (i = j)) = decide (i ≠ j) := by by_cases h : i = j <;> simp [h]
 constructor
 ·have : binV Try.prog .neq 61 u v = (eqV Try.prog 61 u v).map fun b => .d (.bool (!b)) := by rcases hu with rfl | rfl <;> rfl
  rw [this, h8, Option.map_some, hn]
 ·have : binV Try.prog .eql 61 u v = (eqV Try.prog 61 u v).map fun b => .d (.bool b) := by rcases hu with rfl | rfl <;> rfl
  rw [this, h8, Option.map_some]
section
variable {i : Ino} {d x y : Nat}
theorem li_0 : qL Try.prog 3 0 (some (.d (zS i))) = some (.d (.int .i64 i.kind)) := by kernel_rfl
theorem li_1 : qL Try.prog 3 1 (some (.d (zS i))) = some (.d (.int .i64 i.links)) := by kernel_rfl
theorem li_2 : qL Try.prog 3 2 (some (.d (zS i))) = some (.d (.int .i64 i.size)) := by kernel_rfl
theorem li_3 : qL Try.prog 3 3 (some (.d (zS i))) = some (.d (.int .i64 i.parent)) := by kernel_rfl
theorem z4c : zF Try.prog 61 0 (.ref d x y) = some (.ref d x (y + 0)) := by kernel_rfl
theorem za5 : zF Try.prog 61 1 (.ref d x y) = some (.ref d x (y + 1)) := by kernel_rfl
theorem z9l : zF Try.prog 61 2 (.ref d x y) = some (.ref d x (y + 2)) := by kernel_rfl
theorem za6 : zF Try.prog 61 3 (.ref d x y) = some (.ref d x (y + 3)) := by kernel_rfl
theorem z67 : zF Try.prog 61 4 (.ref d x y) = some (.ref d x (y + 4)) := by kernel_rfl
theorem z6i : zF Try.prog 61 5 (.ref d x y) = some (.ref d x (y + 10)) := by kernel_rfl
theorem zqr : wP Try.prog 61 [] = some z61V := by kernel_rfl
end
theorem zwp {l : List Int} (hl : l.length = 7) {j : Nat} (hj : j < l.length) : z2g Try.prog 176 (.d (aggI l)) (.d (.int .i64 (j : Int))) = some (.d (.int .i64 l[j])) := by
 have hu : Try.prog.underlying 176 = some (.array 7 3) := by kernel_rfl
 have hs : sz Try.prog 3 = some 1 := by kernel_rfl
 have ha : aggT Try.prog 3 = false := by kernel_rfl
 have hag : (aggI l).isAgg = true := rfl
 have hc : (aggI l).cells = l.map (.int .i64) := rfl
 simp only [z2g, intOf?, hu, hs]
 rw [if_pos ⟨by omega, by omega⟩]
 simp only [hag, hc, if_true, z11, hs, ha, List.length_map, Int.toNat_natCast, Nat.mul_one]
 rw [if_pos (by omega)]
 simp only [Bool.false_eq_true, if_false, if_true, List.getElem?_map, List.getElem?_eq_getElem hj, Option.map_some]
theorem ztw (S : Store) (l : List Int) (hl : l.length = 7) (R : Post) : ∀ (k j : Nat) (g0 g1 g2 g3 g4 g5 g6 g7 g8 g9 gM gF gG gB gC gA gE gH gI gD gL gN gK gJ gO gP gW gT gU gQ gR gS gV gX gY gf gg gZ gh gj gk gn gr gz hH hJ hU hY xA xB : V), l.length - j = k → j ≤ l.length → (∀ n ∈ l.take j, small n) →
 (∀ j' g0 g1 g2 g3 g4 g5 g6 g7 g8 g9 gM gF gG gB gC gA gE gH gI gD gL gN gK gJ gO gP gW gT gU gQ gR gS gV gX gY gf gg gZ gh gj gk gn gr gz hH hJ hU hY xA xB, (∀ n ∈ l, small n) → R (.exit 0) (g0 :: g1 :: g2 :: g3 :: g4 :: g5 :: g6 :: g7 :: g8 :: g9 :: gM :: gF :: gG :: gB :: gC :: gA :: gE :: gH :: gI :: gD :: gL :: gN :: gK :: gJ :: gO :: gP :: gW :: gT :: gU :: gQ :: gR :: gS :: gV :: gX :: gY :: gf :: gg :: gZ :: gh :: gj :: gk :: gn :: gr :: gz :: (.d (aggI l)) :: j' :: hH :: hJ :: hU :: hY :: xA :: xB :: []) S []) →
 (∀ T, ¬ (∀ n ∈ l, small n) → T.getD 2 (.tup []) = .d (.int .i64 1) → R .ret T S []) →
 Wp cfg (.loop (lpOf (Try.f120.body.getD .skip) 0)) (g0 :: g1 :: g2 :: g3 :: g4 :: g5 :: g6 :: g7 :: g8 :: g9 :: gM :: gF :: gG :: gB :: gC :: gA :: gE :: gH :: gI :: gD :: gL :: gN :: gK :: gJ :: gO :: gP :: gW :: gT :: gU :: gQ :: gR :: gS :: gV :: gX :: gY :: gf :: gg :: gZ :: gh :: gj :: gk :: gn :: gr :: gz :: (.d (aggI l)) :: (.d (.int .i64 (j : Int))) :: hH :: hJ :: hU :: hY :: xA :: xB :: []) S [] R := by
 intro k
 induction k with
 | zero =>
  intro j g0 g1 g2 g3 g4 g5 g6 g7 g8 g9 gM gF gG gB gC gA gE gH gI gD gL gN gK gJ gO gP gW gT gU gQ gR gS gV gX gY gf gg gZ gh gj gk gn gr gz hH hJ hU hY xA xB hk hj hs hR hR2
  have hje : j = 7 := by omega
  subst hje
  rw [List.take_of_length_le (by omega)] at hs
  rw [zR]
  refine zJ ?_
  conv => arg 2; whnf
  have h7 : ¬ ((7 : Nat) : Int) < 7 := by omega
  simp (maxSteps:=1000000) (disch:=first|assumption|omega|rfl) only [↓gp, gc, Nat.reduceAdd]
  exact hR _ _ _ _ _ _ _ _ _ _ _ _ _ _ _ _ _ _ _ _ _ _ _ _ _ _ _ _ _ _ _ _ _ _ _ _ _ _ _ _ _ _ _ _ _ _ _ _ _ _ _ hs
 | succ k ih =>
  intro j g0 g1 g2 g3 g4 g5 g6 g7 g8 g9 gM gF gG gB gC gA gE gH gI gD gL gN gK gJ gO gP gW gT gU gQ gR gS gV gX gY gf gg gZ gh gj gk gn gr gz hH hJ hU hY xA xB hk hj hs hR hR2
  have hlt : j < l.length := by omega
  have hlt7 : (j : Int) < 7 := by omega
  have hix := zwp hl hlt
  have h3 : IntKind.i64.wrap ((j : Int) + 1) = ((j + 1 : Nat) : Int) := by rw [wrap64 (by omega)]; omega
  rw [zR]
  refine zJ ?_
  conv => arg 2; whnf
  by_cases h : small l[j]
  ·have hc := fun {ops dst k T S F Q} => z0n (ops := ops) (dst := dst) (k := k) (T := T) (S := S) (F := F) (Q := Q) (n := l[j])
   rw [decide_eq_true h] at hc
   simp (maxSteps:=1000000) (disch:=first|assumption|omega|rfl) only [↓gp, gc, Nat.reduceAdd, hix, hc, zes, kJ, Bool.not_true, h3]
   refine ih (j + 1) _ _ _ _ _ _ _ _ _ _ _ _ _ _ _ _ _ _ _ _ _ _ _ _ _ _ _ _ _ _ _ _ _ _ _ _ _ _ _ _ _ _ _ _ _ _ _ _ _ _ (by omega) (by omega) ?_ hR hR2
   intro n hn
   rw [List.take_add_one, List.getElem?_eq_getElem hlt] at hn
   rcases List.mem_append.1 hn with hn | hn
   ·exact hs n hn
   ·simp only [Option.toList_some, List.mem_singleton] at hn; subst hn; exact h
  ·have hc := fun {ops dst k T S F Q} => z0n (ops := ops) (dst := dst) (k := k) (T := T) (S := S) (F := F) (Q := Q) (n := l[j])
   rw [decide_eq_false h] at hc
   simp (maxSteps:=1000000) (disch:=first|assumption|omega|rfl) only [↓gp, gc, Nat.reduceAdd, hix, hc, zes, kJ, Bool.not_false]
   exact hR2 _ (fun hh => h (hh _ (List.getElem_mem hlt))) rfl
theorem zi1 : Ev cfg 120 [zS zd4] (.ret (.d (.int .i64 0))) := ⟨1000, by kernel_rfl⟩
theorem zby (i : Ino) : Ev cfg 120 [zS i] (.ret (.d (.int .i64 (if MayI i then 0 else 1)))) := by
 by_cases hz : i = zd4
 ·subst hz
  rw [if_pos (by decide)]
  exact zi1
 refine jW rfl rfl zrt ?_
 show Wp cfg (Try.f120.body.getD .skip) ((.d (zS i)) :: uZ (uZ (uZ (uZ (uZ ((.tup []) :: [])))))) [] [] _
 unfold uZ
 conv => arg 2; whnf
 have hne := (ne61 (u := .d (zS i)) (i := i) (j := zd4) (v := z61V) (.inl rfl) (.inr rfl)).1
 have bad : ∀ (h : ¬ MayI i), (if MayI i then (0 : Int) else 1) = 1 := fun h => if_neg h
 by_cases h1 : i.kind < 0
 ·rw [bad (fun h => by have := h.1.1; omega)]
  simp (maxSteps:=1000000) (disch:=first|assumption|omega|rfl) only [↓gp, gc, Nat.reduceAdd, ftI, z4c, li_0]
  exact zO rfl rfl rfl
 by_cases h2 : i.kind > 2
 ·rw [bad (fun h => by have := h.1.2.1; omega)]
  simp (maxSteps:=1000000) (disch:=first|assumption|omega|rfl) only [↓gp, gc, Nat.reduceAdd, ftI, z4c, li_0]
  exact zO rfl rfl rfl
 by_cases h3 : i.kind = 0 ∧ i ≠ zd4
 ·rw [bad (fun h => h3.2 (h.1.2.2 h3.1))]
  rw [decide_eq_true h3.2] at hne
  have hk := h3.1
  have hde : ∀ i' : Decidable (i.kind = 0), @decide (i.kind = 0) i' = true := fun i' => decide_eq_true hk
  simp (maxSteps:=1000000) (disch:=first|assumption|omega|rfl) only [↓gp, gc, Nat.reduceAdd, ftI, z4c, li_0, hde, lrI, zqr, hne]
  exact zO rfl rfl rfl
 have hk0 : ¬ i.kind = 0 := fun hh => h3 ⟨hh, hz⟩
 have hde : ∀ i' : Decidable (i.kind = 0), @decide (i.kind = 0) i' = false := fun i' => decide_eq_false hk0
 have hc1 := fun {ops dst k T S F Q} => z0n (ops := ops) (dst := dst) (k := k) (T := T) (S := S) (F := F) (Q := Q) (n := i.links)
 have hc2 := fun {ops dst k T S F Q} => z0n (ops := ops) (dst := dst) (k := k) (T := T) (S := S) (F := F) (Q := Q) (n := i.parent)
 by_cases h4 : small i.links
 ·rw [decide_eq_true h4] at hc1
  by_cases h5 : small i.parent
  ·rw [decide_eq_true h5] at hc2
   by_cases h6 : i.size < 0
   ·rw [bad (fun h => by have := h.2.2.2.1; omega)]
    simp (maxSteps:=1000000) (disch:=first|assumption|omega|rfl) only [↓gp, gc, Nat.reduceAdd, ftI, z4c, za5, z9l, za6, li_0, li_1, li_2, li_3, hde, hc1, hc2, zes, kJ, Bool.not_true, zL]
    exact zO rfl rfl rfl
   ·by_cases h7 : i.size > 34304
    ·rw [bad (fun h => by have := h.2.2.2.2.1; omega)]
     simp (maxSteps:=1000000) (disch:=first|assumption|omega|rfl) only [↓gp, gc, Nat.reduceAdd, ftI, z4c, za5, z9l, za6, li_0, li_1, li_2, li_3, hde, hc1, hc2, zes, kJ, Bool.not_true, zL]
     exact zO rfl rfl rfl
    ·have hn := fun {ops dst k T S F Q} => zde (ops := ops) (dst := dst) (k := k) (T := T) (S := S) (F := F) (Q := Q) (i := i)
     simp (maxSteps:=1000000) (disch:=first|assumption|omega|rfl) only [↓gp, gc, Nat.reduceAdd, ftI, z4c, za5, z9l, za6, li_0, li_1, li_2, li_3, hde, hc1, hc2, zes, kJ, Bool.not_true, zL, lrI, hn, zw5]
     refine ztw _ (numI i) rfl _ 7 0 _ _ _ _ _ _ _ _ _ _ _ _ _ _ _ _ _ _ _ _ _ _ _ _ _ _ _ _ _ _ _ _ _ _ _ _ _ _ _ _ _ _ _ _ _ _ _ _ _ _ rfl (Nat.zero_le _) (by simp) ?_ ?_
     ·intro j' g0 g1 g2 g3 g4 g5 g6 g7 g8 g9 gM gF gG gB gC gA gE gH gI gD gL gN gK gJ gO gP gW gT gU gQ gR gS gV gX gY gf gg gZ gh gj gk gn gr gz hH hJ hU hY xA xB hs
      have hm : MayI i := ⟨⟨by omega, by omega, fun hh => absurd hh hk0⟩, h4, h5, by omega, by omega, hs⟩
      rw [if_pos hm]
      simp (maxSteps:=1000000) (disch:=first|assumption|omega|rfl) only [↓gp, gc, Nat.reduceAdd]
      exact zO rfl rfl rfl
     ·intro T hs hT
      rw [bad (fun h => hs h.2.2.2.2.2)]
      exact zO hT rfl rfl
  ·rw [decide_eq_false h5] at hc2
   rw [bad (fun h => h5 h.2.2.1)]
   simp (maxSteps:=1000000) (disch:=first|assumption|omega|rfl) only [↓gp, gc, Nat.reduceAdd, ftI, z4c, za5, z9l, za6, li_0, li_1, li_2, li_3, hde, hc1, hc2, zes, kJ, Bool.not_true, Bool.not_false, zL]
   exact zO rfl rfl rfl
 ·rw [decide_eq_false h4] at hc1
  rw [bad (fun h => h4 h.2.1)]
  simp (maxSteps:=1000000) (disch:=first|assumption|omega|rfl) only [↓gp, gc, Nat.reduceAdd, ftI, z4c, za5, z9l, za6, li_0, li_1, li_2, li_3, hde, hc1, hc2, zes, kJ, Bool.not_true, Bool.not_false, zL]
  exact zO rfl rfl rfl
def inoN (k l s p : Nat) (ns : List Nat) : Ino := ⟨k, l, s, p, ns.getD 0 0, ns.getD 1 0, ns.getD 2 0, ns.getD 3 0, ns.getD 4 0, ns.getD 5 0, ns.getD 6 0⟩
theorem zxt {k l s p : Nat} {ns : List Nat} : ∀ (j : Nat) (h : j < (numI (inoN k l s p ns)).length), (numI (inoN k l s p ns))[j] = ((ns.getD j 0 : Nat) : Int)
 | 0, _ => rfl
 | 1, _ => rfl
 | 2, _ => rfl
 | 3, _ => rfl
 | 4, _ => rfl
 | 5, _ => rfl
 | 6, _ => rfl
 | j + 7, h => absurd (show j + 7 < 7 from h) (by omega)
def z99 (k l s p : Nat) : List UInt8 := layB (layB (layB (layB (zC 256) 0 (leB 1 k)) 2 (leB 2 l)) 4 (leB 4 s)) 8 (leB 2 p)
def z7m (b : List UInt8) (ns : List Nat) (j : Nat) : List UInt8 := (List.range j).foldl (fun b k => layB b (10 + 2 * k) (leB 2 (ns.getD k 0))) b
theorem z5t {b : List UInt8} {ns : List Nat} {j : Nat} : z7m b ns (j + 1) = layB (z7m b ns j) (10 + 2 * j) (leB 2 (ns.getD j 0)) := by
 unfold z7m
 rw [List.range_succ, List.foldl_append]
 rfl
theorem zhh {b : List UInt8} {ns : List Nat} : z7m b ns 0 = b := rfl
theorem z16 {b : List UInt8} {ns : List Nat} (hb : b.length = 256) : ∀ j, j ≤ 7 → (z7m b ns j).length = 256
 | 0, _ => hb
 | j + 1, h => by rw [z5t, qU (by rw [z16 hb j (by omega), qK]; omega), z16 hb j (by omega)]
theorem z53 {k l s p : Nat} : (z99 k l s p).length = 256 := by
 unfold z99
 have h1 : (layB (zC 256) 0 (leB 1 k)).length = 256 := by rw [qU (by rw [qK, z256]; omega), z256]
 have h2 : (layB (layB (zC 256) 0 (leB 1 k)) 2 (leB 2 l)).length = 256 := by rw [qU (by rw [qK, h1]; omega), h1]
 have h3 : (layB (layB (layB (zC 256) 0 (leB 1 k)) 2 (leB 2 l)) 4 (leB 4 s)).length = 256 := by rw [qU (by rw [qK, h2]; omega), h2]
 rw [qU (by rw [qK, h3]; omega), h3]
def inoB (k l s p : Nat) (ns : List Nat) : List UInt8 := (z7m (z99 k l s p) ns 7).take 32
theorem zfg {k l s p : Nat} {ns : List Nat} : (inoB k l s p ns).length = 32 := by unfold inoB; rw [List.length_take, z16 z53 7 (by omega)]; omega
theorem zlt : zA Try.prog 107 = some ⟨(Try.f107.body.getD .skip), 55, #[.cell 2 158, .tmp 3]⟩ := by
 unfold zA
 rw [Try.func107]
 rfl
theorem zin (i : Ino) (hm : ¬ MayI i) : Ev cfg 107 [zS i] (.ret (.tup [.d (blkD (zC 32)), .d (.int .i64 1)])) := by
 refine jW rfl rfl zlt ?_
 show Wp cfg (Try.f107.body.getD .skip) ((.d (zS i)) :: uZ (uZ (uZ (uZ (uZ ((.tup []) :: (.tup []) :: (.tup []) :: (.tup []) :: [])))))) [] [] _
 unfold uZ
 conv => arg 2; whnf
 have hc : ∀ {ops dst k T S F Q}, WpR cfg ops dst k T S F Q (some (.enter 120 [.d (zS i)])) = WpL cfg ops k (putT T dst (.d (.int .i64 1))) S F Q := fun {ops dst k T S F Q} => qA (C := cfg) (ds := [zS i]) rfl (by have := zby i; rwa [if_neg hm] at this)
 have hld := bt158.load (v := blkV (zC 32)) isB_v z32l
 have hst := bt158.store (v := blkV (zC 32)) isB_v z32l (w := blkV (zC 32)) isB_v z32l
 simp (maxSteps:=1000000) (disch:=first|assumption|omega|rfl) only [↓gp, gc, Nat.reduceAdd, ftI, z158, zdn, lrI, hc, zur, hld, hst, zL]
 exact z0s rfl rfl ((zM rfl).trans hld) rfl rfl rfl isB_v.frz
theorem zvo (k0 l s p : Nat) (ns : List Nat) (x0 x1 x2 : Ob) (R : Post) : ∀ (k j : Nat) (u : V) (g0 g3 g5 g7 g8 g9 gM gF gG gB gC gA gE gH gI gD gL gN gK gJ gO gP gW gT gU gQ gR gS gV gf gg gZ gh gj gk gn gr gz hZ xC hH hJ hU hY xA xB xD xE xF : V), 7 - j = k → j ≤ 7 → IsB u (z7m (z99 k0 l s p) ns j) →
 (∀ u j' g0 g3 g5 g7 g8 g9 gM gF gG gB gC gA gE gH gI gD gL gN gK gJ gO gP gW gT gU gQ gR gS gV gf gg gZ gh gj gk gn gr gz hZ xC hH hJ hU hY xA xB xD xE xF, IsB u (z7m (z99 k0 l s p) ns 7) → R (.exit 0) (g0 :: (.ref 0 0 0) :: (.ref 1 0 0) :: g3 :: (.ref 2 0 0) :: g5 :: (.ref 3 0 0) :: g7 :: g8 :: g9 :: gM :: gF :: gG :: gB :: gC :: gA :: gE :: gH :: gI :: gD :: gL :: gN :: gK :: gJ :: gO :: gP :: gW :: gT :: gU :: gQ :: gR :: gS :: gV :: (.d (aggI (numI (inoN k0 l s p ns)))) :: j' :: gf :: gg :: gZ :: gh :: gj :: gk :: gn :: gr :: gz :: hZ :: xC :: hH :: hJ :: hU :: hY :: xA :: xB :: xD :: xE :: xF :: []) [x0, x1, x2, .row [u] 42] []) →
 Wp cfg (.loop (lpOf (Try.f107.body.getD .skip) 0)) (g0 :: (.ref 0 0 0) :: (.ref 1 0 0) :: g3 :: (.ref 2 0 0) :: g5 :: (.ref 3 0 0) :: g7 :: g8 :: g9 :: gM :: gF :: gG :: gB :: gC :: gA :: gE :: gH :: gI :: gD :: gL :: gN :: gK :: gJ :: gO :: gP :: gW :: gT :: gU :: gQ :: gR :: gS :: gV :: (.d (aggI (numI (inoN k0 l s p ns)))) :: (.d (.int .i64 (j : Int))) :: gf :: gg :: gZ :: gh :: gj :: gk :: gn :: gr :: gz :: hZ :: xC :: hH :: hJ :: hU :: hY :: xA :: xB :: xD :: xE :: xF :: []) [x0, x1, x2, .row [u] 42] [] R := by
 intro k
 induction k with
 | zero =>
  intro j u g0 g3 g5 g7 g8 g9 gM gF gG gB gC gA gE gH gI gD gL gN gK gJ gO gP gW gT gU gQ gR gS gV gf gg gZ gh gj gk gn gr gz hZ xC hH hJ hU hY xA xB xD xE xF hk hj hu hR
  have hje : j = 7 := by omega
  subst hje
  have h7 : ¬ ((7 : Nat) : Int) < 7 := by omega
  rw [zR]
  refine zJ ?_
  conv => arg 2; whnf
  simp (maxSteps:=1000000) (disch:=first|assumption|omega|rfl) only [↓gp, gc, Nat.reduceAdd]
  exact hR _ _ _ _ _ _ _ _ _ _ _ _ _ _ _ _ _ _ _ _ _ _ _ _ _ _ _ _ _ _ _ _ _ _ _ _ _ _ _ _ _ _ _ _ _ _ _ _ _ _ _ hu
 | succ k ih =>
  intro j u g0 g3 g5 g7 g8 g9 gM gF gG gB gC gA gE gH gI gD gL gN gK gJ gO gP gW gT gU gQ gR gS gV gf gg gZ gh gj gk gn gr gz hZ xC hH hJ hU hY xA xB xD xE xF hk hj hu hR
  have hlt : j < 7 := by omega
  have hlt7 : (j : Int) < 7 := by omega
  have hnl : (numI (inoN k0 l s p ns)).length = 7 := rfl
  have hix := zwp (l := numI (inoN k0 l s p ns)) hnl (j := j) (by rw [hnl]; exact hlt)
  rw [zxt] at hix
  have hl := z16 (ns := ns) (z53 (k := k0) (l := l) (s := s) (p := p)) j (by omega)
  have hl2 := z16 (ns := ns) (z53 (k := k0) (l := l) (s := s) (p := p)) (j + 1) (by omega)
  rw [z5t] at hl2
  have h1 : IntKind.i64.wrap (2 * (j : Int)) = ((2 * j : Nat) : Int) := by rw [wrap64 (by omega)]; omega
  have h2 : IntKind.i64.wrap (10 + ((2 * j : Nat) : Int)) = ((10 + 2 * j : Nat) : Int) := by rw [wrap64 (by omega)]; omega
  have h3 : IntKind.i64.wrap ((j : Int) + 1) = ((j + 1 : Nat) : Int) := by rw [wrap64 (by omega)]; omega
  have hc := fun {ops dst k T S F Q} => vQ (ops := ops) (dst := dst) (k := k) (T := T) (S := S) (F := F) (Q := Q) hu hl (k0 := 10 + 2 * j) (w := 2) (v := ns.getD j 0) (by omega) (by omega) (by omega)
  simp only [nl2] at hc
  have hld := bt42.load hu hl
  have hst := bt42.store (v := .d (blkD (layB (z7m (z99 k0 l s p) ns j) (10 + 2 * j) (leB 2 (ns.getD j 0))))) jL hl2 hu hl
  have hu1 := hu.one
  rw [zR]
  refine zJ ?_
  conv => arg 2; whnf
  simp (maxSteps:=1000000) (disch:=first|assumption|omega|rfl) only [↓gp, gc, Nat.reduceAdd, hix, hld, h1, h2, h3, hu1, hc, bo87, hst]
  exact ih (j + 1) _ _ _ _ _ _ _ _ _ _ _ _ _ _ _ _ _ _ _ _ _ _ _ _ _ _ _ _ _ _ _ _ _ _ _ _ _ _ _ _ _ _ _ _ _ _ _ _ _ _ (by omega) (by omega) (by rw [z5t]; exact jL) hR
theorem zyg (b : List UInt8) (hb : b.length = 256) (x0 x1 : Ob) (u : V) (hu : IsB u b) (R : Post) : ∀ (k j : Nat) (v : V) (g0 g1 g3 g5 g7 g8 g9 gM gF gG gB gC gA gE gH gI gD gL gN gK gJ gO gP gW gT gU gQ gR gS gV gX gY gf gg gZ gh gj gk gn gr gz hZ hH hJ hU hY xA xB xD xE xF : V), 32 - j = k → j ≤ 32 → IsB v (wF (b.take 32) j) →
 (∀ v j' g0 g1 g3 g5 g7 g8 g9 gM gF gG gB gC gA gE gH gI gD gL gN gK gJ gO gP gW gT gU gQ gR gS gV gX gY gf gg gZ gh gj gk gn gr gz hZ hH hJ hU hY xA xB xD xE xF, IsB v (b.take 32) → R (.exit 2) (g0 :: g1 :: (.ref 1 0 0) :: g3 :: (.ref 2 0 0) :: g5 :: (.ref 3 0 0) :: g7 :: g8 :: g9 :: gM :: gF :: gG :: gB :: gC :: gA :: gE :: gH :: gI :: gD :: gL :: gN :: gK :: gJ :: gO :: gP :: gW :: gT :: gU :: gQ :: gR :: gS :: gV :: gX :: gY :: gf :: gg :: gZ :: gh :: gj :: gk :: gn :: gr :: gz :: hZ :: j' :: hH :: hJ :: hU :: hY :: xA :: xB :: xD :: xE :: xF :: []) [x0, x1, .row [v] 158, .row [u] 42] []) →
 Wp cfg (.loop (lpOf (Try.f107.body.getD .skip) 2)) (g0 :: g1 :: (.ref 1 0 0) :: g3 :: (.ref 2 0 0) :: g5 :: (.ref 3 0 0) :: g7 :: g8 :: g9 :: gM :: gF :: gG :: gB :: gC :: gA :: gE :: gH :: gI :: gD :: gL :: gN :: gK :: gJ :: gO :: gP :: gW :: gT :: gU :: gQ :: gR :: gS :: gV :: gX :: gY :: gf :: gg :: gZ :: gh :: gj :: gk :: gn :: gr :: gz :: hZ :: (.d (.int .i64 (j : Int))) :: hH :: hJ :: hU :: hY :: xA :: xB :: xD :: xE :: xF :: []) [x0, x1, .row [v] 158, .row [u] 42] [] R := by
 intro k
 have htl : (b.take 32).length = 32 := by rw [List.length_take]; omega
 induction k with
 | zero =>
  intro j v g0 g1 g3 g5 g7 g8 g9 gM gF gG gB gC gA gE gH gI gD gL gN gK gJ gO gP gW gT gU gQ gR gS gV gX gY gf gg gZ gh gj gk gn gr gz hZ hH hJ hU hY xA xB xD xE xF hk hj hv hR
  have hje : j = 32 := by omega
  subst hje
  have e : wF (b.take 32) 32 = b.take 32 := by
   have : wF (b.take 32) (b.take 32).length = b.take 32 := by unfold wF zC; rw [List.take_length, Nat.sub_self]; simp
   rw [htl] at this; exact this
  rw [e] at hv
  have h7 : ¬ ((32 : Nat) : Int) < 32 := by omega
  rw [zR]
  refine zJ ?_
  conv => arg 2; whnf
  simp (maxSteps:=1000000) (disch:=first|assumption|omega|rfl) only [↓gp, gc, Nat.reduceAdd]
  exact hR _ _ _ _ _ _ _ _ _ _ _ _ _ _ _ _ _ _ _ _ _ _ _ _ _ _ _ _ _ _ _ _ _ _ _ _ _ _ _ _ _ _ _ _ _ _ _ _ _ _ _ _ _ hv
 | succ k ih =>
  intro j v g0 g1 g3 g5 g7 g8 g9 gM gF gG gB gC gA gE gH gI gD gL gN gK gJ gO gP gW gT gU gQ gR gS gV gX gY gf gg gZ gh gj gk gn gr gz hZ hH hJ hU hY xA xB xD xE xF hk hj hv hR
  have hlt : j < 32 := by omega
  have hlt7 : (j : Int) < 32 := by omega
  have hfl := z4z (t := b.take 32) (i := j) (by omega)
  have h3 : IntKind.i64.wrap ((j : Int) + 1) = ((j + 1 : Nat) : Int) := by rw [wrap64 (by omega)]; omega
  have hia := fun S j' x => ia42 (S := S) (j := j') (x := x) (i := j) (by omega)
  have hia2 := fun S j' x => zvf (S := S) (j := j') (x := x) (i := j) hlt
  have hg := bt42.get hu hb (i := j) (by omega)
  have he : b[j] = (b.take 32)[j]'(by omega) := by rw [List.getElem_take]
  rw [he] at hg
  have hpt := bt158.put hv (hfl.trans htl) (i := j) (by omega) (x := (b.take 32)[j]'(by omega))
  rw [z5b (by omega)] at hpt
  rw [zR]
  refine zJ ?_
  conv => arg 2; whnf
  simp (maxSteps:=1000000) (disch:=first|assumption|omega|rfl) only [↓gp, gc, Nat.reduceAdd, h3, hia, hia2, hg, hpt]
  exact ih (j + 1) _ _ _ _ _ _ _ _ _ _ _ _ _ _ _ _ _ _ _ _ _ _ _ _ _ _ _ _ _ _ _ _ _ _ _ _ _ _ _ _ _ _ _ _ _ _ _ _ _ _ _ _ (by omega) (by omega) isB_v hR
theorem zwx (k0 l s p : Nat) (ns : List Nat) (hm : MayI (inoN k0 l s p ns)) : Ev cfg 107 [zS (inoN k0 l s p ns)] (.ret (.tup [.d (blkD (inoB k0 l s p ns)), .d (.int .i64 0)])) := by
 refine jW rfl rfl zlt ?_
 show Wp cfg (Try.f107.body.getD .skip) ((.d (zS (inoN k0 l s p ns))) :: uZ (uZ (uZ (uZ (uZ ((.tup []) :: (.tup []) :: (.tup []) :: (.tup []) :: [])))))) [] [] _
 unfold uZ
 conv => arg 2; whnf
 have hc : ∀ {ops dst k T S F Q}, WpR cfg ops dst k T S F Q (some (.enter 120 [.d (zS (inoN k0 l s p ns))])) = WpL cfg ops k (putT T dst (.d (.int .i64 0))) S F Q := fun {ops dst k T S F Q} => qA (C := cfg) (ds := [zS (inoN k0 l s p ns)]) rfl (by have := zby (inoN k0 l s p ns); rwa [if_pos hm] at this)
 have l0 := z256
 have w1 := fun {ops dst k T S F Q} => vQ (ops := ops) (dst := dst) (k := k) (T := T) (S := S) (F := F) (Q := Q) (u := blkV (zC 256)) isB_v z256 (k0 := 0) (w := 1) (v := k0) (by omega) (by omega) (by omega)
 have l1 : (layB (zC 256) 0 (leB 1 k0)).length = 256 := by rw [qU (by rw [qK, z256]; omega), z256]
 have w2 := fun {ops dst k T S F Q} => vQ (ops := ops) (dst := dst) (k := k) (T := T) (S := S) (F := F) (Q := Q) (u := .d (blkD _)) jL l1 (k0 := 2) (w := 2) (v := l) (by omega) (by omega) (by omega)
 have l2 : (layB (layB (zC 256) 0 (leB 1 k0)) 2 (leB 2 l)).length = 256 := by rw [qU (by rw [qK, l1]; omega), l1]
 have w3 := fun {ops dst k T S F Q} => vQ (ops := ops) (dst := dst) (k := k) (T := T) (S := S) (F := F) (Q := Q) (u := .d (blkD _)) jL l2 (k0 := 4) (w := 4) (v := s) (by omega) (by omega) (by omega)
 have l3 : (layB (layB (layB (zC 256) 0 (leB 1 k0)) 2 (leB 2 l)) 4 (leB 4 s)).length = 256 := by rw [qU (by rw [qK, l2]; omega), l2]
 have w4 := fun {ops dst k T S F Q} => vQ (ops := ops) (dst := dst) (k := k) (T := T) (S := S) (F := F) (Q := Q) (u := .d (blkD _)) jL l3 (k0 := 8) (w := 2) (v := p) (by omega) (by omega) (by omega)
 simp only [nl0, nl1, nl2, nl4, nl8] at w1 w2 w3 w4
 have e4 : layB (layB (layB (layB (zC 256) 0 (leB 1 k0)) 2 (leB 2 l)) 4 (leB 4 s)) 8 (leB 2 p) = z99 k0 l s p := by unfold z99; rfl
 simp only [e4] at w4
 have l4 := z53 (k := k0) (l := l) (s := s) (p := p)
 have q0 : qL Try.prog 3 0 (some (.d (zS (inoN k0 l s p ns)))) = some (.d (.int .i64 (k0 : Int))) := li_0
 have q1 : qL Try.prog 3 1 (some (.d (zS (inoN k0 l s p ns)))) = some (.d (.int .i64 (l : Int))) := li_1
 have q2 : qL Try.prog 3 2 (some (.d (zS (inoN k0 l s p ns)))) = some (.d (.int .i64 (s : Int))) := li_2
 have q3 : qL Try.prog 3 3 (some (.d (zS (inoN k0 l s p ns)))) = some (.d (.int .i64 (p : Int))) := li_3
 have hn := fun {ops dst k T S F Q} => zde (ops := ops) (dst := dst) (k := k) (T := T) (S := S) (F := F) (Q := Q) (i := inoN k0 l s p ns)
 simp (maxSteps:=1000000) (disch:=first|assumption|omega|rfl) only [↓gp, gc, Nat.reduceAdd, ftI, z158, zdn, lrI, hc, zur, z42, zf42, z4c, za5, z9l, za6, q0, q1, q2, q3, zam, z04, z7y, ztz, zll, w1, w2, w3, w4, bo87, hn, zw5]
 refine zvo k0 l s p ns _ _ _ _ 7 0 _ _ _ _ _ _ _ _ _ _ _ _ _ _ _ _ _ _ _ _ _ _ _ _ _ _ _ _ _ _ _ _ _ _ _ _ _ _ _ _ _ _ _ _ _ _ _ _ _ _ rfl (by omega) (by rw [zhh]; exact jL) ?_
 intro u j' g0 g3 g5 g7 g8 g9 gM gF gG gB gC gA gE gH gI gD gL gN gK gJ gO gP gW gT gU gQ gR gS gV gf gg gZ gh gj gk gn gr gz hZ xC hH hJ hU hY xA xB xD xE xF hu
 simp (maxSteps:=1000000) (disch:=first|assumption|omega|rfl) only [↓gp, gc, Nat.reduceAdd]
 have hbl := z16 (ns := ns) (z53 (k := k0) (l := l) (s := s) (p := p)) 7 (by omega)
 have hvl : ((z7m (z99 k0 l s p) ns 7).take 32).length = 32 := by rw [List.length_take, hbl]; rfl
 unfold inoB
 generalize z7m (z99 k0 l s p) ns 7 = b7 at *
 have e0 : wF (b7.take 32) 0 = zC 32 := by unfold wF; rw [hvl, List.take_zero, List.nil_append]
 refine zyg b7 hbl _ _ u hu _ 32 0 (blkV (zC 32)) _ _ _ _ _ _ _ _ _ _ _ _ _ _ _ _ _ _ _ _ _ _ _ _ _ _ _ _ _ _ _ _ _ _ _ _ _ _ _ _ _ _ _ _ _ _ _ _ _ _ _ rfl (by omega) (by rw [e0]; exact isB_v) ?_
 intro v j2 g0 g1 g3 g5 g7 g8 g9 gM gF gG gB gC gA gE gH gI gD gL gN gK gJ gO gP gW gT gU gQ gR gS gV gX gY gf gg gZ gh gj gk gn gr gz hZ hH hJ hU hY xA xB xD xE xF hv
 have hld := bt158.load hv hvl
 have hst := bt158.store hv hvl (w := blkV (zC 32)) isB_v z32l
 simp (maxSteps:=1000000) (disch:=first|assumption|omega|rfl) only [↓gp, gc, Nat.reduceAdd, hld, hst]
 exact z0s rfl rfl ((zM rfl).trans hld) rfl hv.one rfl hv.frz
def fld (x : List UInt8) (k w : Nat) : Nat := leN ((x.drop k).take w)
def getX (x : List UInt8) : Ino := inoN (fld x 0 1) (fld x 2 2) (fld x 4 4) (fld x 8 2) [fld x 10 2, fld x 12 2, fld x 14 2, fld x 16 2, fld x 18 2, fld x 20 2, fld x 22 2]
def getI (b : List UInt8) : Ino := getX (layB (zC 256) 0 b)
theorem sI4 {x0 x1 x2 x3 x4 x5 x6 x7 x8 x9 x10 : V} {n : Int} : qI Try.prog 3 4 (.d (.int .i64 n)) (.agg [x0, x1, x2, x3, x4, x5, x6, x7, x8, x9, x10]) = some (.agg [x0, x1, x2, x3, .d (.int .i64 n), x5, x6, x7, x8, x9, x10]) := by kernel_rfl
theorem sI5 {x0 x1 x2 x3 x4 x5 x6 x7 x8 x9 x10 : V} {n : Int} : qI Try.prog 3 5 (.d (.int .i64 n)) (.agg [x0, x1, x2, x3, x4, x5, x6, x7, x8, x9, x10]) = some (.agg [x0, x1, x2, x3, x4, .d (.int .i64 n), x6, x7, x8, x9, x10]) := by kernel_rfl
theorem sI6 {x0 x1 x2 x3 x4 x5 x6 x7 x8 x9 x10 : V} {n : Int} : qI Try.prog 3 6 (.d (.int .i64 n)) (.agg [x0, x1, x2, x3, x4, x5, x6, x7, x8, x9, x10]) = some (.agg [x0, x1, x2, x3, x4, x5, .d (.int .i64 n), x7, x8, x9, x10]) := by kernel_rfl
theorem sI7 {x0 x1 x2 x3 x4 x5 x6 x7 x8 x9 x10 : V} {n : Int} : qI Try.prog 3 7 (.d (.int .i64 n)) (.agg [x0, x1, x2, x3, x4, x5, x6, x7, x8, x9, x10]) = some (.agg [x0, x1, x2, x3, x4, x5, x6, .d (.int .i64 n), x8, x9, x10]) := by kernel_rfl
theorem sI8 {x0 x1 x2 x3 x4 x5 x6 x7 x8 x9 x10 : V} {n : Int} : qI Try.prog 3 8 (.d (.int .i64 n)) (.agg [x0, x1, x2, x3, x4, x5, x6, x7, x8, x9, x10]) = some (.agg [x0, x1, x2, x3, x4, x5, x6, x7, .d (.int .i64 n), x9, x10]) := by kernel_rfl
theorem sI9 {x0 x1 x2 x3 x4 x5 x6 x7 x8 x9 x10 : V} {n : Int} : qI Try.prog 3 9 (.d (.int .i64 n)) (.agg [x0, x1, x2, x3, x4, x5, x6, x7, x8, x9, x10]) = some (.agg [x0, x1, x2, x3, x4, x5, x6, x7, x8, .d (.int .i64 n), x10]) := by kernel_rfl
theorem sI10 {x0 x1 x2 x3 x4 x5 x6 x7 x8 x9 x10 : V} {n : Int} : qI Try.prog 3 10 (.d (.int .i64 n)) (.agg [x0, x1, x2, x3, x4, x5, x6, x7, x8, x9, x10]) = some (.agg [x0, x1, x2, x3, x4, x5, x6, x7, x8, x9, .d (.int .i64 n)]) := by kernel_rfl
theorem lI {x0 x1 x2 x3 x4 x5 x6 x7 x8 x9 x10 : V} : qL Try.prog 61 0 (some (.agg [x0, x1, x2, x3, x4, x5, x6, x7, x8, x9, x10])) = some (.agg [x0, x1, x2, x3, x4, x5, x6, x7, x8, x9, x10]) := by kernel_rfl
theorem sI0 {x0 x1 x2 x3 x4 x5 x6 x7 x8 x9 x10 y0 y1 y2 y3 y4 y5 y6 y7 y8 y9 y10 : V} : qI Try.prog 61 0 (.agg [x0, x1, x2, x3, x4, x5, x6, x7, x8, x9, x10]) (.agg [y0, y1, y2, y3, y4, y5, y6, y7, y8, y9, y10]) = some (.agg [x0, x1, x2, x3, x4, x5, x6, x7, x8, x9, x10]) := by kernel_rfl
theorem wa0 : (10 + 2 * 0 : Int) = 10 := by decide
theorem wi0 : (0 + 1 : Int) = 1 := by decide
theorem wa1 : (10 + 2 * 1 : Int) = 12 := by decide
theorem wi1 : (1 + 1 : Int) = 2 := by decide
theorem wa2 : (10 + 2 * 2 : Int) = 14 := by decide
theorem wi2 : (2 + 1 : Int) = 3 := by decide
theorem wa3 : (10 + 2 * 3 : Int) = 16 := by decide
theorem wi3 : (3 + 1 : Int) = 4 := by decide
theorem wa4 : (10 + 2 * 4 : Int) = 18 := by decide
theorem wi4 : (4 + 1 : Int) = 5 := by decide
theorem wa5 : (10 + 2 * 5 : Int) = 20 := by decide
theorem wi5 : (5 + 1 : Int) = 6 := by decide
theorem nl14 : ((14 : Nat) : Int) = 14 := rfl
theorem nl18 : ((18 : Nat) : Int) = 18 := rfl
theorem nl22 : ((22 : Nat) : Int) = 22 := rfl
theorem z3z {ops : Array Oper} {dst : Option Tmp} {k : List Oper} {T : List V} {S : Store} {F : Dfs} {Q : Post} {b : List UInt8} (hb : b.length = 256) {k0 w : Nat} (hk0 : k0 + w ≤ 256) (hw1 : 1 ≤ w) (hw4 : w ≤ 4) : WpR cfg ops dst k T S F Q (some (.enter 98 [.d (blkD b), .d (.int .i64 (k0 : Int)), .d (.int .i64 (w : Int))])) = WpL cfg ops k (putT T dst (.d (.int .i64 (leN ((b.drop k0).take w) : Int)))) S F Q :=
 qA (ds := [blkD b, .int .i64 (k0 : Int), .int .i64 (w : Int)]) rfl (zwh b hb k0 w hk0 hw1 hw4)
theorem zzi {a b c d : Int} : wP Try.prog 61 [(0, .d (.int .i64 a)), (1, .d (.int .i64 b)), (2, .d (.int .i64 c)), (3, .d (.int .i64 d))] = some (.agg [.d (.int .i64 a), .d (.int .i64 b), .d (.int .i64 c), .d (.int .i64 d), .d (.int .i64 0), .d (.int .i64 0), .d (.int .i64 0), .d (.int .i64 0), .d (.int .i64 0), .d (.int .i64 0), .d (.int .i64 0)]) := by kernel_rfl
theorem ia59 {S : Store} {j x y : Nat} {i : Nat} (hi : i < 6) : zE Try.prog S 59 (.ref j x y) (.d (.int .i64 (i : Int))) = some (.ref j x (y + i)) := by
 have hu : Try.prog.underlying 59 = some (.array 6 3) := by kernel_rfl
 have hs : sz Try.prog 3 = some 1 := by kernel_rfl
 simp only [zE, intOf?, hu, hs]
 rw [if_pos ⟨by omega, by omega⟩]
 simp
theorem z6x {S : Store} {j x y : Nat} : zE Try.prog S 59 (.ref j x y) (.d (.int .i64 0)) = some (.ref j x (y + 0)) := ia59 (i := 0) (by omega)
theorem z6t {S : Store} {j x y : Nat} : zE Try.prog S 59 (.ref j x y) (.d (.int .i64 1)) = some (.ref j x (y + 1)) := ia59 (i := 1) (by omega)
theorem z6y {S : Store} {j x y : Nat} : zE Try.prog S 59 (.ref j x y) (.d (.int .i64 2)) = some (.ref j x (y + 2)) := ia59 (i := 2) (by omega)
theorem z68 {S : Store} {j x y : Nat} : zE Try.prog S 59 (.ref j x y) (.d (.int .i64 3)) = some (.ref j x (y + 3)) := ia59 (i := 3) (by omega)
theorem z6l {S : Store} {j x y : Nat} : zE Try.prog S 59 (.ref j x y) (.d (.int .i64 4)) = some (.ref j x (y + 4)) := ia59 (i := 4) (by omega)
theorem z6f {S : Store} {j x y : Nat} : zE Try.prog S 59 (.ref j x y) (.d (.int .i64 5)) = some (.ref j x (y + 5)) := ia59 (i := 5) (by omega)
theorem zt3 {S : Store} {a : Nat} {u : V} {b : List UInt8} (ha : S[a]? = some (.row [u] 158)) (hu : IsB u b) (hl : b.length = 32) : Go.Vm.frz S zH (.cs a 0 0 32) = some (encB b) := by
 show (match S[a]? with
  | some (.row xs e) => match xs[0]? with
   | some x => if x.isAgg && 0 + 32 ≤ x.cells.length && (allO (Go.Vm.frz S 11) xs).isSome then (allO z1z ((x.cells.drop 0).take 32)).map D.sl else none
   | none => none
  | some (.fz xs e) => match xs[0]? with
   | some x => if x.isAgg && 0 + 32 ≤ x.cells.length then some (D.sl ((x.cells.drop 0).take 32)) else none
   | none => none
  | _ => none) = _
 have ht : ((b.map fun x => V.d (byD x)).drop 0).take 32 = b.map fun x => V.d (byD x) := by rw [List.drop_zero, List.take_of_length_le (by simp; omega)]
 have h1 : allO (Go.Vm.frz S 11) [u] = some [blkD b] := by simp only [allO, hu.frz (n := 9)]
 have h2 : allO z1z (b.map fun x => V.d (byD x)) = some (b.map byD) := by
  clear ht h1 hu hl
  induction b with
  | nil => rfl
  | cons x r ih =>
   have h : z1z (.d (byD x)) = some (byD x) := rfl
   simp only [List.map_cons, allO, h, ih]
 simp only [ha, List.getElem?_cons_zero, hu.isAgg, hu.cells, List.length_map, hl, h1, Option.isSome_some, ht, h2, Bool.and_self, Option.map_some, Nat.zero_add, Nat.le_refl, decide_true, if_true]
 rfl
theorem zrr : zA Try.prog 125 = some ⟨(Try.f125.body.getD .skip), 33, #[.cell 2 61]⟩ := by
 unfold zA
 rw [Try.func125]
 rfl
theorem zsl : (zA Try.prog 125).isSome = true := by kernel_rfl
theorem z61' : zeroV Try.prog 61 = some z61V := z61
theorem zug (b : List UInt8) (hb : b.length = 32) : Ev cfg 125 [blkD b] (.ret (.d (zS (getI b)))) := by
 refine jW rfl rfl zrr ?_
 show Wp cfg (Try.f125.body.getD .skip) ((.d (blkD b)) :: uZ (uZ (uZ ((.tup []) :: (.tup []) :: [])))) [] [] _
 unfold uZ
 conv => arg 2; whnf
 have hf : zZ Try.prog 158 (.d (blkD b)) = true := bt158.fits jL hb
 have hx : (layB (zC 256) 0 b).length = 256 := by rw [qU (by rw [z256]; omega), z256]
 have hsl : ∀ l : Store, wD Try.prog (.row [.d (blkD b)] 158 :: l) 158 (.ref 0 0 0) Option.none Option.none = some (.cs 0 0 0 32) := fun l => zvd rfl
 have hof : ∀ {ops dst k T F Q} (l : Store), WpR cfg ops dst k T (.row [.d (blkD b)] 158 :: l) F Q (some (.enter 86 [.cs 0 0 0 32])) = WpL cfg ops k (putT T dst (.d (blkD (layB (zC 256) 0 b)))) (.row [.d (blkD b)] 158 :: l) F Q := fun {ops dst k T F Q} l => zcd (C := cfg) (ds := [encB b]) rfl (by simp only [allO, zt3 (S := .row [.d (blkD b)] 158 :: l) (a := 0) rfl jL hb]) (by
   show D.plain (blkD _) = true
   simp only [D.plain, blkD, List.all_eq_true, List.mem_map]
   rintro _ ⟨x, _, rfl⟩
   rfl) (zu6 b (by omega))
 have hcs1 : (V.cs 0 0 0 32).one = true := rfl
 have l0 := z256
 simp (maxSteps:=1000000) (disch:=first|assumption|omega|rfl) only [↓gp, gc, Nat.reduceAdd, hf, z61', zf61, z76, Option.map_none, hsl, hcs1, hof, bo86, z42, zf42, z7y]
 have d1 := fun {ops F Q K rd cs i dst T S} => zhq (ops := ops) (F := F) (Q := Q) (K := K) (rd := rd) (cs := cs) (i := i) (dst := dst) (T := T) (S := S) hx (k0 := 0) (w := 1) (by omega) (by omega) (by omega)
 have d2 := fun {ops F Q K rd cs i dst T S} => zhq (ops := ops) (F := F) (Q := Q) (K := K) (rd := rd) (cs := cs) (i := i) (dst := dst) (T := T) (S := S) hx (k0 := 2) (w := 2) (by omega) (by omega) (by omega)
 have d3 := fun {ops F Q K rd cs i dst T S} => zhq (ops := ops) (F := F) (Q := Q) (K := K) (rd := rd) (cs := cs) (i := i) (dst := dst) (T := T) (S := S) hx (k0 := 4) (w := 4) (by omega) (by omega) (by omega)
 have d4 := fun {ops F Q K rd cs i dst T S} => zhq (ops := ops) (F := F) (Q := Q) (K := K) (rd := rd) (cs := cs) (i := i) (dst := dst) (T := T) (S := S) hx (k0 := 8) (w := 2) (by omega) (by omega) (by omega)
 simp only [nl0, nl1, nl2, nl4, nl8] at d1 d2 d3 d4
 unfold getI
 generalize layB (zC 256) 0 b = x at *
 refine kH (is := [0, 2, 4, 6, 1, 3, 5, 7, 8, 9, 10]) (h := 11) (by kernel_rfl) (by kernel_rfl) ?_
 simp (maxSteps:=1000000) (disch:=first|assumption|omega|rfl) only [List.replicate_zero, eq_self, gd, ga, Nat.reduceAdd, ↓gq, vso, d1, d2, d3, d4, bo98, z04, zzi, zay z61 zf61, z8x, true_and, sI0]
 refine ⟨fun _ => by kernel_rfl, ?_⟩
 refine ⟨by kernel_rfl, ?_⟩
 have a0 := fun {ops dst k T S F Q} => z3z (ops := ops) (dst := dst) (k := k) (T := T) (S := S) (F := F) (Q := Q) hx (k0 := 10) (w := 2) (by omega) (by omega) (by omega)
 have a1 := fun {ops dst k T S F Q} => z3z (ops := ops) (dst := dst) (k := k) (T := T) (S := S) (F := F) (Q := Q) hx (k0 := 12) (w := 2) (by omega) (by omega) (by omega)
 have a2 := fun {ops dst k T S F Q} => z3z (ops := ops) (dst := dst) (k := k) (T := T) (S := S) (F := F) (Q := Q) hx (k0 := 14) (w := 2) (by omega) (by omega) (by omega)
 have a3 := fun {ops dst k T S F Q} => z3z (ops := ops) (dst := dst) (k := k) (T := T) (S := S) (F := F) (Q := Q) hx (k0 := 16) (w := 2) (by omega) (by omega) (by omega)
 have a4 := fun {ops dst k T S F Q} => z3z (ops := ops) (dst := dst) (k := k) (T := T) (S := S) (F := F) (Q := Q) hx (k0 := 18) (w := 2) (by omega) (by omega) (by omega)
 have a5 := fun {ops dst k T S F Q} => z3z (ops := ops) (dst := dst) (k := k) (T := T) (S := S) (F := F) (Q := Q) hx (k0 := 20) (w := 2) (by omega) (by omega) (by omega)
 have a6 := fun {ops dst k T S F Q} => z3z (ops := ops) (dst := dst) (k := k) (T := T) (S := S) (F := F) (Q := Q) hx (k0 := 22) (w := 2) (by omega) (by omega) (by omega)
 simp only [nl2, nl10, nl12, nl14, nl16, nl18, nl20, nl22] at a0 a1 a2 a3 a4 a5 a6
 simp (maxSteps:=1000000) (disch:=first|assumption|omega|rfl) only [↓gp, gc, Nat.reduceAdd, z04, wa0, wa1, wa2, wa3, wa4, wa5, wi0, wi1, wi2, wi3, wi4, wi5, a0, a1, a2, a3, a4, a5, a6, bo98, z67, z6i, z6x, z6t, z6y, z68, z6l, z6f, sI4, sI5, sI6, sI7, sI8, sI9, sI10, lI, sI0]
 rw [zR]
 refine zJ ?_
 conv => arg 2; whnf
 simp (maxSteps:=1000000) (disch:=first|assumption|omega|rfl) only [↓gp, gc, Nat.reduceAdd, z04, wa0, wa1, wa2, wa3, wa4, wa5, wi0, wi1, wi2, wi3, wi4, wi5, a0, a1, a2, a3, a4, a5, a6, bo98, z67, z6i, z6x, z6t, z6y, z68, z6l, z6f, sI4, sI5, sI6, sI7, sI8, sI9, sI10, lI, sI0]
 rw [zR]
 refine zJ ?_
 conv => arg 2; whnf
 simp (maxSteps:=1000000) (disch:=first|assumption|omega|rfl) only [↓gp, gc, Nat.reduceAdd, z04, wa0, wa1, wa2, wa3, wa4, wa5, wi0, wi1, wi2, wi3, wi4, wi5, a0, a1, a2, a3, a4, a5, a6, bo98, z67, z6i, z6x, z6t, z6y, z68, z6l, z6f, sI4, sI5, sI6, sI7, sI8, sI9, sI10, lI, sI0]
 rw [zR]
 refine zJ ?_
 conv => arg 2; whnf
 simp (maxSteps:=1000000) (disch:=first|assumption|omega|rfl) only [↓gp, gc, Nat.reduceAdd, z04, wa0, wa1, wa2, wa3, wa4, wa5, wi0, wi1, wi2, wi3, wi4, wi5, a0, a1, a2, a3, a4, a5, a6, bo98, z67, z6i, z6x, z6t, z6y, z68, z6l, z6f, sI4, sI5, sI6, sI7, sI8, sI9, sI10, lI, sI0]
 rw [zR]
 refine zJ ?_
 conv => arg 2; whnf
 simp (maxSteps:=1000000) (disch:=first|assumption|omega|rfl) only [↓gp, gc, Nat.reduceAdd, z04, wa0, wa1, wa2, wa3, wa4, wa5, wi0, wi1, wi2, wi3, wi4, wi5, a0, a1, a2, a3, a4, a5, a6, bo98, z67, z6i, z6x, z6t, z6y, z68, z6l, z6f, sI4, sI5, sI6, sI7, sI8, sI9, sI10, lI, sI0]
 rw [zR]
 refine zJ ?_
 conv => arg 2; whnf
 simp (maxSteps:=1000000) (disch:=first|assumption|omega|rfl) only [↓gp, gc, Nat.reduceAdd, z04, wa0, wa1, wa2, wa3, wa4, wa5, wi0, wi1, wi2, wi3, wi4, wi5, a0, a1, a2, a3, a4, a5, a6, bo98, z67, z6i, z6x, z6t, z6y, z68, z6l, z6f, sI4, sI5, sI6, sI7, sI8, sI9, sI10, lI, sI0]
 rw [zR]
 refine zJ ?_
 conv => arg 2; whnf
 simp (maxSteps:=1000000) (disch:=first|assumption|omega|rfl) only [↓gp, gc, Nat.reduceAdd, z04, wa0, wa1, wa2, wa3, wa4, wa5, wi0, wi1, wi2, wi3, wi4, wi5, a0, a1, a2, a3, a4, a5, a6, bo98, z67, z6i, z6x, z6t, z6y, z68, z6l, z6f, sI4, sI5, sI6, sI7, sI8, sI9, sI10, lI, sI0]
 rw [zR]
 refine zJ ?_
 conv => arg 2; whnf
 simp (maxSteps:=1000000) (disch:=first|assumption|omega|rfl) only [↓gp, gc, Nat.reduceAdd, z04, wa0, wa1, wa2, wa3, wa4, wa5, wi0, wi1, wi2, wi3, wi4, wi5, a0, a1, a2, a3, a4, a5, a6, bo98, z67, z6i, z6x, z6t, z6y, z68, z6l, z6f, sI4, sI5, sI6, sI7, sI8, sI9, sI10, lI, sI0]
 exact wK (u := .ref 1 0 0) (v := inoV (getX x)) rfl ((zM rfl).trans lI) rfl rfl
def putI (i : Ino) : List UInt8 := inoB i.kind.toNat i.links.toNat i.size.toNat i.parent.toNat ((numI i).map Int.toNat)
theorem z5h {i : Ino} : (putI i).length = 32 := zfg
theorem MayI.nat {i : Ino} (h : MayI i) : i = inoN i.kind.toNat i.links.toNat i.size.toNat i.parent.toNat ((numI i).map Int.toNat) := by
 obtain ⟨⟨k1, k2, _⟩, ⟨l1, _⟩, ⟨p1, _⟩, s1, s2, hn⟩ := h
 obtain ⟨k, l, s, p, d0, d1, d2, d3, d4, d5, d6⟩ := i
 simp only [numI, List.forall_mem_cons, small] at hn k1 l1 p1 s1
 obtain ⟨⟨a0, _⟩, ⟨a1, _⟩, ⟨a2, _⟩, ⟨a3, _⟩, ⟨a4, _⟩, ⟨a5, _⟩, ⟨a6, _⟩, _⟩ := hn
 simp only [inoN, numI, List.map_cons, List.map_nil, List.getD_cons_zero, List.getD_cons_succ, Int.toNat_of_nonneg, k1, l1, p1, s1, a0, a1, a2, a3, a4, a5, a6]
theorem zij (i : Ino) (hm : MayI i) : Ev cfg 107 [zS i] (.ret (.tup [.d (blkD (putI i)), .d (.int .i64 0)])) := by
 have e := hm.nat
 have h := zwx i.kind.toNat i.links.toNat i.size.toNat i.parent.toNat ((numI i).map Int.toNat) (e ▸ hm)
 rw [← e] at h
 exact h
theorem zty {k l s p n0 n1 n2 n3 n4 n5 n6 : Nat} : inoB k l s p [n0, n1, n2, n3, n4, n5, n6] = leB 1 k ++ [0] ++ leB 2 l ++ leB 4 s ++ leB 2 p ++ leB 2 n0 ++ leB 2 n1 ++ leB 2 n2 ++ leB 2 n3 ++ leB 2 n4 ++ leB 2 n5 ++ leB 2 n6 ++ zC 8 := by kernel_rfl
theorem zuj {x : List UInt8} {k w v : Nat} (h : (x.drop k).take w = leB w v) (hv : v < 256 ^ w) : fld x k w = v := by
 unfold fld
 rw [h, z88, Nat.mod_eq_of_lt hv]
theorem zp7 {k l s p n0 n1 n2 n3 n4 n5 n6 : Nat} (hk : k < 256) (hl : l < 65536) (hs : s < 4294967296) (hp : p < 65536) (h0 : n0 < 65536) (h1 : n1 < 65536) (h2 : n2 < 65536) (h3 : n3 < 65536) (h4 : n4 < 65536) (h5 : n5 < 65536) (h6 : n6 < 65536) : getI (inoB k l s p [n0, n1, n2, n3, n4, n5, n6]) = inoN k l s p [n0, n1, n2, n3, n4, n5, n6] := by
 unfold getI
 have hL : (inoB k l s p [n0, n1, n2, n3, n4, n5, n6]).length = 32 := zfg
 have hx : layB (zC 256) 0 (inoB k l s p [n0, n1, n2, n3, n4, n5, n6]) = inoB k l s p [n0, n1, n2, n3, n4, n5, n6] ++ zC 224 := by
  have := z1c (a := []) (d := inoB k l s p [n0, n1, n2, n3, n4, n5, n6]) (n := 256) (by omega)
  rw [hL] at this
  simpa using this
 rw [hx, zty]
 unfold getX
 have e : ∀ (a b : List UInt8) (k w v : Nat), (a ++ leB w v ++ b) = (a ++ leB w v ++ b) → a.length = k → v < 256 ^ w → fld (a ++ leB w v ++ b) k w = v := fun a b k w v _ ha hv => zuj (by
  rw [List.append_assoc, List.drop_append_of_le_length (by omega), List.drop_of_length_le (by omega), List.nil_append, List.take_append_of_le_length (by rw [qK]; omega), List.take_of_length_le (by rw [qK]; omega)]) hv
 have f : ∀ (k w v : Nat) (a b x : List UInt8), x = a ++ leB w v ++ b → a.length = k → v < 256 ^ w → fld x k w = v := fun k w v a b x hx ha hv => hx ▸ e a b k w v rfl ha hv
 have q0 := f 0 1 k ([]) ([0] ++ leB 2 l ++ leB 4 s ++ leB 2 p ++ leB 2 n0 ++ leB 2 n1 ++ leB 2 n2 ++ leB 2 n3 ++ leB 2 n4 ++ leB 2 n5 ++ leB 2 n6 ++ zC 8 ++ zC 224) (leB 1 k ++ [0] ++ leB 2 l ++ leB 4 s ++ leB 2 p ++ leB 2 n0 ++ leB 2 n1 ++ leB 2 n2 ++ leB 2 n3 ++ leB 2 n4 ++ leB 2 n5 ++ leB 2 n6 ++ zC 8 ++ zC 224) (by simp only [List.append_assoc, List.nil_append]) rfl (by omega)
 have q1 := f 2 2 l (leB 1 k ++ [0]) (leB 4 s ++ leB 2 p ++ leB 2 n0 ++ leB 2 n1 ++ leB 2 n2 ++ leB 2 n3 ++ leB 2 n4 ++ leB 2 n5 ++ leB 2 n6 ++ zC 8 ++ zC 224) (leB 1 k ++ [0] ++ leB 2 l ++ leB 4 s ++ leB 2 p ++ leB 2 n0 ++ leB 2 n1 ++ leB 2 n2 ++ leB 2 n3 ++ leB 2 n4 ++ leB 2 n5 ++ leB 2 n6 ++ zC 8 ++ zC 224) (by simp only [List.append_assoc, List.nil_append]) rfl (by omega)
 have q2 := f 4 4 s (leB 1 k ++ [0] ++ leB 2 l) (leB 2 p ++ leB 2 n0 ++ leB 2 n1 ++ leB 2 n2 ++ leB 2 n3 ++ leB 2 n4 ++ leB 2 n5 ++ leB 2 n6 ++ zC 8 ++ zC 224) (leB 1 k ++ [0] ++ leB 2 l ++ leB 4 s ++ leB 2 p ++ leB 2 n0 ++ leB 2 n1 ++ leB 2 n2 ++ leB 2 n3 ++ leB 2 n4 ++ leB 2 n5 ++ leB 2 n6 ++ zC 8 ++ zC 224) (by simp only [List.append_assoc, List.nil_append]) rfl (by omega)
 have q3 := f 8 2 p (leB 1 k ++ [0] ++ leB 2 l ++ leB 4 s) (leB 2 n0 ++ leB 2 n1 ++ leB 2 n2 ++ leB 2 n3 ++ leB 2 n4 ++ leB 2 n5 ++ leB 2 n6 ++ zC 8 ++ zC 224) (leB 1 k ++ [0] ++ leB 2 l ++ leB 4 s ++ leB 2 p ++ leB 2 n0 ++ leB 2 n1 ++ leB 2 n2 ++ leB 2 n3 ++ leB 2 n4 ++ leB 2 n5 ++ leB 2 n6 ++ zC 8 ++ zC 224) (by simp only [List.append_assoc, List.nil_append]) rfl (by omega)
 have q4 := f 10 2 n0 (leB 1 k ++ [0] ++ leB 2 l ++ leB 4 s ++ leB 2 p) (leB 2 n1 ++ leB 2 n2 ++ leB 2 n3 ++ leB 2 n4 ++ leB 2 n5 ++ leB 2 n6 ++ zC 8 ++ zC 224) (leB 1 k ++ [0] ++ leB 2 l ++ leB 4 s ++ leB 2 p ++ leB 2 n0 ++ leB 2 n1 ++ leB 2 n2 ++ leB 2 n3 ++ leB 2 n4 ++ leB 2 n5 ++ leB 2 n6 ++ zC 8 ++ zC 224) (by simp only [List.append_assoc, List.nil_append]) rfl (by omega)
 have q5 := f 12 2 n1 (leB 1 k ++ [0] ++ leB 2 l ++ leB 4 s ++ leB 2 p ++ leB 2 n0) (leB 2 n2 ++ leB 2 n3 ++ leB 2 n4 ++ leB 2 n5 ++ leB 2 n6 ++ zC 8 ++ zC 224) (leB 1 k ++ [0] ++ leB 2 l ++ leB 4 s ++ leB 2 p ++ leB 2 n0 ++ leB 2 n1 ++ leB 2 n2 ++ leB 2 n3 ++ leB 2 n4 ++ leB 2 n5 ++ leB 2 n6 ++ zC 8 ++ zC 224) (by simp only [List.append_assoc, List.nil_append]) rfl (by omega)
 have q6 := f 14 2 n2 (leB 1 k ++ [0] ++ leB 2 l ++ leB 4 s ++ leB 2 p ++ leB 2 n0 ++ leB 2 n1) (leB 2 n3 ++ leB 2 n4 ++ leB 2 n5 ++ leB 2 n6 ++ zC 8 ++ zC 224) (leB 1 k ++ [0] ++ leB 2 l ++ leB 4 s ++ leB 2 p ++ leB 2 n0 ++ leB 2 n1 ++ leB 2 n2 ++ leB 2 n3 ++ leB 2 n4 ++ leB 2 n5 ++ leB 2 n6 ++ zC 8 ++ zC 224) (by simp only [List.append_assoc, List.nil_append]) rfl (by omega)
 have q7 := f 16 2 n3 (leB 1 k ++ [0] ++ leB 2 l ++ leB 4 s ++ leB 2 p ++ leB 2 n0 ++ leB 2 n1 ++ leB 2 n2) (leB 2 n4 ++ leB 2 n5 ++ leB 2 n6 ++ zC 8 ++ zC 224) (leB 1 k ++ [0] ++ leB 2 l ++ leB 4 s ++ leB 2 p ++ leB 2 n0 ++ leB 2 n1 ++ leB 2 n2 ++ leB 2 n3 ++ leB 2 n4 ++ leB 2 n5 ++ leB 2 n6 ++ zC 8 ++ zC 224) (by simp only [List.append_assoc, List.nil_append]) rfl (by omega)
 have q8 := f 18 2 n4 (leB 1 k ++ [0] ++ leB 2 l ++ leB 4 s ++ leB 2 p ++ leB 2 n0 ++ leB 2 n1 ++ leB 2 n2 ++ leB 2 n3) (leB 2 n5 ++ leB 2 n6 ++ zC 8 ++ zC 224) (leB 1 k ++ [0] ++ leB 2 l ++ leB 4 s ++ leB 2 p ++ leB 2 n0 ++ leB 2 n1 ++ leB 2 n2 ++ leB 2 n3 ++ leB 2 n4 ++ leB 2 n5 ++ leB 2 n6 ++ zC 8 ++ zC 224) (by simp only [List.append_assoc, List.nil_append]) rfl (by omega)
 have q9 := f 20 2 n5 (leB 1 k ++ [0] ++ leB 2 l ++ leB 4 s ++ leB 2 p ++ leB 2 n0 ++ leB 2 n1 ++ leB 2 n2 ++ leB 2 n3 ++ leB 2 n4) (leB 2 n6 ++ zC 8 ++ zC 224) (leB 1 k ++ [0] ++ leB 2 l ++ leB 4 s ++ leB 2 p ++ leB 2 n0 ++ leB 2 n1 ++ leB 2 n2 ++ leB 2 n3 ++ leB 2 n4 ++ leB 2 n5 ++ leB 2 n6 ++ zC 8 ++ zC 224) (by simp only [List.append_assoc, List.nil_append]) rfl (by omega)
 have q10 := f 22 2 n6 (leB 1 k ++ [0] ++ leB 2 l ++ leB 4 s ++ leB 2 p ++ leB 2 n0 ++ leB 2 n1 ++ leB 2 n2 ++ leB 2 n3 ++ leB 2 n4 ++ leB 2 n5) (zC 8 ++ zC 224) (leB 1 k ++ [0] ++ leB 2 l ++ leB 4 s ++ leB 2 p ++ leB 2 n0 ++ leB 2 n1 ++ leB 2 n2 ++ leB 2 n3 ++ leB 2 n4 ++ leB 2 n5 ++ leB 2 n6 ++ zC 8 ++ zC 224) (by simp only [List.append_assoc, List.nil_append]) rfl (by omega)
 rw [q0, q1, q2, q3, q4, q5, q6, q7, q8, q9, q10]
theorem zr8 {i : Ino} (hm : MayI i) : getI (putI i) = i := by
 have e := hm.nat
 obtain ⟨⟨k1, k2, _⟩, ⟨l1, l2⟩, ⟨p1, p2⟩, s1, s2, hn⟩ := hm
 simp only [numI, List.forall_mem_cons, small] at hn
 obtain ⟨⟨a0, b0⟩, ⟨a1, b1⟩, ⟨a2, b2⟩, ⟨a3, b3⟩, ⟨a4, b4⟩, ⟨a5, b5⟩, ⟨a6, b6⟩, _⟩ := hn
 have h := zp7 (k := i.kind.toNat) (l := i.links.toNat) (s := i.size.toNat) (p := i.parent.toNat) (n0 := i.d0.toNat) (n1 := i.d1.toNat) (n2 := i.d2.toNat) (n3 := i.d3.toNat) (n4 := i.d4.toNat) (n5 := i.d5.toNat) (n6 := i.ind.toNat) (by omega) (by omega) (by omega) (by omega) (by omega) (by omega) (by omega) (by omega) (by omega) (by omega) (by omega)
 unfold putI
 exact h.trans e.symm
def z2d (b : List UInt8) : Ino × Bool := if MayI (getI b) ∧ putI (getI b) = b then (getI b, true) else (zd4, false)
theorem zkq {i : Ino} (hm : MayI i) : z2d (putI i) = (i, true) := by
 unfold z2d
 rw [zr8 hm, if_pos ⟨hm, rfl⟩]
theorem zm8 (P : Program) {e : TypeId} (he : P.underlying e = some (.int .u8)) : ∀ (xs ys : List UInt8), xs.length = ys.length → eqLs P e xs.length (xs.map byD) (ys.map byD) = some (decide (xs = ys))
 | [], [], _ => rfl
 | x :: xs, y :: ys, h => by
  have ih := zm8 P he xs ys (by simpa using h)
  have hxy : ((x.toNat : Int) == (y.toNat : Int)) = (x == y) := by
   by_cases e : x = y
   ·subst e; simp
   ·have h1 : (x == y) = false := by simp [e]
    have h2 : ¬ (x.toNat : Int) = (y.toNat : Int) := fun hh => e (UInt8.toNat_inj.1 (by omega))
    rw [h1]
    exact beq_eq_false_iff_ne.2 h2
  have h1 : vC P e (byD x) (byD y) = some (x == y) := by
   simp only [vC, he, byD, if_true, hxy]
  simp only [List.length_cons, List.map_cons, eqLs, h1]
  by_cases hx : x = y
  ·subst hx
   simp only [beq_self_eq_true, ih]
   congr 1
   by_cases hq : xs = ys
   ·rw [decide_eq_true hq, decide_eq_true (by rw [hq])]
   ·rw [decide_eq_false hq, decide_eq_false (by simpa using hq)]
  ·have h2 : (x == y) = false := by simp [hx]
   rw [h2]
   simp [hx]
theorem zwo {u : V} {b : List UInt8} (h : IsB u b) : asD u = some (blkD b) := by
 rcases h with rfl | rfl
 ·rfl
 ·have h2 : ∀ b : List UInt8, allO z1z (b.map fun x => V.d (byD x)) = some (b.map byD) := fun b => by
   induction b with
   | nil => rfl
   | cons x r ih =>
    have h : z1z (.d (byD x)) = some (byD x) := rfl
    simp only [List.map_cons, allO, h, ih]
  show (allO z1z (b.map fun x => V.d (byD x))).map D.agg = _
  rw [h2]
  rfl
theorem neB (t n : Nat) (ht : BT Try.prog t 5 n) (h1 : ptrT Try.prog t = false) (h2 : mapT Try.prog t = false) (h3 : fnT Try.prog t = false) (h4 : Try.prog.eqGuardType Try.prog.depth t = false) {u v : V} {a b : List UInt8} (hu : IsB u a) (hv : IsB v b) (ha : a.length = n) (hb : b.length = n) : binV Try.prog .neq t u v = some (.d (.bool (decide (a ≠ b)))) ∧ binV Try.prog .eql t u v = some (.d (.bool (decide (a = b)))) := by
 have h5 : Try.prog.underlying 5 = some (.int .u8) := by kernel_rfl
 have h6 := zm8 Try.prog h5 a b (by omega)
 have hs := ht.se
 rw [ha] at h6
 have h7 : eqD Try.prog 8 t (blkD a) (blkD b) = some (decide (a = b)) := by
  simp only [blkD, eqD, ht.u, hs]
  exact h6
 have h8 : eqV Try.prog t u v = some (decide (a = b)) := by
  simp only [eqV, h1, h2, h3, zwo hu, zwo hv, Bool.false_eq_true, if_false]
  simp only [blkD, h4, Bool.false_eq_true, if_false] at h7 ⊢
  exact h7
 have hn : (!decide (a = b)) = decide (a ≠ b) := by by_cases h : a = b <;> simp [h]
 constructor
 ·have : binV Try.prog .neq t u v = (eqV Try.prog t u v).map fun b => .d (.bool (!b)) := by rcases hu with rfl | rfl <;> rfl
  rw [this, h8, Option.map_some, hn]
 ·have : binV Try.prog .eql t u v = (eqV Try.prog t u v).map fun b => .d (.bool b) := by rcases hu with rfl | rfl <;> rfl
  rw [this, h8, Option.map_some]
theorem q20 {u v : V} {a b : List UInt8} (hu : IsB u a) (hv : IsB v b) (ha : a.length = 32) (hb : b.length = 32) : binV Try.prog .neq 158 u v = some (.d (.bool (decide (a ≠ b)))) := (neB 158 32 bt158 (by kernel_rfl) (by kernel_rfl) (by kernel_rfl) (by kernel_rfl) hu hv ha hb).1
theorem zsy : zA Try.prog 114 = some ⟨(Try.f114.body.getD .skip), 23, #[.cell 2 61, .tmp 3]⟩ := by
 unfold zA
 rw [Try.func114]
 rfl
theorem znk (b : List UInt8) (hb : b.length = 32) : Ev cfg 114 [blkD b] (.ret (.tup [.d (zS (z2d b).1), .d (.bool (z2d b).2)])) := by
 refine jW rfl rfl zsy ?_
 show Wp cfg (Try.f114.body.getD .skip) ((.d (blkD b)) :: uZ (uZ ((.tup []) :: (.tup []) :: []))) [] [] _
 unfold uZ
 conv => arg 2; whnf
 have hf : zZ Try.prog 158 (.d (blkD b)) = true := bt158.fits jL hb
 have hld := bt158.load (v := .d (blkD b)) jL hb
 have hg : ∀ {ops dst k T S F Q}, WpR cfg ops dst k T S F Q (some (.enter 125 [.d (blkD b)])) = WpL cfg ops k (putT T dst (.d (zS (getI b)))) S F Q := fun {ops dst k T S F Q} => qA (C := cfg) (ds := [blkD b]) rfl (zug b hb)
 by_cases hm : MayI (getI b)
 ·have hp : ∀ {ops dst k T S F Q}, WpR cfg ops dst k T S F Q (some (.enter 107 [.d (zS (getI b))])) = WpL cfg ops k (putT T dst (.tup [.d (blkD (putI (getI b))), .d (.int .i64 0)])) S F Q := fun {ops dst k T S F Q} => qA (C := cfg) (ds := [zS (getI b)]) rfl (zij _ hm)
  have hld2 := bt158.load (v := .d (blkD (putI (getI b)))) jL z5h
  have hst2 := bt158.store (v := .d (blkD (putI (getI b)))) jL z5h (w := blkV (zC 32)) isB_v z32l
  have hne := q20 (u := .d (blkD (putI (getI b)))) (v := .d (blkD b)) jL jL z5h hb
  by_cases he : putI (getI b) = b
  ·have hc : z2d b = (getI b, true) := by unfold z2d; rw [if_pos ⟨hm, he⟩]
   rw [hc]
   rw [decide_eq_false (fun h => h he)] at hne
   simp (maxSteps:=1000000) (disch:=first|assumption|omega|rfl) only [↓gp, gc, Nat.reduceAdd, hf, hld, z61, zf61, hg, zsl, srI, lrI, hp, zly, z158, zdn, hld2, hst2, hne, zL]
   exact z0s rfl rfl ((zM rfl).trans lrI) rfl rfl rfl rfl
  ·have hc : z2d b = (zd4, false) := by unfold z2d; rw [if_neg (fun h => he h.2)]
   rw [hc]
   rw [decide_eq_true he] at hne
   simp (maxSteps:=1000000) (disch:=first|assumption|omega|rfl) only [↓gp, gc, Nat.reduceAdd, hf, hld, z61, zf61, hg, zsl, srI, lrI, hp, zly, z158, zdn, hld2, hst2, hne, zL, zqr, sI0]
   exact z0s rfl rfl ((zM rfl).trans lI) rfl rfl rfl rfl
 ·have hc : z2d b = (zd4, false) := by unfold z2d; rw [if_neg (fun h => hm h.1)]
  rw [hc]
  have hp : ∀ {ops dst k T S F Q}, WpR cfg ops dst k T S F Q (some (.enter 107 [.d (zS (getI b))])) = WpL cfg ops k (putT T dst (.tup [.d (blkD (zC 32)), .d (.int .i64 1)])) S F Q := fun {ops dst k T S F Q} => qA (C := cfg) (ds := [zS (getI b)]) rfl (zin _ hm)
  have hst2 := bt158.store (v := .d (blkD (zC 32))) jL z32l (w := blkV (zC 32)) isB_v z32l
  simp (maxSteps:=1000000) (disch:=first|assumption|omega|rfl) only [↓gp, gc, Nat.reduceAdd, hf, hld, z61, zf61, hg, zsl, srI, lrI, hp, zly, z158, zdn, hst2, zL, zqr, sI0]
  exact z0s rfl rfl ((zM rfl).trans lI) rfl rfl rfl rfl
def inoA (b : List UInt8) (k : Nat) : Ino := (z2d (wU b k)).1
theorem zo1 (b : List UInt8) (hb : b.length = 256) (k : Nat) (hk : k < 8) : ∃ bb, Ev cfg 114 [blkD (wU b k)] (.ret (.tup [.d (zS (inoA b k)), .d (.bool bb)])) := ⟨_, znk _ (z22 hb hk)⟩
def z97 (C : CS) (l : List Int) : List Int := (C.list.map (·.id)).filter (fun n => decide (n ∈ l))
theorem zfz {C : CS} (h : C.Ok) {l : List Int} : (z97 C l).Pairwise (· < ·) ∧ ∀ y ∈ z97 C l, 1 ≤ y ∧ y ≤ C.last := by
 refine ⟨List.Pairwise.sublist List.filter_sublist (List.pairwise_map.2 h.ids), ?_⟩
 intro y hy
 obtain ⟨ch, hch, rfl⟩ := List.mem_map.1 (List.mem_filter.1 hy).1
 obtain ⟨_, _, _, h4, h5, _⟩ := h.chs ch hch
 exact ⟨h4, h5⟩
theorem zot {C : CS} (h : C.Ok) {l out : List Int} (ho : NdOk C l out) (hrg : ∀ x ∈ l, 1 ≤ x ∧ x ≤ C.last) : out = z97 C l := by
 refine zja ho.1 (zfz h).1 fun x => ?_
 rw [ho.2 x]
 unfold z97
 rw [List.mem_filter, List.mem_map, decide_eq_true_eq]
 constructor
 ·rintro ⟨a, b⟩
  refine ⟨?_, a⟩
  by_cases hh : ∃ ch, ch ∈ C.list ∧ ch.id = x
  ·exact hh
  ·exact absurd ⟨(hrg x a).1, (hrg x a).2, fun ch hch e => hh ⟨ch, hch, e⟩⟩ b
 ·rintro ⟨⟨ch, hch, rfl⟩, a⟩
  exact ⟨a, fun hd => hd.2.2 ch hch rfl⟩
theorem zae (S : Store) (c r m : Nat) (C : CS) (h0 : CacheAt S c r m C) (v : V) (l : List Int) (hv : OwnS S v 3 (zX l)) (hl : l.length ≤ 50000) : EvS cfg 105 [.ref c 0 0, v] S (fun o S' => Keep S S' ∧ (((∀ x ∈ l, 1 ≤ x ∧ x ≤ C.last) ∧ ∃ nv, o = .ret (.tup [nv, .d (.bool true)]) ∧ OwnS S' nv 3 (zX (z97 C l))) ∨ (¬ (∀ x ∈ l, 1 ≤ x ∧ x ≤ C.last) ∧ o = .ret (.tup [.ts [], .d (.bool false)])))) := by
 refine qN rfl zre ?_
 show Wp cfg (Try.f105.body.getD .skip) ((.ref c 0 0) :: v :: uZ (uZ (uZ (uZ (uZ (uZ (uZ []))))))) S [] _
 unfold uZ
 conv => arg 2; whnf
 rw [zR]
 have hln : zI Try.prog S .len [46] [v] = some (.val (.d (.int .i64 (l.length : Int))) S 0) := by rw [wB Try.underlying46 hv, zW]
 simp (maxSteps:=1000000) (disch:=first|assumption|omega|rfl) only [↓gp, gc, Nat.reduceAdd, hln]
 refine zxn c r m C S h0 v l hv hl _ l.length 0 S (.ts []) [] _ _ _ _ _ _ _ _ _ _ _ _ _ _ _ _ _ _ _ _ _ _ _ _ _ _ _ _ _ _ _ _ _ _ _ _ _ _ _ _ _ _ _ _ _ _ _ _ _ _ _ _ _ _ _ _ _ _ _ _ _ _ _ _ _ _ _ rfl (Nat.zero_le _) Keep.refl (fun j _ => NotAt.ts) (.inl ⟨rfl, rfl⟩) (by simp) ⟨List.Pairwise.nil, fun x => by simp⟩ (fun x hx => by simp at hx) ?_ ?_
 ·intro S2 v6 out i' g1 g2 g3 g4 g5 g7 g8 g9 gB gC gA gE gH gI gD gL gN gK gJ gO gP gW gT gU gQ gR gS gV gX gY gf gg gZ gh gj gk gn gr gz hZ xC hH hJ hU hY xA xB xD xE xF xG xH xI xJ xK xL xM xN xO xP xQ xR xS xT xU xV xW hK ho hok hrg
  have hv1 := qF ho
  simp (maxSteps:=1000000) (disch:=first|assumption|omega|rfl) only [↓gp, gc, Nat.reduceAdd]
  refine ⟨rfl, _, z6g rfl rfl hv1 rfl, hK, .inl ⟨hrg, v6, rfl, ?_⟩⟩
  rw [← zot h0.ok hok hrg]
  exact ho
 ·intro S2 T hK hrg h4 h5
  exact ⟨rfl, _, z6g h4 h5 rfl rfl, hK, .inr ⟨hrg, rfl⟩⟩
theorem zlb (S : Store) (c r m : Nat) (C : CS) (h0 : CacheAt S c r m C) (v : V) (l : List Int) (hv : OwnS S v 3 (zX l)) (hl : l.length ≤ 50000) (hrg : ∀ x ∈ l, 1 ≤ x ∧ x ≤ C.last) : EvS cfg 105 [.ref c 0 0, v] S (NdR c r m C (z97 C l) S) :=
 z4q (zae S c r m C h0 v l hv hl) fun o S' ⟨hK, h⟩ => by
  rcases h with ⟨_, nv, h1, h2⟩ | ⟨h1, _⟩
  ·exact ⟨Frm.keep hK, h0.keep hK, nv, h1, h2⟩
  ·exact absurd hrg h1
theorem zsz (S : Store) (d r : Nat) (vs : List V) (f w q : Int) (lit : Bool) (no : Int) (h : DskAt S d r vs f lit false w q) (hn : no < 0 ∨ no ≥ vs.length) : EvS cfg 93 [.ref d 0 0, .d (.int .i64 no)] S (fun o S' => S' = S ∧ o = .ret (.d (.int .i64 2))) := by
 refine qN rfl zq3 ?_
 show Wp cfg (Try.f93.body.getD .skip) ((.ref d 0 0) :: (.d (.int .i64 no)) :: uZ (uZ ((.tup []) :: (.tup []) :: (.tup []) :: []))) S [] _
 unfold uZ
 conv => arg 2; whnf
 rw [zR]
 have hd := h.rd'
 by_cases c1 : no < 0
 ·simp (maxSteps:=1000000) (disch:=first|assumption|omega|rfl) only [↓gp, gc, Nat.reduceAdd, zev, z82, z9h, hd, lk0, lk3, zn1, zL]
  exact ⟨rfl, _, rfl, rfl, rfl⟩
 ·have c2 : no ≥ (vs.length : Int) := by rcases hn with h | h <;> omega
  simp (maxSteps:=1000000) (disch:=first|assumption|omega|rfl) only [↓gp, gc, Nat.reduceAdd, zev, z82, z9h, hd, lk0, lk3, zn1, zL]
  exact ⟨rfl, _, rfl, rfl, rfl⟩
theorem zpf (S : Store) (d r : Nat) (vs : List V) (f w q : Int) (lit : Bool) (no : Int) (h : DskAt S d r vs f lit false w q) (hn : no < 0 ∨ no ≥ vs.length) : EvS cfg 56 [.ref d 0 0, .d (.int .i64 no)] S (fun o S' => S' = S ++ [.row [.ref d 0 0] 26, .row [blkV (zC 256)] 42] ∧ o = .ret (.tup [blkV (zC 256), .d (.int .i64 2)])) := by
 refine zb1 rfl zqb ?_
 show Wp cfg (Try.f56.body.getD .skip) ((.ref d 0 0) :: (.d (.int .i64 no)) :: uZ ((.tup []) :: (.tup []) :: (.tup []) :: (.tup []) :: (.tup []) :: (.tup []) :: (.tup []) :: (.tup []) :: (.tup []) :: [])) S [] _
 unfold uZ
 conv => arg 2; whnf
 rw [zR]
 generalize ha : S.length = a
 have l0 := z256
 have hm := fun {ops dst k T F Q} l => zQ (ops := ops) (dst := dst) (l := k) (T := T) (F := F) (Q := Q) rfl (zsz (S ++ l) d r vs f w q lit no h.app hn)
 simp (maxSteps:=1000000) (disch:=first|assumption|omega|rfl) only [↓gp, gc, Nat.reduceAdd, ft26, z42, zf42, List.append_assoc, List.length_append, List.length_cons, List.length_nil, ha, rA0 ha, rA1 ha, pA1 ha, lr26, hm, bo93, zam, zqk, zL]
 exact ⟨.inr rfl, _, _, rfl, zkw rfl ((zM (rA1 ha)).trans (zam z256)) rfl rfl rfl, rfl, rfl⟩
theorem zj0 (S : Store) (c r m : Nat) (C : CS) (h0 : CacheAt S c r m C) (no : Int) (hn : no < 0 ∨ no ≥ C.img.length) : EvS cfg 103 [.ref c 0 0, .d (.int .i64 no)] S (fun o S' => Keep S S' ∧ o = .ret (.d (.int .i64 2))) := by
 obtain ⟨d, L, es, vs, f, z, w, q, h, hq⟩ := h0
 refine qN rfl zkf ?_
 show Wp cfg (Try.f103.body.getD .skip) ((.ref c 0 0) :: (.d (.int .i64 no)) :: uZ (uZ (uZ ((.tup []) :: (.tup []) :: (.tup []) :: (.tup []) :: (.tup []) :: (.tup []) :: (.tup []) :: [])))) S [] _
 unfold uZ
 conv => arg 2; whnf
 rw [zR]
 have hc : ∀ l, rowE (S ++ l) c 0 = some (cacV d m L C.last) := fun l => zK (e := 150) (by rw [List.getElem?_append_left (zN h.hc)]; exact h.hc)
 have hc0 := hc []
 rw [List.append_nil] at hc0
 have hlk := (h.hm.look zi8 no).1
 generalize ha : S.length = a
 cases hf : f no with
 | some v =>
  obtain ⟨k, b, hk, hb, hv⟩ := h.kn _ _ hf
  have := (List.getElem?_eq_some_iff.1 hb).1
  omega
 | none =>
  rw [hf] at hlk
  simp only [Option.getD_none, Option.isSome_none] at hlk
  have l0 := z256
  have h1 := h.keep (S' := S ++ [.row [blkV (zC 256)] 42]) Keep.refl.app
  have hrd := fun {ops dst k T F Q} => zQ (ops := ops) (dst := dst) (l := k) (T := T) (F := F) (Q := Q) rfl (zpf _ d r vs z w q false no h1.dk (by rw [h.il]; exact hn))
  generalize hl3 : (S ++ [Ob.row [blkV (zC 256)] 42] ++ [.row [.ref d 0 0] 26, .row [blkV (zC 256)] 42]) = S3 at hrd
  have hK : Keep S S3 := hl3 ▸ Keep.refl.app.app
  generalize ha3 : S3.length = a3
  simp (maxSteps:=1000000) (disch:=first|assumption|omega|rfl) only [↓gp, gc, Nat.reduceAdd, z73, z2o, zep, hc0, hc, lc0, lc1, hlk, z42, zf42, ha, rA0 ha, pA0 ha, zqk, hrd, bo56, ha3, rA0 ha3, pA0 ha3]
  exact ⟨rfl, _, rfl, hK.app, rfl⟩
def putE (C : CS) (no : Int) (a : Int) (b : List UInt8) (l : List Int) : Int := if ¬ kW a b then 1 else if ¬ (∀ x ∈ l, 1 ≤ x ∧ x ≤ (C.last : Int)) then 1 else if no < 0 ∨ no ≥ C.img.length then 2 else 0
theorem zp8 (S : Store) (c r m : Nat) (C : CS) (h0 : CacheAt S c r m C) (no : Int) (p dv : V) (a : Int) (b : List UInt8) (hp : PatV S p dv a b) (ha : InB a) (nd : V) (l : List Int) (hnd : OwnS S nd 3 (zX l)) (hl : l.length ≤ 50000) (he : putE C no a b l ≠ 0) :
  EvS cfg 68 [.ref c 0 0, .d (.int .i64 no), p, nd] S (fun o S' => Keep S S' ∧ o = .ret (.tup [.d (.int .i64 0), .d (.int .i64 (putE C no a b l))])) := by
 refine qN rfl zq2 ?_
 show Wp cfg (Try.f68.body.getD .skip) ((.ref c 0 0) :: (.d (.int .i64 no)) :: p :: nd :: uZ (uZ (uZ (uZ (uZ (uZ ((.tup []) :: (.tup []) :: (.tup []) :: []))))))) S [] _
 unfold uZ
 conv => arg 2; whnf
 rw [zR]
 generalize hal : S.length = al
 have hft := hp.ft
 have hl0 := hp.l0
 have hp1 := hp.one
 have hk0 : Keep S (S ++ [.row [p] 56]) := Keep.refl.app
 have hp0 : PatV (S ++ [.row [p] 56]) p dv a b := hp.frm (ts := []) (ms := []) (r := 0) (Frm.keep hk0) rfl
 have hck := fun {ops dst k T F Q} => z0a (ops := ops) (dst := dst) (k := k) (T := T) (F := F) (Q := Q) hp0 ha
 by_cases hpk : kW a b
 ·rw [if_pos hpk] at hck
  have hd1 := qF hnd
  obtain ⟨o, S1, ⟨hK1, hor⟩, hE⟩ := qR (zae _ c r m C (h0.keep hk0) nd l (hk0.own hnd) hl)
  by_cases hrg : ∀ x ∈ l, 1 ≤ x ∧ x ≤ (C.last : Int)
  ·obtain ⟨nv, rfl, hnv⟩ : ∃ nv, o = .ret (.tup [nv, .d (.bool true)]) ∧ OwnS S1 nv 3 (zX (z97 C l)) := by
    rcases hor with ⟨_, h⟩ | ⟨h, _⟩
    ·exact h
    ·exact absurd hrg h
   have hE := fun {ops dst k T F Q} => zQ (ops := ops) (dst := dst) (l := k) (T := T) (F := F) (Q := Q) rfl hE
   have hno : no < 0 ∨ no ≥ C.img.length := by
    by_cases h : no < 0 ∨ no ≥ C.img.length
    ·exact h
    ·exact absurd (by unfold putE; rw [if_neg (fun hh => hh hpk), if_neg (fun hh => hh hrg), if_neg h]) he
   have hpe : putE C no a b l = 2 := by unfold putE; rw [if_neg (fun hh => hh hpk), if_neg (fun hh => hh hrg), if_pos hno]
   obtain ⟨o2, S2, ⟨hK2, rfl⟩, hE2⟩ := qR (zj0 S1 c r m C ((h0.keep hk0).keep hK1) no hno)
   have hE2 := fun {ops dst k T F Q} => zQ (ops := ops) (dst := dst) (l := k) (T := T) (F := F) (Q := Q) rfl hE2
   have hnv1 := qF hnv
   rw [hpe]
   simp (maxSteps:=1000000) (disch:=first|assumption|omega|rfl) only [↓gp, gc, Nat.reduceAdd, hft, hal, rA0 hal, hl0, hp1, hck, z96, z73, hE, zo2, hd1, hnv1, kJ, Bool.not_true, hE2, zp5, zL]
   exact ⟨rfl, _, z6g rfl rfl rfl rfl, (hk0.trans hK1).trans hK2, rfl⟩
  ·have hor : o = .ret (.tup [.ts [], .d (.bool false)]) := by
    rcases hor with ⟨h, _⟩ | ⟨_, h⟩
    ·exact absurd h hrg
    ·exact h
   subst hor
   have hE := fun {ops dst k T F Q} => zQ (ops := ops) (dst := dst) (l := k) (T := T) (F := F) (Q := Q) rfl hE
   have hpe : putE C no a b l = 1 := by unfold putE; rw [if_neg (fun hh => hh hpk), if_pos hrg]
   rw [hpe]
   simp (maxSteps:=1000000) (disch:=first|assumption|omega|rfl) only [↓gp, gc, Nat.reduceAdd, hft, hal, rA0 hal, hl0, hp1, hck, z96, z73, hE, zo2, hd1, kJ, Bool.not_false, zL]
   exact ⟨rfl, _, z6g rfl rfl rfl rfl, hk0.trans hK1, rfl⟩
 ·rw [if_neg hpk] at hck
  have hpe : putE C no a b l = 1 := by unfold putE; rw [if_pos hpk]
  rw [hpe]
  simp (maxSteps:=1000000) (disch:=first|assumption|omega|rfl) only [↓gp, gc, Nat.reduceAdd, hft, hal, rA0 hal, hl0, hp1, hck, z96, z73, zL]
  exact ⟨rfl, _, z6g rfl rfl rfl rfl, hk0, rfl⟩
def spE (e : Int) (C : CS) (no a : Int) (b : List UInt8) (ids : List Int) : Int := if e ≠ 0 then e else putE C no a b (noZ ids)
def spC (e : Int) (C : CS) (no a : Int) (b : List UInt8) (ids : List Int) : CS := if e ≠ 0 then C else if putE C no a b (noZ ids) ≠ 0 then C else C.put no a b (z97 C (noZ ids))
def spI (e : Int) (C : CS) (no a : Int) (b : List UInt8) (ids : List Int) : Int := if e ≠ 0 then 0 else if putE C no a b (noZ ids) ≠ 0 then 0 else (C.last : Int) + 1
theorem zpd (S : Store) (x c r m mk : Nat) (l : Lay) (e : Int) (C : CS) (mf : Int → Option V) (h0 : StoreP S x c r m mk l e C mf) (he0 : e ≠ 0) (u p nd : V) (hft : zZ Try.prog 56 p = true) : EvS cfg 23 [.ref x 0 0, u, p, nd] S (fun o S' => Keep S S' ∧ o = .ret (.d (.int .i64 0))) := by
 refine qN rfl zje ?_
 show Wp cfg (Try.f23.body.getD .skip) ((.ref x 0 0) :: u :: p :: nd :: uZ (uZ ((.tup []) :: (.tup []) :: (.tup []) :: (.tup []) :: (.tup []) :: (.tup []) :: (.tup []) :: []))) S [] _
 unfold uZ
 conv => arg 2; whnf
 rw [zR]
 have hk0 : Keep S (S ++ [.row [p] 56]) := Keep.refl.app
 have he := fun {ops dst k T F Q} => zQ (ops := ops) (dst := dst) (l := k) (T := T) (F := F) (Q := Q) rfl (zcb _ x c mk l.blocks l.inodes l.merge e (h0.keep hk0).hx)
 have hde : ∀ i : Decidable (e ≠ 0), @decide (e ≠ 0) i = true := fun i => decide_eq_true he0
 simp (maxSteps:=1000000) (disch:=first|assumption|omega|rfl) only [↓gp, gc, Nat.reduceAdd, hft, he, bo18, hde]
 exact ⟨rfl, _, rfl, hk0, rfl⟩
theorem znn (S : Store) (x c r m mk : Nat) (l : Lay) (C : CS) (mf : Int → Option V) (h0 : StoreP S x c r m mk l 0 C mf) (no : Int) (p dv : V) (a : Int) (b : List UInt8) (hp : PatV S p dv a b) (ha : InB a) (nd : V) (ids : List Int) (hnd : IntsV S nd ids) (hids : ids.length ≤ 50000) (hpe : putE C no a b (noZ ids) ≠ 0) :
  EvS cfg 23 [.ref x 0 0, .d (.int .i64 no), p, nd] S (fun o S' => FrS m r S S' ∧ StoreP S' x c r m mk l (putE C no a b (noZ ids)) C mf ∧ o = .ret (.d (.int .i64 0))) := by
 refine qN rfl zje ?_
 show Wp cfg (Try.f23.body.getD .skip) ((.ref x 0 0) :: (.d (.int .i64 no)) :: p :: nd :: uZ (uZ ((.tup []) :: (.tup []) :: (.tup []) :: (.tup []) :: (.tup []) :: (.tup []) :: (.tup []) :: []))) S [] _
 unfold uZ
 conv => arg 2; whnf
 rw [zR]
 generalize hal : S.length = al
 have hft := hp.ft
 have hl0 := hp.l0
 have hd1 := hnd.one
 have hk0 : Keep S (S ++ [.row [p] 56]) := Keep.refl.app
 have h3 := h0.keep hk0
 have he := fun {ops dst k T F Q} => zQ (ops := ops) (dst := dst) (l := k) (T := T) (F := F) (Q := Q) rfl (zcb _ x c mk l.blocks l.inodes l.merge 0 h3.hx)
 obtain ⟨o, S1, ⟨hK1, v, rfl, hv⟩, hsE⟩ := qR (ze2 _ nd ids (hnd.keep hk0) (by omega))
 have hs := fun {ops base K ws cs i dst T} => kV (ops := ops) (base := base) (K := K) (ws := ws) (cs := cs) (i := i) (dst := dst) (T := T) rfl hsE
 have h3b := h3.keep hK1
 have hk1 := hk0.trans hK1
 have hp1 : PatV S1 p dv a b := hp.frm (ts := []) (ms := []) (r := 0) (Frm.keep hk1) rfl
 have hnl : (noZ ids).length ≤ 50000 := Nat.le_trans (List.length_filter_le ..) hids
 obtain ⟨o, S2, ⟨hK2, rfl⟩, hE⟩ := qR (zp8 _ c r m C h3b.ca no p dv a b hp1 ha v (noZ ids) hv hnl hpe)
 have hcp := fun {ops base K ws cs i dst T} => kV (ops := ops) (base := base) (K := K) (ws := ws) (cs := cs) (i := i) (dst := dst) (T := T) rfl hE
 have hrx := zK (e := 103) h3.hx
 have hrx1 := zK (e := 103) h3b.hx
 have hal1 := hK1 al (.row [p] 56) (by rw [List.getElem?_append_right (by omega), hal, Nat.sub_self]; rfl)
 have hral1 := zK (e := 56) hal1
 have h4 := h3b.keep hK2
 have hrx2 := zK (e := 103) h4.hx
 have hpx2 := fun y => qH (y := y) (e := 103) h4.hx
 have hp1' := hp.one
 have hv1 := qF hv
 simp (maxSteps:=1000000) (disch:=first|assumption|omega|rfl) only [↓gp, gc, Nat.reduceAdd, hft, hal, he, bo18]
 refine kL (is := [0, 1, 2, 3, 4, 5, 6, 7, 8, 9, 10, 11, 12, 13]) (h := 0) (by kernel_rfl) (by kernel_rfl) ?_
 simp (maxSteps:=1000000) (disch:=first|assumption|omega|rfl) only [List.replicate_zero, eq_self, gw, ga, Nat.reduceAdd, ↓gq, vso, List.append_nil, hrx, kB, vK, z89, z83, rA0 hal, hl0, hs, bo63, hcp, bo68, hp1', hd1, hv1]
 have hsm := hp.same
 refine ⟨qV rfl (by kernel_rfl) rfl (z3f ((zM hral1).trans hl0)) hsm (qV rfl (by kernel_rfl) rfl (z3f ((zM hrx1).trans z83)) (by simp [z0t, kF, jY]) qM), zV (by kernel_rfl) (zV (by kernel_rfl) qM), by kernel_rfl, ?_⟩
 simp (maxSteps:=1000000) (disch:=first|assumption|omega|rfl) only [↓gp, gc, Nat.reduceAdd, z80, hrx2, zaw, hpx2]
 refine ⟨rfl, _, rfl, ?_, h4.err _, rfl⟩
 exact ((Frm.keep (hk1.trans hK2))).set (fun q hq => by cases getE h0.hx hq; rfl)
theorem zbe (S : Store) (x c r m mk : Nat) (l : Lay) (e : Int) (C : CS) (mf : Int → Option V) (h0 : StoreP S x c r m mk l e C mf) (no : Int) (p dv : V) (a : Int) (b : List UInt8) (hp : PatV S p dv a b) (ha : InB a) (nd : V) (ids : List Int) (hnd : IntsV S nd ids) (hids : ids.length ≤ 50000) (hl : C.last < 100000) :
  EvS cfg 23 [.ref x 0 0, .d (.int .i64 no), p, nd] S (fun o S' => FrS m r S S' ∧ StoreP S' x c r m mk l (spE e C no a b ids) (spC e C no a b ids) mf ∧ o = .ret (.d (.int .i64 (spI e C no a b ids)))) := by
 by_cases he : e = 0
 ·subst he
  by_cases hpe : putE C no a b (noZ ids) ≠ 0
  ·refine z4q (znn S x c r m mk l C mf h0 no p dv a b hp ha nd ids hnd hids hpe) fun o S' h => ?_
   unfold spE spC spI
   have hz : ¬ ((0 : Int) ≠ 0) := fun h => h rfl
   rw [if_neg hz, if_neg hz, if_neg hz, if_pos hpe, if_pos hpe]
   exact h
  ·have hpe' : putE C no a b (noZ ids) = 0 := by omega
   have hpk : kW a b := by
    by_cases h : kW a b
    ·exact h
    ·unfold putE at hpe'; rw [if_pos h] at hpe'; cases hpe'
   have hrg : ∀ y ∈ noZ ids, 1 ≤ y ∧ y ≤ (C.last : Int) := by
    by_cases h : ∀ y ∈ noZ ids, 1 ≤ y ∧ y ≤ (C.last : Int)
    ·exact h
    ·unfold putE at hpe'; rw [if_neg (fun hh => hh hpk), if_pos h] at hpe'; cases hpe'
   have hno : ¬ (no < 0 ∨ no ≥ C.img.length) := by
    intro h
    unfold putE at hpe'
    rw [if_neg (fun hh => hh hpk), if_neg (fun hh => hh hrg), if_pos h] at hpe'
    cases hpe'
   obtain ⟨k, rfl⟩ : ∃ k : Nat, no = k := ⟨no.toNat, by omega⟩
   have hnl : (noZ ids).length ≤ 50000 := Nat.le_trans (List.length_filter_le ..) hids
   have hnd2 := zfz h0.ca.ok (l := noZ ids)
   refine z4q (zt7 S x c r m mk l C mf h0 k (by omega) p dv a b hp hpk ha nd ids (z97 C (noZ ids)) hnd (by omega) (fun S1 v h1 h2 => zlb S1 c r m C h1 v (noZ ids) h2 hnl hrg) hnd2.1 hnd2.2 hl) fun o S' h => ?_
   unfold spE spC spI
   have hz : ¬ ((0 : Int) ≠ 0) := fun h => h rfl
   rw [if_neg hz, if_neg hz, if_neg hz, if_neg hpe, if_neg hpe, hpe']
   exact h
 ·refine z4q (zpd S x c r m mk l e C mf h0 he (.d (.int .i64 no)) p nd hp.ft) fun o S' ⟨h1, h2⟩ => ?_
  unfold spE spC spI
  rw [if_pos he, if_pos he, if_pos he]
  exact ⟨Frm.keep h1, h0.keep h1, h2⟩
theorem zzg {n : Int} {b : List UInt8} : wP Try.prog 56 [(0, .d (.int .i64 n)), (1, .d (encB b))] = some (.agg [.d (.int .i64 n), .d (encB b)]) := by kernel_rfl
theorem zoh {ops : Array Oper} {dst : Option Tmp} {k : List Oper} {T : List V} {S : Store} {F : Dfs} {Q : Post} {u : V} {b : List UInt8} (hu : IsB u b) (hb : b.length = 256) : WpR cfg ops dst k T S F Q (some (.enter 69 [u, .d (.int .i64 0), .d (.int .i64 256)])) = WpL cfg ops k (putT T dst (.d (encB b))) S F Q :=
 wJ (ds := [blkD b, .int .i64 0, .int .i64 256]) rfl (by simp only [allO, hu.frz (n := 10), zH]; rfl) (by rw [List.flatMap_cons, hu.frzIds]; rfl) (by
  have := zpw b hb 0 256 (by omega) (by omega)
  rw [List.drop_zero, List.take_of_length_le (by omega)] at this
  exact this)
theorem zob (S : Store) (x c r m mk : Nat) (l : Lay) (e : Int) (C : CS) (mf : Int → Option V) (h0 : StoreP S x c r m mk l e C mf) (no : Int) (u : V) (b : List UInt8) (hu : IsB u b) (hb : b.length = 256) (nd : V) (ids : List Int) (hnd : IntsV S nd ids) (hids : ids.length ≤ 50000) (hl : C.last < 100000) :
  EvS cfg 24 [.ref x 0 0, .d (.int .i64 no), u, nd] S (fun o S' => FrS m r S S' ∧ StoreP S' x c r m mk l (spE e C no 0 b ids) (spC e C no 0 b ids) mf ∧ o = .ret (.d (.int .i64 (spI e C no 0 b ids)))) := by
 refine qN rfl zvx ?_
 show Wp cfg (Try.f24.body.getD .skip) ((.ref x 0 0) :: (.d (.int .i64 no)) :: u :: nd :: uZ ((.tup []) :: (.tup []) :: [])) S [] _
 unfold uZ
 conv => arg 2; whnf
 rw [zR]
 generalize hal : S.length = al
 have hf := bt42.fits hu hb
 have hld := bt42.load hu hb
 have hu1 := hu.one
 have hd1 := hnd.one
 have hk0 : Keep S (S ++ [.row [u] 42]) := Keep.refl.app
 have hc := fun {ops dst k T S F Q} => zoh (ops := ops) (dst := dst) (k := k) (T := T) (S := S) (F := F) (Q := Q) hu hb
 have hpt : PatV (S ++ [.row [u] 42]) (.agg [.d (.int .i64 0), .d (encB b)]) (.d (encB b)) 0 b := .inl ⟨rfl, .inr (.inl rfl)⟩
 have hp1 := hpt.one
 obtain ⟨o, S2, ⟨hF, hS, rfl⟩, hE⟩ := qR (zbe _ x c r m mk l e C mf (h0.keep hk0) no _ _ 0 b hpt (by unfold InB; omega) nd ids (hnd.keep hk0) hids hl)
 have hE := fun {ops dst k T F Q} => zQ (ops := ops) (dst := dst) (l := k) (T := T) (F := F) (Q := Q) rfl hE
 simp (maxSteps:=1000000) (disch:=first|assumption|omega|rfl) only [↓gp, gc, Nat.reduceAdd, hf, hal, rA0 hal, hld, hu1, hc, bo69, zzg, hd1, hp1, hE, bo23]
 exact ⟨rfl, _, rfl, (Frm.keep hk0).trans hF, hS, rfl⟩
def z71 (l : Lay) (ino : Int) : Prop := 1 ≤ ino ∧ ino ≤ l.inodes
instance {l : Lay} {ino : Int} : Decidable (z71 l ino) := by unfold z71; infer_instance
theorem zh7 (l : Lay) (hb : InB l.blocks) (hi : InB l.inodes) (hm : MayL l) (ino : Int) (h : ¬ z71 l ino) : Ev cfg 106 [encLay l, .int .i64 ino] (.ret (.d (.bool false))) := by
 refine jW rfl rfl zl9 ?_
 show Wp cfg (Try.f106.body.getD .skip) ((.d (encLay l)) :: (.d (.int .i64 ino)) :: uZ ((.tup []) :: (.tup []) :: (.tup []) :: (.tup []) :: (.tup []) :: [])) [] [] _
 unfold uZ
 conv => arg 2; whnf
 have hc : ∀ {ops dst k T S F Q}, WpR cfg ops dst k T S F Q (some (.enter 112 [.d (encLay l)])) = WpL cfg ops k (putT T dst (.d (.bool true))) S F Q := fun {ops dst k T S F Q} => qA (C := cfg) (ds := [encLay l]) rfl (zqg l hb hi hm)
 by_cases h1 : 1 ≤ ino
 ·have h2 : ¬ ino ≤ l.inodes := fun hh => h ⟨h1, hh⟩
  have h1' : ino ≥ 1 := h1
  simp (maxSteps:=1000000) (disch:=first|assumption|omega|rfl) only [↓gp, gc, Nat.reduceAdd, hc, zji, zL]
  exact zO rfl rfl rfl
 ·have h1' : ¬ ino ≥ 1 := h1
  simp (maxSteps:=1000000) (disch:=first|assumption|omega|rfl) only [↓gp, gc, Nat.reduceAdd, hc, zji, zL]
  exact zO rfl rfl rfl
theorem znd (l : Lay) (hb : InB l.blocks) (hi : InB l.inodes) (hm : MayL l) (ino : Int) (h : ¬ z71 l ino) : Ev cfg 70 [encLay l, .int .i64 ino] (.ret (.tup [.d (.int .i64 0), .d (.int .i64 0), .d (.bool false)])) := by
 refine jW rfl rfl zq8 ?_
 show Wp cfg (Try.f70.body.getD .skip) ((.d (encLay l)) :: (.d (.int .i64 ino)) :: uZ (uZ ((.tup []) :: (.tup []) :: (.tup []) :: (.tup []) :: []))) [] [] _
 unfold uZ
 conv => arg 2; whnf
 have hc : ∀ {ops dst k T S F Q}, WpR cfg ops dst k T S F Q (some (.enter 106 [.d (encLay l), .d (.int .i64 ino)])) = WpL cfg ops k (putT T dst (.d (.bool false))) S F Q := fun {ops dst k T S F Q} => qA (C := cfg) (ds := [encLay l, .int .i64 ino]) rfl (zh7 l hb hi hm ino h)
 simp (maxSteps:=1000000) (disch:=first|assumption|omega|rfl) only [↓gp, gc, Nat.reduceAdd, hc, zv0, kJ, Bool.not_false]
 exact z4v (r1 := .tmp 4) (r2 := .tmp 5) (l := [.tmp 6]) (vs := [.d (.int .i64 0), .d (.int .i64 0), .d (.bool false)]) (ds := [.int .i64 0, .int .i64 0, .bool false]) rfl rfl rfl
theorem zmc {ops : Array Oper} {dst : Option Tmp} {k : List Oper} {T : List V} {S : Store} {F : Dfs} {Q : Post} {l : Lay} (hb : InB l.blocks) (hi : InB l.inodes) (hm : MayL l) {ino : Int} (h : ¬ z71 l ino) : WpR cfg ops dst k T S F Q (some (.enter 70 [layV l, .d (.int .i64 ino)])) = WpL cfg ops k (putT T dst (.tup [.d (.int .i64 0), .d (.int .i64 0), .d (.bool false)])) S F Q :=
 zcd (ds := [encLay l, .int .i64 ino]) rfl rfl rfl (znd l hb hi hm ino h)
theorem q0m : wP Try.prog 56 [] = some (.agg [.d (.int .i64 0), .ts []]) := by kernel_rfl
theorem q0k : qI Try.prog 56 0 (.agg [.d (.int .i64 0), .ts []]) (.agg [.d (.int .i64 0), .ts []]) = some (.agg [.d (.int .i64 0), .ts []]) := by kernel_rfl
theorem q0a : qL Try.prog 56 0 (some (.agg [.d (.int .i64 0), .ts []])) = some (.agg [.d (.int .i64 0), .ts []]) := by kernel_rfl
theorem zgu (k0 : Nat) (hk0 : k0 < 8) (i : Ino) (h : ¬ MayI i) : Ev cfg 71 [.int .i64 (k0 : Int), zS i] (.ret (.tup [.d (patD 0 []), .d (.int .i64 1)])) := by
 refine jW rfl rfl zph ?_
 show Wp cfg (Try.f71.body.getD .skip) ((.d (.int .i64 (k0 : Int))) :: (.d (zS i)) :: uZ (uZ ((.tup []) :: (.tup []) :: (.tup []) :: (.tup []) :: (.tup []) :: (.tup []) :: (.tup []) :: (.tup []) :: []))) [] [] _
 unfold uZ
 conv => arg 2; whnf
 have c1 : ¬ (k0 : Int) < 0 := by omega
 have c2 : ¬ (k0 : Int) ≥ 8 := by omega
 have hf : zZ Try.prog 61 (.d (zS i)) = true := by kernel_rfl
 have hp : ∀ {ops dst k T S F Q}, WpR cfg ops dst k T S F Q (some (.enter 107 [.d (zS i)])) = WpL cfg ops k (putT T dst (.tup [.d (blkD (zC 32)), .d (.int .i64 1)])) S F Q := fun {ops dst k T S F Q} => qA (C := cfg) (ds := [zS i]) rfl (zin i h)
 have hst := bt158.store (jL (b := zC 32)) z32l (w := blkV (zC 32)) isB_v z32l
 simp (maxSteps:=1000000) (disch:=first|assumption|omega|rfl) only [↓gp, gc, Nat.reduceAdd, ↓vbs, hf, z56, zf56, z158, zdn, lrI, hp, zly, hst, zL, q0m, q0k]
 exact z0s rfl rfl ((zM rfl).trans q0a) rfl rfl rfl rfl
def siE (l : Lay) (e : Int) (C : CS) (ino : Int) (i : Ino) (ids : List Int) : Int := if e ≠ 0 then e else if ¬ z71 l ino then 2 else if ¬ MayI i then 1 else spE 0 C ((2 + (ino.toNat - 1) / 8 : Nat) : Int) (((ino.toNat - 1) % 8 * 32 : Nat) : Int) (putI i) ids
def siC (l : Lay) (e : Int) (C : CS) (ino : Int) (i : Ino) (ids : List Int) : CS := if e ≠ 0 then C else if ¬ z71 l ino then C else if ¬ MayI i then C else spC 0 C ((2 + (ino.toNat - 1) / 8 : Nat) : Int) (((ino.toNat - 1) % 8 * 32 : Nat) : Int) (putI i) ids
def siI (l : Lay) (e : Int) (C : CS) (ino : Int) (i : Ino) (ids : List Int) : Int := if e ≠ 0 then 0 else if ¬ z71 l ino then 0 else if ¬ MayI i then 0 else spI 0 C ((2 + (ino.toNat - 1) / 8 : Nat) : Int) (((ino.toNat - 1) % 8 * 32 : Nat) : Int) (putI i) ids
theorem zhg {ops : Array Oper} {dst : Option Tmp} {k : List Oper} {T : List V} {S : Store} {F : Dfs} {Q : Post} {v : V} {i : Ino} (hv : IsI v i) {k0 : Nat} (hk0 : k0 < 8) (h : ¬ MayI i) : WpR cfg ops dst k T S F Q (some (.enter 71 [.d (.int .i64 (k0 : Int)), v])) = WpL cfg ops k (putT T dst (.tup [.d (patD 0 []), .d (.int .i64 1)])) S F Q :=
 wJ (ds := [.int .i64 (k0 : Int), zS i]) rfl (by simp only [allO, hv.fz]; rfl) (by rw [List.flatMap_cons, List.flatMap_cons, hv.fi]; rfl) (zgu k0 hk0 i h)
theorem zi0 (S : Store) (x c r m mk : Nat) (l : Lay) (e : Int) (C : CS) (mf : Int → Option V) (h0 : StoreP S x c r m mk l e C mf) (hb : InB l.blocks) (hi : InB l.inodes) (hm : MayL l) (ino : Int) (v : V) (i : Ino) (hv : IsI v i) (nd : V) (ids : List Int) (hnd : IntsV S nd ids) (hids : ids.length ≤ 50000) (hl : C.last < 100000) :
  EvS cfg 25 [.ref x 0 0, .d (.int .i64 ino), v, nd] S (fun o S' => FrS m r S S' ∧ StoreP S' x c r m mk l (siE l e C ino i ids) (siC l e C ino i ids) mf ∧ o = .ret (.d (.int .i64 (siI l e C ino i ids)))) := by
 refine qN rfl zy7 ?_
 show Wp cfg (Try.f25.body.getD .skip) ((.ref x 0 0) :: (.d (.int .i64 ino)) :: v :: nd :: uZ (uZ (uZ (uZ ((.tup []) :: (.tup []) :: (.tup []) :: (.tup []) :: (.tup []) :: []))))) S [] _
 unfold uZ
 conv => arg 2; whnf
 rw [zR]
 generalize hal : S.length = al
 have hK : ∀ l, Keep S (S ++ l) := fun l => Keep.refl.app
 have hft := hv.ft
 have hl0 := hv.l0
 have hv1 := hv.one
 have hd1 := hnd.one
 have he := fun {ops dst k T F Q} l => zQ (ops := ops) (dst := dst) (l := k) (T := T) (F := F) (Q := Q) rfl (zcb _ x c mk _ _ _ e (h0.keep (hK l)).hx)
 have hrx := fun l => zK (e := 103) (h0.keep (hK l)).hx
 have hpx := fun l y => qH (y := y) (e := 103) (h0.keep (hK l)).hx
 unfold siE siC siI
 by_cases he0 : e ≠ 0
 ·rw [if_pos he0, if_pos he0, if_pos he0]
  have hde : ∀ i : Decidable (e ≠ 0), @decide (e ≠ 0) i = true := fun i => decide_eq_true he0
  simp (maxSteps:=1000000) (disch:=first|assumption|omega|rfl) only [↓gp, gc, Nat.reduceAdd, hft, hal, he, bo18, hde]
  exact ⟨rfl, _, rfl, Frm.refl.app, h0.keep (hK _), rfl⟩
 ·have he1 : e = 0 := Decidable.not_not.1 he0
  subst he1
  rw [if_neg he0, if_neg he0, if_neg he0]
  by_cases hin : z71 l ino
  ·have hn1 : ¬ ¬ z71 l ino := fun h => h hin
   rw [if_neg hn1, if_neg hn1, if_neg hn1]
   obtain ⟨g1, g2⟩ := hin
   obtain ⟨n, rfl⟩ : ∃ n : Nat, ino = n := ⟨ino.toNat, by omega⟩
   rw [Int.toNat_natCast]
   have hk8 : (n - 1) % 8 < 8 := Nat.mod_lt _ (by decide)
   have hw := fun {ops dst k T S F Q} => zag (ops := ops) (dst := dst) (k := k) (T := T) (S := S) (F := F) (Q := Q) hb hi hm (by omega : 1 ≤ n) g2
   by_cases hmi : MayI i
   ·have hn2 : ¬ ¬ MayI i := fun h => h hmi
    rw [if_neg hn2, if_neg hn2, if_neg hn2]
    have htp := fun {ops dst k T S F Q} => ze1 (ops := ops) (dst := dst) (k := k) (T := T) (S := S) (F := F) (Q := Q) hv (zhu _ hk8 i (putI i) z5h (zij i hmi))
    have hPt : PatV (S ++ [.row [v] 61, .row [.d (patD (((n - 1) % 8 * 32 : Nat) : Int) (putI i))] 56]) (.d (patD (((n - 1) % 8 * 32 : Nat) : Int) (putI i))) (.d (encB (putI i))) (((n - 1) % 8 * 32 : Nat) : Int) (putI i) := .inr ⟨rfl, rfl⟩
    obtain ⟨o, S2, ⟨hF, hC, rfl⟩, hE⟩ := qR (zbe _ x c r m mk l 0 C mf (h0.keep (hK _)) ((2 + (n - 1) / 8 : Nat) : Int) _ _ _ _ hPt (by unfold InB; omega) nd ids (hnd.keep (hK _)) hids hl)
    have hsp := fun {ops dst k T F Q} => zQ (ops := ops) (dst := dst) (l := k) (T := T) (F := F) (Q := Q) rfl hE
    simp (maxSteps:=1000000) (disch:=first|assumption|omega|rfl) only [↓gp, gc, Nat.reduceAdd, hft, hal, he, bo18, hrx, zb7, zeh, hw, bo70, kJ, Bool.not_true, List.append_assoc, List.length_append, List.length_cons, List.length_nil, rA0 hal, rA1 hal, pA1 hal, hl0, hv1, htp, bo71, z56, zf56, zva, zgr, hd1, hsp, bo23]
    exact ⟨rfl, _, rfl, (Frm.refl.app).trans hF, hC, rfl⟩
   ·rw [if_pos hmi, if_pos hmi, if_pos hmi]
    have htp := fun {ops dst k T S F Q} => zhg (ops := ops) (dst := dst) (k := k) (T := T) (S := S) (F := F) (Q := Q) hv hk8 hmi
    simp (maxSteps:=1000000) (disch:=first|assumption|omega|rfl) only [↓gp, gc, Nat.reduceAdd, hft, hal, he, bo18, hrx, hpx, zb7, z80, zeh, hw, bo70, kJ, Bool.not_true, List.append_assoc, List.length_append, List.length_cons, List.length_nil, rA0 hal, rA1 hal, pA1 hal, hl0, hv1, htp, bo71, z56, zf56, zva, zgr, zaw]
    exact ⟨rfl, _, rfl, (Frm.refl.app).set (fun q hq => by cases getE h0.hx hq; rfl), (h0.keep (hK _)).err 1, rfl⟩
  ·rw [if_pos hin, if_pos hin, if_pos hin]
   have hw := fun {ops dst k T S F Q} => zmc (ops := ops) (dst := dst) (k := k) (T := T) (S := S) (F := F) (Q := Q) hb hi hm hin
   simp (maxSteps:=1000000) (disch:=first|assumption|omega|rfl) only [↓gp, gc, Nat.reduceAdd, hft, hal, he, bo18, hrx, hpx, zb7, z80, zeh, hw, bo70, kJ, Bool.not_false, zaw]
   exact ⟨rfl, _, rfl, (Frm.refl.app).set (fun q hq => by cases getE h0.hx hq; rfl), (h0.keep (hK _)).err 2, rfl⟩
def fulL (x : UInt8) : List UInt8 := List.replicate 256 x
theorem z4l {x : UInt8} : (fulL x).length = 256 := by unfold fulL; rw [List.length_replicate]
theorem zyd (x : UInt8) (R : Post) : ∀ (k j : Nat) (v : V) (g1 g5 g6 g7 g8 g9 gM gF gG : V), 256 - j = k → j ≤ 256 → IsB v (wF (fulL x) j) →
 (∀ v j' g1 g5 g6 g7 g8 g9 gM gF gG, IsB v (fulL x) → R (.exit 0) ((.d (byD x)) :: g1 :: (.ref 0 0 0) :: (.ref 1 0 0) :: j' :: g5 :: g6 :: g7 :: g8 :: g9 :: gM :: gF :: gG :: []) [.row [blkV (zC 256)] 42, .row [v] 42] []) →
 Wp cfg (.loop (lpOf (Try.f82.body.getD .skip) 0)) ((.d (byD x)) :: g1 :: (.ref 0 0 0) :: (.ref 1 0 0) :: (.d (.int .i64 (j : Int))) :: g5 :: g6 :: g7 :: g8 :: g9 :: gM :: gF :: gG :: []) [.row [blkV (zC 256)] 42, .row [v] 42] [] R := by
 intro k
 have htl : (fulL x).length = 256 := z4l
 induction k with
 | zero =>
  intro j v g1 g5 g6 g7 g8 g9 gM gF gG hk hj hv hR
  have hje : j = 256 := by omega
  subst hje
  have e : wF (fulL x) 256 = fulL x := by
   have : wF (fulL x) (fulL x).length = fulL x := by unfold wF zC; rw [List.take_length, Nat.sub_self]; simp
   rw [htl] at this; exact this
  rw [e] at hv
  have h7 : ¬ ((256 : Nat) : Int) < 256 := by omega
  rw [zR]
  refine zJ ?_
  conv => arg 2; whnf
  simp (maxSteps:=1000000) (disch:=first|assumption|omega|rfl) only [↓gp, gc, Nat.reduceAdd]
  exact hR _ _ _ _ _ _ _ _ _ _ _ hv
 | succ k ih =>
  intro j v g1 g5 g6 g7 g8 g9 gM gF gG hk hj hv hR
  have hlt : j < 256 := by omega
  have hlt7 : (j : Int) < 256 := by omega
  have hfl := z4z (t := fulL x) (i := j) (by omega)
  have h3 : IntKind.i64.wrap ((j : Int) + 1) = ((j + 1 : Nat) : Int) := by rw [wrap64 (by omega)]; omega
  have hia := fun S j' y => ia42 (S := S) (j := j') (x := y) (i := j) (by omega)
  have he : (fulL x)[j]'(by omega) = x := by unfold fulL; rw [List.getElem_replicate]
  have hpt := bt42.put hv (hfl.trans htl) (i := j) (by omega) (x := (fulL x)[j]'(by omega))
  rw [z5b (by omega)] at hpt
  have hpt : qI Try.prog 5 j (.d (byD x)) v = some (blkV (wF (fulL x) (j + 1))) := by
   rw [← hpt, he]; rfl
  rw [zR]
  refine zJ ?_
  conv => arg 2; whnf
  simp (maxSteps:=1000000) (disch:=first|assumption|omega|rfl) only [↓gp, gc, Nat.reduceAdd, h3, hia, hpt]
  exact ih (j + 1) _ _ _ _ _ _ _ _ _ _ (by omega) (by omega) isB_v hR
theorem zrq (x : UInt8) : Ev cfg 82 [byD x] (.ret (.d (blkD (fulL x)))) := by
 refine jW rfl rfl zwv ?_
 show Wp cfg (Try.f82.body.getD .skip) ((.d (byD x)) :: uZ ((.tup []) :: (.tup []) :: [])) [] [] _
 unfold uZ
 conv => arg 2; whnf
 simp (maxSteps:=1000000) (disch:=first|assumption|omega|rfl) only [↓gp, gc, Nat.reduceAdd, z42, zf42]
 refine zyd x _ 256 0 _ _ _ _ _ _ _ _ _ _ rfl (Nat.zero_le _) (by
  have : wF (fulL x) 0 = zC 256 := by unfold wF; rw [List.take_zero, z4l]; rfl
  rw [this]; exact isB_v) ?_
 intro v j' g1 g5 g6 g7 g8 g9 gM gF gG hv
 have l0 := z256
 have hld := bt42.load hv z4l
 have hv1 := hv.one
 have hst := bt42.store hv z4l (w := blkV (zC 256)) isB_v z256
 simp (maxSteps:=1000000) (disch:=first|assumption|omega|rfl) only [↓gp, gc, Nat.reduceAdd, hld, hv1, hst]
 exact wK (u := .ref 0 0 0) (v := v) rfl ((zM rfl).trans hld) hv1 (hv.frz (n := 10))
theorem fd81 {a : Int} {b : List UInt8} : zZ Try.prog 81 (.d (patD a b)) = true := by kernel_rfl
theorem zpl {d x y : Nat} : zF Try.prog 81 0 (.ref d x y) = some (.ref d x (y + 0)) := by kernel_rfl
theorem zqa {d x y : Nat} : zF Try.prog 81 1 (.ref d x y) = some (.ref d x (y + 1)) := by kernel_rfl
theorem q2i {n : Int} : wP Try.prog 56 [(0, .d (.int .i64 n)), (1, .ts [])] = some (.agg [.d (.int .i64 n), .ts []]) := by kernel_rfl
theorem q1d {n : Int} : qI Try.prog 56 0 (.agg [.d (.int .i64 n), .ts []]) (.agg [.d (.int .i64 0), .ts []]) = some (.agg [.d (.int .i64 n), .ts []]) := by kernel_rfl
theorem q04 {n : Int} : qL Try.prog 56 0 (some (.agg [.d (.int .i64 n), .ts []])) = some (.agg [.d (.int .i64 n), .ts []]) := by kernel_rfl
theorem zrd {S : Store} {b : List UInt8} (h0 : b ≠ []) (hl : b.length ≤ 100000) : qE Try.prog S 40 40 (.ts []) (.d (encB b)) = some (.rs S.length 0 b.length, S ++ [rowY b], 2) :=
 PatV.app (p := .agg [.d (.int .i64 0), .d (encB b)]) (dv := .d (encB b)) (a := 0) (.inl ⟨rfl, .inr (.inl rfl)⟩) h0 hl
theorem ztl {S : Store} : qE Try.prog S 40 40 (.ts []) (.d (encB [])) = some (.ts [], S, 1) := by kernel_rfl
theorem q0u (a : Int) (b : List UInt8) (hl : b.length ≤ 100000) : Ev cfg 81 [patD a b] (.ret (.d (patD a b))) := by
 refine jW rfl rfl zw0 ?_
 show Wp cfg (Try.f81.body.getD .skip) ((.d (patD a b)) :: (.tup []) :: (.tup []) :: (.tup []) :: (.tup []) :: (.tup []) :: (.tup []) :: (.tup []) :: (.tup []) :: (.tup []) :: []) [] [] _
 conv => arg 2; whnf
 simp (maxSteps:=1000000) (disch:=first|assumption|omega|rfl) only [↓gp, gc, Nat.reduceAdd, fd81, z56, zf56]
 by_cases h0 : b = []
 ·subst h0
  refine kL (is := [0, 1, 2, 3, 4, 5, 6, 7]) (h := 0) (by kernel_rfl) (by kernel_rfl) ?_
  simp (maxSteps:=1000000) (disch:=first|assumption|omega|rfl) only [List.replicate_zero, eq_self, gw, ga, Nat.reduceAdd, ↓gq, vso, List.append_nil, zpl, zqa, z1v, z2t, z7u, ztl, q2i, q1d]
  refine ⟨zV (by kernel_rfl) (zV (by kernel_rfl) (zV (by kernel_rfl) qM)), by kernel_rfl, ?_⟩
  simp (maxSteps:=1000000) (disch:=first|assumption|omega|rfl) only [↓gp, gc, Nat.reduceAdd]
  exact wK (u := .ref 1 0 0) rfl ((zM rfl).trans q04) rfl rfl
 ·have hap := fun S => zrd (S := S) h0 hl
  refine kL (is := [0, 1, 2, 3, 4, 5, 6, 7]) (h := 0) (by kernel_rfl) (by kernel_rfl) ?_
  simp (maxSteps:=1000000) (disch:=first|assumption|omega|rfl) only [List.replicate_zero, eq_self, gw, ga, Nat.reduceAdd, ↓gq, vso, List.append_nil, zpl, zqa, z1v, z2t, z7u, hap, bd56, sr56]
  refine ⟨zV (by kernel_rfl) (qV rfl (by kernel_rfl) rfl (z3f ((zM rfl).trans z1v)) (kX (k := .i64) (n := a)) qM), zV (by kernel_rfl) (zV (by kernel_rfl) qM), by kernel_rfl, ?_⟩
  simp (maxSteps:=1000000) (disch:=first|assumption|omega|rfl) only [↓gp, gc, Nat.reduceAdd]
  refine wK (u := .ref 1 0 0) (v := .agg [.d (.int .i64 a), .rs 2 0 b.length]) rfl ((zM rfl).trans lr56) rfl ?_
  exact zlj (.inr ⟨2, by unfold bysV; rw [List.length_map], rfl⟩)
theorem u37' : Try.prog.underlying 37 = some (.slice 42) := by kernel_rfl
theorem s42z : (sz Try.prog 42).isSome = true := by kernel_rfl
def ImgV (C : CS) (i : Nat) (ws : List V) : Prop := ws.length = C.img.length ∧ ∀ (k : Nat) (w : V), ws[k]? = some w → IsB w (if k < i then C.see k else zC 256)
theorem zeq {ops : Array Oper} {dst : Option Tmp} {k : List Oper} {T : List V} {S : Store} {F : Dfs} {Q : Post} {l : Lay} (hb : InB l.blocks) (hi : InB l.inodes) (hm : MayL l) : WpR cfg ops dst k T S F Q (some (.enter 67 [.agg [.d (.int .i64 l.blocks), .d (.int .i64 l.inodes), .d (.int .u64 l.merge)]])) = WpL cfg ops k (putT T dst (.d (.int .i64 0))) S F Q :=
 zcd (ds := [encLay l]) rfl rfl rfl (by have := zfu l hb hi; rw [if_pos hm] at this; exact this)
theorem zxw (B c r m a id n : Nat) (l : Lay) (C : CS) (v : V) (hn : n = C.img.length) (hn2 : n ≤ 512) (hB : l.blocks = C.img.length) (hr : id ≠ r) (hra : B ≤ id) (S0 : Store) (h0 : S0.length ≤ id) (hok : C.Ok) (R : Post) :
 ∀ (k i : Nat) (S : Store) (ws : List V) (g0 g2 g4 g5 g6 g7 g8 g9 gM gF gG gB gE gH gI gD gL gN gK gJ gO gP : V), n - i = k → i ≤ n → CacheIn S B c r m C → ViewAt S v c l.blocks l.inodes l.merge → S[a]? = some (.row [v] 52) → S[id]? = some (.row ws 42) → ImgV C i ws → FrC m r S0 S →
 (∀ S ws i' g0 g2 g4 g5 g6 g7 g8 g9 gM gF gG gB gE gH gI gD gL gN gK gJ gO gP, CacheIn S B c r m C → S[id]? = some (.row ws 42) → ImgV C n ws → FrC m r S0 S → R (.exit 0) (g0 :: (.ref a 0 0) :: g2 :: (.rs id 0 n) :: g4 :: g5 :: g6 :: g7 :: g8 :: g9 :: gM :: gF :: gG :: gB :: (.d (.int .i64 (n : Int))) :: i' :: gE :: gH :: gI :: gD :: gL :: gN :: gK :: gJ :: gO :: gP :: []) S []) →
 Wp cfg (.loop (lpOf (Try.f22.body.getD .skip) 0)) (g0 :: (.ref a 0 0) :: g2 :: (.rs id 0 n) :: g4 :: g5 :: g6 :: g7 :: g8 :: g9 :: gM :: gF :: gG :: gB :: (.d (.int .i64 (n : Int))) :: (.d (.int .i64 (i : Int))) :: gE :: gH :: gI :: gD :: gL :: gN :: gK :: gJ :: gO :: gP :: []) S [] R := by
 intro k
 induction k with
 | zero =>
  intro i S ws g0 g2 g4 g5 g6 g7 g8 g9 gM gF gG gB gE gH gI gD gL gN gK gJ gO gP hk hi hC hV h52 hrow hI hF hR
  have hie : i = n := by omega
  subst hie
  rw [zR]
  refine zJ ?_
  conv => arg 2; whnf
  simp (maxSteps:=1000000) (disch:=first|assumption|omega|rfl) only [↓gp, gc, Nat.reduceAdd]
  exact hR _ _ _ _ _ _ _ _ _ _ _ _ _ _ _ _ _ _ _ _ _ _ _ _ _ hC hrow hI hF
 | succ k ih =>
  intro i S ws g0 g2 g4 g5 g6 g7 g8 g9 gM gF gG gB gE gH gI gD gL gN gK gJ gO gP hk hi hC hV h52 hrow hI hF hR
  have hlt : i < n := by omega
  have hV0 := hV
  obtain ⟨g, rfl, hg⟩ := hV
  have hr52 := zK (e := 52) h52
  obtain ⟨o, S2, ⟨hF2, hC2, u, rfl, hu⟩, hE⟩ := qR (zg1 S _ B c r m _ _ _ C hC hV0 hB i (by omega))
  have hE := fun {ops dst k T F Q} => zQ (ops := ops) (dst := dst) (l := k) (T := T) (F := F) (Q := Q) rfl hE
  have h3 : IntKind.i64.wrap ((i : Int) + 1) = ((i + 1 : Nat) : Int) := by rw [wrap64 (by omega)]; omega
  have hrow2 : S2[id]? = some (.row ws 42) := hF2.row hrow (zco hr)
  have hwl : i < ws.length := by rw [hI.1]; omega
  have hw := hI.2 i ws[i] (List.getElem?_eq_getElem hwl)
  rw [if_neg (by omega)] at hw
  have hsl := hok.see_len (no := i) (by omega)
  have hst := bt42.store hu hsl hw z256
  have hu1 := hu.one
  have hix : zE Try.prog S2 37 (.rs id 0 n) (.d (.int .i64 (i : Int))) = some (.ref id i 0) := by
   have e3 : rowT S2 id 42 = true := by simp only [rowT, hrow2, beq_self_eq_true]
   have e4 : (sz Try.prog 42).isSome = true := s42z
   simp only [zE, intOf?, u37', e3, e4]
   rw [if_pos ⟨⟨by omega, by omega⟩, trivial, trivial⟩, Nat.zero_add, Int.toNat_natCast]
  have hre : rowE S2 id i = some ws[i] := by unfold rowE; rw [hrow2]; exact List.getElem?_eq_getElem hwl
  have hpt : ∀ y, jF S2 id i y = some (S2.set id (.row (ws.set i y) 42)) := fun y => by simp only [jF, hrow2]
  rw [zR]
  refine zJ ?_
  conv => arg 2; whnf
  simp (maxSteps:=1000000) (disch:=first|assumption|omega|rfl) only [↓gp, gc, Nat.reduceAdd, hr52, lr52, zqo, hE, bo47, hu1, hix, hre, hst, hpt, h3]
  have hil := zN hrow2
  have hida : id ≠ a := by rintro rfl; have := getE hrow h52; simp at this
  refine ih (i + 1) _ _ _ _ _ _ _ _ _ _ _ _ _ _ _ _ _ _ _ _ _ _ _ _ (by omega) (by omega) (hC2.setn hra) ?_ ?_ (List.getElem?_set_self hil) ?_ ?_ hR
  ·obtain ⟨g2, e1, e2⟩ := hV0.frm hF2 rfl
   exact ⟨g2, e1, by rw [List.getElem?_set_ne (by rintro rfl; have := getE hrow2 e2; simp at this)]; exact e2⟩
  ·rw [List.getElem?_set_ne hida]; exact hF2.row h52 rfl
  ·refine ⟨by rw [List.length_set]; exact hI.1, fun j w hj => ?_⟩
   by_cases e : j = i
   ·subst e
    rw [List.getElem?_set_self hwl] at hj
    cases hj
    rw [if_pos (by omega)]; exact hu
   ·rw [List.getElem?_set_ne (Ne.symm e)] at hj
    have := hI.2 j w hj
    by_cases e2 : j < i
    ·rw [if_pos e2] at this; rw [if_pos (by omega)]; exact this
    ·rw [if_neg e2] at this; rw [if_neg (by omega)]; exact this
  ·exact (hF.trans hF2).setn h0
theorem zdb (S : Store) (v : V) (B c r m : Nat) (l : Lay) (C : CS) (h0 : CacheIn S B c r m C) (hV : ViewAt S v c l.blocks l.inodes l.merge) (hB : l.blocks = C.img.length) (hb : InB l.blocks) (hi : InB l.inodes) (hm : MayL l) :
  EvS cfg 22 [v] S (fun o S' => FrC m r S S' ∧ CacheIn S' B c r m C ∧ ∃ id ws, o = .ret (.rs id 0 C.img.length) ∧ S.length ≤ id ∧ S'[id]? = some (.row ws 42) ∧ ImgV C C.img.length ws) := by
 have hV0 := hV
 obtain ⟨g, rfl, hg⟩ := hV
 refine qN rfl zwy ?_
 show Wp cfg (Try.f22.body.getD .skip) ((z0k l.blocks l.inodes l.merge g) :: uZ (uZ ((.tup []) :: (.tup []) :: (.tup []) :: (.tup []) :: (.tup []) :: []))) S [] _
 unfold uZ
 conv => arg 2; whnf
 rw [zR]
 generalize ha : S.length = a
 have hck := fun {ops dst k T S F Q} => zeq (ops := ops) (dst := dst) (k := k) (T := T) (S := S) (F := F) (Q := Q) hb hi hm
 rw [hB] at hck
 have hok := h0.at.ok
 have hn := hok.n
 have hmk := fun S : Store => mk37 (S := S) (n := C.img.length) (by omega)
 have hrr : r < B := by
  obtain ⟨_, d, L, es, vs, f, z, w, q, h, _⟩ := h0
  exact z43 h.dk.hr
 have hBl := h0.1
 have hln : ∀ S : Store, zI Try.prog S .len [37] [.rs (a + 1) 0 C.img.length] = some (.val (.d (.int .i64 (C.img.length : Int))) S 0) := fun S => z9t u37'
 simp (maxSteps:=1000000) (disch:=first|assumption|omega|rfl) only [↓gp, gc, Nat.reduceAdd, ft52, ha, rA0 ha, zjw, zaj, zpi, zpo, hck, bo67, hB, hmk, List.append_assoc, List.length_append, List.length_cons, List.length_nil, hln]
 have hrep : ImgV C 0 (List.replicate C.img.length (blkV (zC 256))) := by
  refine ⟨List.length_replicate, fun k w hw => ?_⟩
  rw [List.getElem?_replicate] at hw
  split at hw
  ·cases hw; rw [if_neg (by omega)]; exact isB_v
  ·cases hw
 refine zxw B c r m a (a + 1) C.img.length l C _ rfl hn hB (by omega) (by omega) S (by omega) hok _ C.img.length 0 _ _ _ _ _ _ _ _ _ _ _ _ _ _ _ _ _ _ _ _ _ _ _ _ rfl (Nat.zero_le _) h0.app (hV0.keep Keep.refl.app) (by rw [hB, List.getElem?_append_right (by omega), ha, Nat.sub_self]; rfl) (by rw [List.getElem?_append_right (by omega), ha, Nat.add_sub_cancel_left]; rfl) hrep Frm.refl.app ?_
 intro S2 ws i' g0 g2 g4 g5 g6 g7 g8 g9 gM gF gG gB gE gH gI gD gL gN gK gJ gO gP hC hrow hI hF
 simp (maxSteps:=1000000) (disch:=first|assumption|omega|rfl) only [↓gp, gc, Nat.reduceAdd]
 exact ⟨rfl, _, rfl, hF, hC, a + 1, ws, rfl, by omega, hrow, hI⟩
end Go.Proofs.Ytobgdmgldagjkaa
end
