/- Slots of a list by their number. -/
import Derived.Test.YtghllhghboaagaaDoorW06
/-! Slots of a list by their number. -/
section
set_option linter.unusedVariables false
namespace Go.Vm
theorem vgd :
  (∀ {a x : V} {r : List V}, (a :: r).getD 0 x = a) ∧
  (∀ {a b x : V} {r : List V}, (a :: b :: r).getD 1 x = b) ∧
  (∀ {a b c x : V} {r : List V}, (a :: b :: c :: r).getD 2 x = c) ∧
  (∀ {a b c d x : V} {r : List V}, (a :: b :: c :: d :: r).getD 3 x = d) ∧
  (∀ {a b c d e x : V} {r : List V}, (a :: b :: c :: d :: e :: r).getD 4 x = e) ∧
  (∀ {a b c d e f x : V} {r : List V}, (a :: b :: c :: d :: e :: f :: r).getD 5 x = f) ∧
  (∀ {a b c d e f g x : V} {r : List V}, (a :: b :: c :: d :: e :: f :: g :: r).getD 6 x = g) ∧
  (∀ {a b c d e f g h x : V} {r : List V}, (a :: b :: c :: d :: e :: f :: g :: h :: r).getD 7 x = h) ∧
  (∀ {a b c d e f g h x : V} {r : List V} {n : Nat}, (a :: b :: c :: d :: e :: f :: g :: h :: r).getD (n + 8) x = r.getD n x) ∧
  (∀ {a b c d e f g h a1 b1 c1 d1 e1 f1 g1 h1 x : V} {r : List V} {n : Nat}, (a :: b :: c :: d :: e :: f :: g :: h :: a1 :: b1 :: c1 :: d1 :: e1 :: f1 :: g1 :: h1 :: r).getD (n + 16) x = r.getD n x) ∧
  (∀ {a b c d e f g h a1 b1 c1 d1 e1 f1 g1 h1 a2 b2 c2 d2 e2 f2 g2 h2 a3 b3 c3 d3 e3 f3 g3 h3 x : V} {r : List V} {n : Nat}, (a :: b :: c :: d :: e :: f :: g :: h :: a1 :: b1 :: c1 :: d1 :: e1 :: f1 :: g1 :: h1 :: a2 :: b2 :: c2 :: d2 :: e2 :: f2 :: g2 :: h2 :: a3 :: b3 :: c3 :: d3 :: e3 :: f3 :: g3 :: h3 :: r).getD (n + 32) x = r.getD n x) ∧
  (∀ {a b c d e f g h a1 b1 c1 d1 e1 f1 g1 h1 a2 b2 c2 d2 e2 f2 g2 h2 a3 b3 c3 d3 e3 f3 g3 h3 a4 b4 c4 d4 e4 f4 g4 h4 a5 b5 c5 d5 e5 f5 g5 h5 a6 b6 c6 d6 e6 f6 g6 h6 a7 b7 c7 d7 e7 f7 g7 h7 x : V} {r : List V} {n : Nat}, (a :: b :: c :: d :: e :: f :: g :: h :: a1 :: b1 :: c1 :: d1 :: e1 :: f1 :: g1 :: h1 :: a2 :: b2 :: c2 :: d2 :: e2 :: f2 :: g2 :: h2 :: a3 :: b3 :: c3 :: d3 :: e3 :: f3 :: g3 :: h3 :: a4 :: b4 :: c4 :: d4 :: e4 :: f4 :: g4 :: h4 :: a5 :: b5 :: c5 :: d5 :: e5 :: f5 :: g5 :: h5 :: a6 :: b6 :: c6 :: d6 :: e6 :: f6 :: g6 :: h6 :: a7 :: b7 :: c7 :: d7 :: e7 :: f7 :: g7 :: h7 :: r).getD (n + 64) x = r.getD n x) :=
  ⟨rfl, rfl, rfl, rfl, rfl, rfl, rfl, rfl, rfl, rfl, rfl, rfl⟩
theorem vst :
  (∀ {a x : V} {r : List V}, (a :: r).set 0 x = x :: r) ∧
  (∀ {a b x : V} {r : List V}, (a :: b :: r).set 1 x = a :: x :: r) ∧
  (∀ {a b c x : V} {r : List V}, (a :: b :: c :: r).set 2 x = a :: b :: x :: r) ∧
  (∀ {a b c d x : V} {r : List V}, (a :: b :: c :: d :: r).set 3 x = a :: b :: c :: x :: r) ∧
  (∀ {a b c d e x : V} {r : List V}, (a :: b :: c :: d :: e :: r).set 4 x = a :: b :: c :: d :: x :: r) ∧
  (∀ {a b c d e f x : V} {r : List V}, (a :: b :: c :: d :: e :: f :: r).set 5 x = a :: b :: c :: d :: e :: x :: r) ∧
  (∀ {a b c d e f g x : V} {r : List V}, (a :: b :: c :: d :: e :: f :: g :: r).set 6 x = a :: b :: c :: d :: e :: f :: x :: r) ∧
  (∀ {a b c d e f g h x : V} {r : List V}, (a :: b :: c :: d :: e :: f :: g :: h :: r).set 7 x = a :: b :: c :: d :: e :: f :: g :: x :: r) ∧
  (∀ {a b c d e f g h x : V} {r : List V} {n : Nat}, (a :: b :: c :: d :: e :: f :: g :: h :: r).set (n + 8) x = a :: b :: c :: d :: e :: f :: g :: h :: r.set n x) ∧
  (∀ {a b c d e f g h a1 b1 c1 d1 e1 f1 g1 h1 x : V} {r : List V} {n : Nat}, (a :: b :: c :: d :: e :: f :: g :: h :: a1 :: b1 :: c1 :: d1 :: e1 :: f1 :: g1 :: h1 :: r).set (n + 16) x = a :: b :: c :: d :: e :: f :: g :: h :: a1 :: b1 :: c1 :: d1 :: e1 :: f1 :: g1 :: h1 :: r.set n x) ∧
  (∀ {a b c d e f g h a1 b1 c1 d1 e1 f1 g1 h1 a2 b2 c2 d2 e2 f2 g2 h2 a3 b3 c3 d3 e3 f3 g3 h3 x : V} {r : List V} {n : Nat}, (a :: b :: c :: d :: e :: f :: g :: h :: a1 :: b1 :: c1 :: d1 :: e1 :: f1 :: g1 :: h1 :: a2 :: b2 :: c2 :: d2 :: e2 :: f2 :: g2 :: h2 :: a3 :: b3 :: c3 :: d3 :: e3 :: f3 :: g3 :: h3 :: r).set (n + 32) x = a :: b :: c :: d :: e :: f :: g :: h :: a1 :: b1 :: c1 :: d1 :: e1 :: f1 :: g1 :: h1 :: a2 :: b2 :: c2 :: d2 :: e2 :: f2 :: g2 :: h2 :: a3 :: b3 :: c3 :: d3 :: e3 :: f3 :: g3 :: h3 :: r.set n x) ∧
  (∀ {a b c d e f g h a1 b1 c1 d1 e1 f1 g1 h1 a2 b2 c2 d2 e2 f2 g2 h2 a3 b3 c3 d3 e3 f3 g3 h3 a4 b4 c4 d4 e4 f4 g4 h4 a5 b5 c5 d5 e5 f5 g5 h5 a6 b6 c6 d6 e6 f6 g6 h6 a7 b7 c7 d7 e7 f7 g7 h7 x : V} {r : List V} {n : Nat}, (a :: b :: c :: d :: e :: f :: g :: h :: a1 :: b1 :: c1 :: d1 :: e1 :: f1 :: g1 :: h1 :: a2 :: b2 :: c2 :: d2 :: e2 :: f2 :: g2 :: h2 :: a3 :: b3 :: c3 :: d3 :: e3 :: f3 :: g3 :: h3 :: a4 :: b4 :: c4 :: d4 :: e4 :: f4 :: g4 :: h4 :: a5 :: b5 :: c5 :: d5 :: e5 :: f5 :: g5 :: h5 :: a6 :: b6 :: c6 :: d6 :: e6 :: f6 :: g6 :: h6 :: a7 :: b7 :: c7 :: d7 :: e7 :: f7 :: g7 :: h7 :: r).set (n + 64) x = a :: b :: c :: d :: e :: f :: g :: h :: a1 :: b1 :: c1 :: d1 :: e1 :: f1 :: g1 :: h1 :: a2 :: b2 :: c2 :: d2 :: e2 :: f2 :: g2 :: h2 :: a3 :: b3 :: c3 :: d3 :: e3 :: f3 :: g3 :: h3 :: a4 :: b4 :: c4 :: d4 :: e4 :: f4 :: g4 :: h4 :: a5 :: b5 :: c5 :: d5 :: e5 :: f5 :: g5 :: h5 :: a6 :: b6 :: c6 :: d6 :: e6 :: f6 :: g6 :: h6 :: a7 :: b7 :: c7 :: d7 :: e7 :: f7 :: g7 :: h7 :: r.set n x) :=
  ⟨rfl, rfl, rfl, rfl, rfl, rfl, rfl, rfl, rfl, rfl, rfl, rfl⟩
theorem vix :
  (∀ {a : V} {r : List V}, (a :: r)[0]? = some a) ∧
  (∀ {a b : V} {r : List V}, (a :: b :: r)[1]? = some b) ∧
  (∀ {a b c : V} {r : List V}, (a :: b :: c :: r)[2]? = some c) ∧
  (∀ {a b c d : V} {r : List V}, (a :: b :: c :: d :: r)[3]? = some d) ∧
  (∀ {a b c d e : V} {r : List V}, (a :: b :: c :: d :: e :: r)[4]? = some e) ∧
  (∀ {a b c d e f : V} {r : List V}, (a :: b :: c :: d :: e :: f :: r)[5]? = some f) ∧
  (∀ {a b c d e f g : V} {r : List V}, (a :: b :: c :: d :: e :: f :: g :: r)[6]? = some g) ∧
  (∀ {a b c d e f g h : V} {r : List V}, (a :: b :: c :: d :: e :: f :: g :: h :: r)[7]? = some h) ∧
  (∀ {a b c d e f g h : V} {r : List V} {n : Nat}, (a :: b :: c :: d :: e :: f :: g :: h :: r)[n + 8]? = r[n]?) ∧
  (∀ {a b c d e f g h a1 b1 c1 d1 e1 f1 g1 h1 : V} {r : List V} {n : Nat}, (a :: b :: c :: d :: e :: f :: g :: h :: a1 :: b1 :: c1 :: d1 :: e1 :: f1 :: g1 :: h1 :: r)[n + 16]? = r[n]?) ∧
  (∀ {a b c d e f g h a1 b1 c1 d1 e1 f1 g1 h1 a2 b2 c2 d2 e2 f2 g2 h2 a3 b3 c3 d3 e3 f3 g3 h3 : V} {r : List V} {n : Nat}, (a :: b :: c :: d :: e :: f :: g :: h :: a1 :: b1 :: c1 :: d1 :: e1 :: f1 :: g1 :: h1 :: a2 :: b2 :: c2 :: d2 :: e2 :: f2 :: g2 :: h2 :: a3 :: b3 :: c3 :: d3 :: e3 :: f3 :: g3 :: h3 :: r)[n + 32]? = r[n]?) ∧
  (∀ {a b c d e f g h a1 b1 c1 d1 e1 f1 g1 h1 a2 b2 c2 d2 e2 f2 g2 h2 a3 b3 c3 d3 e3 f3 g3 h3 a4 b4 c4 d4 e4 f4 g4 h4 a5 b5 c5 d5 e5 f5 g5 h5 a6 b6 c6 d6 e6 f6 g6 h6 a7 b7 c7 d7 e7 f7 g7 h7 : V} {r : List V} {n : Nat}, (a :: b :: c :: d :: e :: f :: g :: h :: a1 :: b1 :: c1 :: d1 :: e1 :: f1 :: g1 :: h1 :: a2 :: b2 :: c2 :: d2 :: e2 :: f2 :: g2 :: h2 :: a3 :: b3 :: c3 :: d3 :: e3 :: f3 :: g3 :: h3 :: a4 :: b4 :: c4 :: d4 :: e4 :: f4 :: g4 :: h4 :: a5 :: b5 :: c5 :: d5 :: e5 :: f5 :: g5 :: h5 :: a6 :: b6 :: c6 :: d6 :: e6 :: f6 :: g6 :: h6 :: a7 :: b7 :: c7 :: d7 :: e7 :: f7 :: g7 :: h7 :: r)[n + 64]? = r[n]?) :=
  ⟨rfl, rfl, rfl, rfl, rfl, rfl, rfl, rfl, rfl, rfl, rfl, rfl⟩
end Go.Vm
end
/-! Rules of rewriting: slices that are made in regions that draw, and calls apart that are handed one of them. -/
section
set_option linter.unusedVariables false
set_option linter.unusedSimpArgs false
namespace Go.Vm
open Go
/-- A store that is told object by object. -/
theorem vso :
  (∀ {a : Ob} {l : Store}, (a :: l)[0]? = some a) ∧
  (∀ {a : Ob} {l : Store} {n : Nat}, (a :: l)[n + 1]? = l[n]?) ∧
  (∀ {a b : Ob} {l : Store}, (a :: l).set 0 b = b :: l) ∧
  (∀ {a b : Ob} {l : Store} {n : Nat}, (a :: l).set (n + 1) b = a :: l.set n b) ∧
  (∀ {n : Nat}, List.replicate (n + 1) Ob.hole = .hole :: List.replicate n .hole) ∧
  (List.replicate 0 Ob.hole = []) :=
  ⟨rfl, rfl, rfl, rfl, rfl, rfl⟩
def mkO (P : Program) (e : TypeId) (z : V) : V → V → Option (Ob × (Nat → V))
  | .d (.int .i64 l), .d (.int .i64 c) => if 0 ≤ l ∧ l ≤ c ∧ c ≤ 9223372036854775807 then if room P e c.toNat && fitsT P e z then
          some (.row (List.replicate c.toNat z) e, fun id => .rs id 0 l.toNat) else none else none
  | _, _ => none
theorem mk_in {P : Program} {e : TypeId} {z : V} {n : Int} (hr : room P e n.toNat = true) (hf : fitsT P e z = true) (h0 : 0 ≤ n) (h1 : n ≤ 1000000) : mkO P e z (.d (.int .i64 n)) (.d (.int .i64 n)) = some (.row (List.replicate n.toNat z) e, fun id => .rs id 0 n.toNat) := by
  simp only [mkO]
  rw [if_pos ⟨h0, Int.le_refl _, by omega⟩, if_pos (by rw [hr, hf]; rfl)]
section
variable {C : Cfg} {S : Store} {T : List V} {dst : Option Tmp} {ops : Array Oper} {F : Dfs} {Q : Post} {K : List Nat → List (Nat × Nat) → List V → Store → Prop} {rd : List Nat} {cs : List (Nat × Nat)} {i : Nat}
theorem wa_some {base : Nat} {K : List (Nat × Nat) → List V → Store → Prop} {ob : Ob} {f : Nat → V} : WpA base K cs i dst T S (some (ob, f)) = (S[base + i]? = some .hole ∧ K (cs ++ [(i, 2)]) (putT T dst (f (base + i))) (S.set (base + i) ob)) := rfl
theorem ak_make {ty : TypeId} {pos : String} {after : Array Edge} {g : Option (Nat × Bool)} {t : TypeId} {l c : Operand} : addsK ⟨dst, .makeSlice t l c, ty, pos, after, g⟩ = true := rfl
theorem ad_make {P : Program} {ty : TypeId} {pos : String} {after : Array Edge} {g : Option (Nat × Bool)} {t e : TypeId} {l c : Operand} {z : V} (hu : P.underlying t = some (.slice e)) (hz : zeroV P e = some z) : addO P T ⟨dst, .makeSlice t l c, ty, pos, after, g⟩ = mkO P e z (evalO T l) (evalO T c) := by
  simp only [addO, hu, hz]
  unfold mkO
  split
  · rename_i heq; simp only [Option.some.injEq] at heq; obtain ⟨h1, h2, h3⟩ := And.intro ‹_› (And.intro ‹_› heq); subst h3; simp_all
  · rename_i h; split
    · exfalso; simp_all
    · rfl
theorem mark_one {id : Nat} {xs : List D} {e : TypeId} (hr : S[id]? = some (.row (xs.map .d) e)) : mark S [id] S [id] = some (S.set id (.fz xs e)) := by
  have h3 : allO (frz S frzFuel) (xs.map V.d) = some xs := allO_d (n := 11) xs
  have h4 : (xs.map V.d).flatMap (frzIds S frzFuel) = [] := flat_d xs
  simp only [mark, hr, frzOb, h3, Option.map_some, obIds, h4, List.all_nil, if_true]
theorem call_row {n : Nat} {f : FuncId} {args : List V} {ds : List D} {v : V} {id : Nat} {xs : List D} {e : TypeId} (hs : C.shared f = false) (hf : allO (frz S frzFuel) args = some ds) (hi : args.flatMap (frzIds S frzFuel) = [id]) (hr : S[id]? = some (.row (xs.map .d) e)) (hp : plainOut (.ret v) = false) (hn : answer C (run C n) f ds = some (.ret v)) : callV C (run C n) f args S = some (.ret v, S.set id (.fz xs e), 3) := by
  unfold callV
  simp only [hs, Bool.false_eq_true, if_false, hf, hn, hi, List.isEmpty_cons, hp, mark_one hr]
/-- A call apart that is handed a row of data, in a region that draws. -/
theorem we_call_row {f : FuncId} {args : List V} {ds : List D} {v : V} {id : Nat} {xs : List D} {e : TypeId} (hs : C.shared f = false) (hf : allO (frz S frzFuel) args = some ds) (hi : args.flatMap (frzIds S frzFuel) = [id]) (hr : S[id]? = some (.row (xs.map .d) e)) (hp : plainOut (.ret v) = false) (he : Ev C f ds (.ret v)) :
    WpE C ops F Q K rd cs i dst T S (some (.enter f args)) = (bitsOk ops rd i 3 ∧ K rd (cs ++ [(i, 3)]) (putT T dst v) (S.set id (.fz xs e))) := by
  obtain ⟨n, hn⟩ := he
  have hc : callV C (run C n) f args S = some (.ret v, S.set id (.fz xs e), 3) := call_row hs hf hi hr hp hn
  apply propext
  constructor
  · rintro ⟨m, v', S', c, h1, h2, h3⟩
    have := callV_det h1 hc
    simp only [Prod.mk.injEq] at this
    obtain ⟨h4, rfl, rfl⟩ := this
    cases h4
    exact ⟨h2, h3⟩
  · exact fun h => ⟨n, _, _, _, hc, h.1, h.2⟩
theorem rep_map {n : Nat} {x : D} : List.replicate n (V.d x) = (List.replicate n x).map .d := by simp
end
section
variable {C : Cfg} {ops : Array Oper} {dst : Option Tmp} {ty : TypeId} {pos : String} {after : Array Edge} {l : List Oper} {T : List V} {S : Store} {F : Dfs} {Q : Post} {t : TypeId} {n : Nat} {ps : Array (Nat × Operand)} {d2 : Option Tmp} {ty2 : TypeId} {pos2 : String} {after2 : Array Edge} {g2 : Option (Nat × Bool)}
theorem wl_bs_assign {x : Operand} : WpL C ops (⟨dst, .buildSlice t n ps, ty, pos, after, none⟩ :: ⟨d2, .assign x, ty2, pos2, after2, g2⟩ :: l) T S F Q = WpR C ops dst (⟨d2, .assign x, ty2, pos2, after2, g2⟩ :: l) T S F Q (opV C.P S T ⟨dst, .buildSlice t n ps, ty, pos, after, none⟩) := wl_op' rfl
theorem wl_bs_move {x : Operand} : WpL C ops (⟨dst, .buildSlice t n ps, ty, pos, after, none⟩ :: ⟨d2, .move x, ty2, pos2, after2, g2⟩ :: l) T S F Q = WpR C ops dst (⟨d2, .move x, ty2, pos2, after2, g2⟩ :: l) T S F Q (opV C.P S T ⟨dst, .buildSlice t n ps, ty, pos, after, none⟩) := wl_op' rfl
theorem wl_bs_fieldAddr {s : TypeId} {x : Operand} {f : Nat} : WpL C ops (⟨dst, .buildSlice t n ps, ty, pos, after, none⟩ :: ⟨d2, .fieldAddr s x f, ty2, pos2, after2, g2⟩ :: l) T S F Q = WpR C ops dst (⟨d2, .fieldAddr s x f, ty2, pos2, after2, g2⟩ :: l) T S F Q (opV C.P S T ⟨dst, .buildSlice t n ps, ty, pos, after, none⟩) := wl_op' rfl
theorem wl_bs_build {s : TypeId} {qs : Array (Nat × Operand)} : WpL C ops (⟨dst, .buildSlice t n ps, ty, pos, after, none⟩ :: ⟨d2, .build s qs, ty2, pos2, after2, g2⟩ :: l) T S F Q = WpR C ops dst (⟨d2, .build s qs, ty2, pos2, after2, g2⟩ :: l) T S F Q (opV C.P S T ⟨dst, .buildSlice t n ps, ty, pos, after, none⟩) := wl_op' rfl
theorem wl_bs_bs {s : TypeId} {m : Nat} {qs : Array (Nat × Operand)} : WpL C ops (⟨dst, .buildSlice t n ps, ty, pos, after, none⟩ :: ⟨d2, .buildSlice s m qs, ty2, pos2, after2, g2⟩ :: l) T S F Q = WpR C ops dst (⟨d2, .buildSlice s m qs, ty2, pos2, after2, g2⟩ :: l) T S F Q (opV C.P S T ⟨dst, .buildSlice t n ps, ty, pos, after, none⟩) := wl_op' rfl
/-- Literals of slices, ahead of other operations. -/
theorem vbs :
  (∀ {C : Cfg} {ops : Array Oper} {dst : Option Tmp} {ty : TypeId} {pos : String} {after : Array Edge} {l : List Oper} {T : List V} {S : Store} {F : Dfs} {Q : Post} {t : TypeId} {n : Nat} {ps : Array (Nat × Operand)} {d2 : Option Tmp} {ty2 : TypeId} {pos2 : String} {after2 : Array Edge} {g2 : Option (Nat × Bool)} {x : Operand}, WpL C ops (⟨dst, .buildSlice t n ps, ty, pos, after, none⟩ :: ⟨d2, .assign x, ty2, pos2, after2, g2⟩ :: l) T S F Q = WpR C ops dst (⟨d2, .assign x, ty2, pos2, after2, g2⟩ :: l) T S F Q (opV C.P S T ⟨dst, .buildSlice t n ps, ty, pos, after, none⟩)) ∧
  (∀ {C : Cfg} {ops : Array Oper} {dst : Option Tmp} {ty : TypeId} {pos : String} {after : Array Edge} {l : List Oper} {T : List V} {S : Store} {F : Dfs} {Q : Post} {t : TypeId} {n : Nat} {ps : Array (Nat × Operand)} {d2 : Option Tmp} {ty2 : TypeId} {pos2 : String} {after2 : Array Edge} {g2 : Option (Nat × Bool)} {x : Operand}, WpL C ops (⟨dst, .buildSlice t n ps, ty, pos, after, none⟩ :: ⟨d2, .move x, ty2, pos2, after2, g2⟩ :: l) T S F Q = WpR C ops dst (⟨d2, .move x, ty2, pos2, after2, g2⟩ :: l) T S F Q (opV C.P S T ⟨dst, .buildSlice t n ps, ty, pos, after, none⟩)) ∧
  (∀ {C : Cfg} {ops : Array Oper} {dst : Option Tmp} {ty : TypeId} {pos : String} {after : Array Edge} {l : List Oper} {T : List V} {S : Store} {F : Dfs} {Q : Post} {t : TypeId} {n : Nat} {ps : Array (Nat × Operand)} {d2 : Option Tmp} {ty2 : TypeId} {pos2 : String} {after2 : Array Edge} {g2 : Option (Nat × Bool)} {s : TypeId} {x : Operand} {f : Nat}, WpL C ops (⟨dst, .buildSlice t n ps, ty, pos, after, none⟩ :: ⟨d2, .fieldAddr s x f, ty2, pos2, after2, g2⟩ :: l) T S F Q = WpR C ops dst (⟨d2, .fieldAddr s x f, ty2, pos2, after2, g2⟩ :: l) T S F Q (opV C.P S T ⟨dst, .buildSlice t n ps, ty, pos, after, none⟩)) ∧
  (∀ {C : Cfg} {ops : Array Oper} {dst : Option Tmp} {ty : TypeId} {pos : String} {after : Array Edge} {l : List Oper} {T : List V} {S : Store} {F : Dfs} {Q : Post} {t : TypeId} {n : Nat} {ps : Array (Nat × Operand)} {d2 : Option Tmp} {ty2 : TypeId} {pos2 : String} {after2 : Array Edge} {g2 : Option (Nat × Bool)} {s : TypeId} {qs : Array (Nat × Operand)}, WpL C ops (⟨dst, .buildSlice t n ps, ty, pos, after, none⟩ :: ⟨d2, .build s qs, ty2, pos2, after2, g2⟩ :: l) T S F Q = WpR C ops dst (⟨d2, .build s qs, ty2, pos2, after2, g2⟩ :: l) T S F Q (opV C.P S T ⟨dst, .buildSlice t n ps, ty, pos, after, none⟩)) ∧
  (∀ {C : Cfg} {ops : Array Oper} {dst : Option Tmp} {ty : TypeId} {pos : String} {after : Array Edge} {l : List Oper} {T : List V} {S : Store} {F : Dfs} {Q : Post} {t : TypeId} {n : Nat} {ps : Array (Nat × Operand)} {d2 : Option Tmp} {ty2 : TypeId} {pos2 : String} {after2 : Array Edge} {g2 : Option (Nat × Bool)} {s : TypeId} {m : Nat} {qs : Array (Nat × Operand)}, WpL C ops (⟨dst, .buildSlice t n ps, ty, pos, after, none⟩ :: ⟨d2, .buildSlice s m qs, ty2, pos2, after2, g2⟩ :: l) T S F Q = WpR C ops dst (⟨d2, .buildSlice s m qs, ty2, pos2, after2, g2⟩ :: l) T S F Q (opV C.P S T ⟨dst, .buildSlice t n ps, ty, pos, after, none⟩)) :=
  ⟨wl_bs_assign, wl_bs_move, wl_bs_fieldAddr, wl_bs_build, wl_bs_bs⟩
end
theorem append_all {P : Program} {S : Store} {t e : TypeId} {xs : List D} (hu : P.underlying t = some (.slice e)) (hz : zOk P e = true) (hs : (sz P e).isSome = true) (hf : ∀ x ∈ xs, fitsD P e x = true) (hr : room P e xs.length = true) :
    ∃ v' S' c, appendV P S t t (.ts []) (.d (.sl xs)) = some (v', S', c) ∧ OwnS S' v' e (xs.map .d) ∧ (∀ j o, S[j]? = some o → S'[j]? = some o ∧ NotAt v' j) ∧ S.length ≤ S'.length := by
  have hft : (xs.map V.d).all (fitsT P e) = true := by
    rw [List.all_map, List.all_eq_true]
    intro x hx
    have h := hf x hx
    unfold fitsD at h
    show fitsT P e (.d x) = true
    unfold fitsT
    simp only [Bool.and_eq_true] at h ⊢
    refine ⟨⟨rfl, h.1⟩, ?_⟩
    simpa [V.cells] using h.2
  have hsrc : srcV P S e t (.d (.sl xs)) = some (xs.map .d) := by
    simp only [srcV, hu, elemsV, hft, hs, Bool.and_self, if_true]
  cases xs with
  | nil => exact ⟨.ts [], S, 1, by simp only [appendV, hu, hsrc, List.map_nil], .inl ⟨rfl, rfl⟩, fun j o hj => ⟨hj, fun off l h => by cases h⟩, Nat.le_refl _⟩
  | cons y r =>
    refine ⟨.rs S.length 0 (r.length + 1), S ++ [.row ((y :: r).map .d) e], 2, ?_, .inr ⟨S.length, by simp, by simp⟩, fun j o hj => ⟨?_, ?_⟩, by simp⟩
    · have hr1 : room P e (0 + (r.length + 1)) = true := by simpa using hr
      simp only [appendV, hu, hsrc, hz, if_true, List.map_cons, List.all_nil, Bool.true_and, List.length_nil, List.length_map, List.map_nil, List.nil_append]
      rw [if_pos hr1, Nat.zero_add]
    · rw [List.getElem?_append_left (getLen hj)]; exact hj
    · intro off l h
      have := getLen hj
      cases h; omega
theorem rowE_app {S : Store} {x : V} {e : TypeId} : rowE (S ++ [.row [x] e]) S.length 0 = some x := rowE_of (e := e) (by simp)
theorem putRow_app {S : Store} {x y : V} {e : TypeId} : putRow (S ++ [.row [x] e]) S.length 0 y = some (S ++ [.row [y] e]) := by
  rw [putRow_of (x := x) (e := e) (by simp)]
  simp
end Go.Vm
end
/-! Rules for regions that draw and give up; calls by the store. -/
section
set_option linter.unusedVariables false
set_option linter.unusedSimpArgs false
namespace Go.Vm
open Go
section
variable {C : Cfg} {ops : Array Oper} {base : Nat} {F : Dfs} {Q : Post}
/-- The operations ahead of the one that gives up look at the store, or not even that. -/
def WpN (C : Cfg) (ops : Array Oper) (base : Nat) (K : List (Nat × Nat) → Nat → List Nat → V → Store → Prop) : List (Nat × Nat) → List Nat → List V → Store → Prop
  | _, [], _, _ => False
  | cs, i :: is, T, S => ∃ o, ops[i]? = some o ∧ ((∃ n v S', panO C (run C n) ops o T S = some (v, S') ∧ K cs i is v S') ∨ (∃ n v S' c, effC C (run C n) ops (base + i) o T S = some (v, S', c) ∧ c ≤ 2 ∧ WpN C ops base K (cs ++ [(i, c)]) is (putT T o.dst v) S'))
theorem wpN_ok {K : List (Nat × Nat) → Nat → List Nat → V → Store → Prop} : ∀ {is : List Nat} {cs : List (Nat × Nat)} {T : List V} {S : Store}, WpN C ops base K cs is T S → ∀ ws : List (Nat × List V × V), ∃ n v S' cs' p rest, seqP C (run C n) ops (befs ops) base ws is T S = some (v, S', cs', p, rest) ∧ K (cs ++ cs') p rest v S'
  | [], cs, T, S, h, ws => h.elim
  | i :: is, cs, T, S, h, ws => by
    obtain ⟨o, ho, h⟩ := h
    rcases h with ⟨n, v, S', h1, h2⟩ | ⟨n, v, S', c, h1, h2, h3⟩
    · exact ⟨n, v, S', [], i, is, by simp only [seqP, ho, h1], by simpa using h2⟩
    · obtain ⟨m, v2, S2, cs', p, rest, h4, h5⟩ := wpN_ok h3 (if c = 1 then (i, T, v) :: ws else ws)
      have he := effC_mono (run_le C (Nat.le_max_left n m)) h1
      have hs := seqP_mono (run_le C (Nat.le_max_right n m)) h4
      refine ⟨max n m, v2, S2, (i, c) :: cs', p, rest, ?_, by simpa using h5⟩
      simp only [seqP, ho, effC_panO he, he, hs]
      rw [if_neg (fun hh => by omega)]
theorem wk_draw_pan {id : Nat} {T : List V} {S : Store} {is : List Nat} {h : Nat} (ho : orderOf C.shared ops = is) (hh : holesN ops = h) (hd : WpN C ops S.length (fun cs p rest v S' => panOk C.P ops cs p rest = true ∧ Q (.pan v) T (killAll S.length rest S') F) [] is T (S ++ List.replicate h .hole)) : Wp C (.region id ops true) T S F Q := by
  subst ho; subst hh
  obtain ⟨n, v, S', cs', p, rest, h1, h2, h3⟩ := wpN_ok hd []
  refine ⟨n + 1, .pan v, T, _, F, ?_, h3⟩
  have hn : seqC C (run C n) ops (befs ops) S.length [] (orderOf C.shared ops) T (S ++ List.replicate (holesN ops) .hole) = none := seqP_none (fun _ _ _ _ h => h) h1
  simp only [exec, hn, h1]
  rw [if_pos (by simpa using h2)]
theorem eff_call {id : Nat} {o : Oper} {T : List V} {S : Store} {f : FuncId} {ds : List D} {v : V} (hw : wantedT ops T o = some true) (ha : addsK o = false) (hop : opV C.P S T o = some (.enter f (ds.map .d))) (hs : C.shared f = false) (he : Ev C f ds (.ret v)) : ∃ n, effC C (run C n) ops id o T S = some (v, S, 1) := by
  obtain ⟨n, hn⟩ := he
  have hn' : answer C (run C n) f ds = some (.ret v) := hn
  have hfz : ∀ ds : List D, allO (frz S frzFuel) (ds.map V.d) = some ds := by
    intro ds
    induction ds with
    | nil => rfl
    | cons x r ih => simp only [List.map_cons, allO, ih, frz_d]
  have hid : ((ds.map V.d).flatMap (frzIds S frzFuel)).isEmpty = true := by rw [flat_d]; rfl
  have hc : callV C (run C n) f (ds.map .d) S = some (.ret v, S, 1) := by
    unfold callV
    simp only [hs, Bool.false_eq_true, if_false, hfz, hn', hid, if_true]
  exact ⟨n, by simp only [effC, hw, ha, Bool.false_eq_true, if_false, hop, hc]; rfl⟩
theorem pan_call {o : Oper} {T : List V} {S : Store} {f : FuncId} {ds : List D} {v : V} (hw : wantedT ops T o = some true) (ha : addsK o = false) (hop : opV C.P S T o = some (.enter f (ds.map .d))) (hs : C.shared f = false) (he : Ev C f ds (.pan v)) : ∃ n, panO C (run C n) ops o T S = some (v, S) := by
  obtain ⟨n, hn⟩ := he
  have hn' : answer C (run C n) f ds = some (.pan v) := hn
  have hfz : ∀ ds : List D, allO (frz S frzFuel) (ds.map V.d) = some ds := by
    intro ds
    induction ds with
    | nil => rfl
    | cons x r ih => simp only [List.map_cons, allO, ih, frz_d]
  have hid : ((ds.map V.d).flatMap (frzIds S frzFuel)).isEmpty = true := by rw [flat_d]; rfl
  have hc : callV C (run C n) f (ds.map .d) S = some (.pan v, S, 1) := by
    unfold callV
    simp only [hs, Bool.false_eq_true, if_false, hfz, hn', hid, if_true]
  exact ⟨n, by simp only [panO, hw, ha, Bool.false_eq_true, if_false, hop, hc]⟩
theorem wpN_read {K : List (Nat × Nat) → Nat → List Nat → V → Store → Prop} {cs : List (Nat × Nat)} {i : Nat} {is : List Nat} {T : List V} {S S' : Store} {o : Oper} {v : V} {c : Nat} (ho : ops[i]? = some o) (he : effC C (run C 0) ops (base + i) o T S = some (v, S', c)) (hc : c ≤ 2) (hk : WpN C ops base K (cs ++ [(i, c)]) is (putT T o.dst v) S') : WpN C ops base K cs (i :: is) T S :=
  ⟨o, ho, .inr ⟨0, v, S', c, he, hc, hk⟩⟩
theorem wpN_call {K : List (Nat × Nat) → Nat → List Nat → V → Store → Prop} {cs : List (Nat × Nat)} {i : Nat} {is : List Nat} {T : List V} {S : Store} {o : Oper} {f : FuncId} {ds : List D} {v : V} (ho : ops[i]? = some o) (hw : wantedT ops T o = some true) (ha : addsK o = false) (hop : opV C.P S T o = some (.enter f (ds.map .d))) (hs : C.shared f = false) (he : Ev C f ds (.ret v)) (hk : WpN C ops base K (cs ++ [(i, 1)]) is (putT T o.dst v) S) : WpN C ops base K cs (i :: is) T S := by
  obtain ⟨n, hn⟩ := eff_call (id := base + i) hw ha hop hs he
  exact ⟨o, ho, .inr ⟨n, v, S, 1, hn, by omega, hk⟩⟩
theorem wpN_pan {K : List (Nat × Nat) → Nat → List Nat → V → Store → Prop} {cs : List (Nat × Nat)} {i : Nat} {is : List Nat} {T : List V} {S : Store} {o : Oper} {f : FuncId} {ds : List D} {v : V} (ho : ops[i]? = some o) (hw : wantedT ops T o = some true) (ha : addsK o = false) (hop : opV C.P S T o = some (.enter f (ds.map .d))) (hs : C.shared f = false) (he : Ev C f ds (.pan v)) (hk : K cs i is v S) : WpN C ops base K cs (i :: is) T S := by
  obtain ⟨n, hn⟩ := pan_call hw ha hop hs he
  exact ⟨o, ho, .inl ⟨n, v, S, hn, hk⟩⟩
/-- A call by the store. -/
theorem wr_callS {dst : Option Tmp} {l : List Oper} {T : List V} {S : Store} {f : FuncId} {args : List V} {R : Out → Store → Prop} (hs : C.shared f = true) (he : EvS C f args S R) (hk : ∀ v S', R (.ret v) S' → WpL C ops l (putT T dst v) S' F Q) (hpan : ∀ v S', R (.pan v) S' → Q (.pan v) T S' F) : WpR C ops dst l T S F Q (some (.enter f args)) := by
  obtain ⟨n, out, S', hn, hR⟩ := he
  have hc : callV C (run C n) f args S = some (out, S', 3) := by
    unfold callV
    simp only [hs, if_true, hn, Option.map_some]
  refine ⟨n, out, S', 3, hc, ?_⟩
  cases out with
  | ret v => exact hk v S' hR
  | pan v => exact hpan v S' hR
/-- A function that calls what it is handed. -/
theorem evS_catch {f g : FuncId} {first caps : List V} {S : Store} {R R' : Out → Store → Prop} {pst : Out → Option V} (hc : C.catch_ f = some pst) (he : EvS C g (first ++ caps) S R) (hR : ∀ o S', R o S' → ∃ v, pst o = some v ∧ R' (.ret v) S') : EvS C f [.fn (.func g) first caps] S R' := by
  obtain ⟨n, o, S', hn, hr⟩ := he
  obtain ⟨v, hv, hr'⟩ := hR o S' hr
  exact ⟨n + 1, .ret v, S', by simp only [run, hc, hn, hv], hr'⟩
/-- The end of a function that is called by the store. -/
def RQ (P : Program) (rs : Array ResultVar) (R : Out → Store → Prop) : Post := fun x T S F => F = [] ∧ match x with | .norm => ∃ v, resultsV P rs T S = some v ∧ R (.ret v) S | .ret => ∃ v, resultsV P rs T S = some v ∧ R (.ret v) S | .pan v => R (.pan v) S | .exit _ => False
theorem evS_of {f : FuncId} {c : Code} {n : Nat} {rs : Array ResultVar} {args : List V} {S : Store} {R : Out → Store → Prop} (hc : C.catch_ f = none) (hb : bodyOf C.P f = some ⟨c, n, rs⟩) (h : Wp C c (startT n args) S [] (RQ C.P rs R)) : EvS C f args S R := evS_of_wp hc hb h
def mfS (fn : Fn) (S : Store) (xs ys : List V) : Option Rs := if xs.all V.one && ys.all V.one then some (.val (.fn fn xs ys) S 0) else none
theorem wl_makeFunc {dst : Option Tmp} {ty : TypeId} {pos : String} {after : Array Edge} {l : List Oper} {T : List V} {S : Store} {fn : Fn} {first caps : Array Operand} : WpL C ops (⟨dst, .makeFunc fn first caps, ty, pos, after, none⟩ :: l) T S F Q = WpR C ops dst l T S F Q (mfS fn S (first.toList.map (evalO T)) (caps.toList.map (evalO T))) := by
  rw [wl_op rfl]; rfl
theorem mfS_one {fn : Fn} {S : Store} {xs ys : List V} (h : (xs.all V.one && ys.all V.one) = true) : mfS fn S xs ys = some (.val (.fn fn xs ys) S 0) := if_pos h
end
theorem ad_alloc {P : Program} {T : List V} {dst : Option Tmp} {ty : TypeId} {pos : String} {after : Array Edge} {g : Option (Nat × Bool)} {e : TypeId} {z : V} (hz : zeroV P e = some z) (hf : fitsT P e z = true) : addO P T ⟨dst, .alloc e, ty, pos, after, g⟩ = some (.row [z] e, fun id => .ref id 0 0) := by
  simp only [addO, hz, hf, if_true]
end Go.Vm
end
/-! Regions that draw, with their watches: a read may stand ahead of what turns the store, if it gives the same behind it. -/
section
set_option linter.unusedVariables false
set_option linter.unusedSimpArgs false
namespace Go.Vm
open Go
section
variable (C : Cfg) (ops : Array Oper) (base : Nat)
abbrev Ws := List (Nat × List V × V)
def WOne (i : Nat) (S' : Store) (w : Nat × List V × V) : Prop := ((befs ops).getD i 0).testBit w.1 = true ∨ ∃ o n v S2, ops[w.1]? = some o ∧ effC C (run C n) ops (base + w.1) o w.2.1 S' = some (v, S2, 1) ∧ sameV w.2.2 v = true
def WAll (ws : Ws) (i : Nat) (S' : Store) : Prop := ∀ w ∈ ws, WOne C ops base i S' w
def WpEw (K : Ws → List (Nat × Nat) → List V → Store → Prop) (ws : Ws) (cs : List (Nat × Nat)) (i : Nat) (dst : Option Tmp) (T : List V) (S : Store) : Option Rs → Prop
  | some (.val v S' c) => (2 < num2 c → WAll C ops base ws i S') ∧ K (if num2 c = 1 then (i, T, v) :: ws else ws) (cs ++ [(i, num2 c)]) (putT T dst v) S'
  | some (.skip S' _) => WAll C ops base ws i S' ∧ K ws (cs ++ [(i, 3)]) (putT T dst (.tup [])) S'
  | some (.enter f args) => ∃ n v S' c, callV C (run C n) f args S = some (.ret v, S', c) ∧ (2 < num2 c → WAll C ops base ws i S') ∧ K (if num2 c = 1 then (i, T, v) :: ws else ws) (cs ++ [(i, num2 c)]) (putT T dst v) S'
  | _ => False
def WpDw (F : Dfs) (Q : Post) : Ws → List (Nat × Nat) → List Nat → List V → Store → Prop
  | ws, cs, [], T, S => drawOk ops cs = true ∧ Q .norm T S F
  | ws, cs, i :: is, T, S => match ops[i]? with
    | none => False
    | some o => match wantedT ops T o with
      | none => False
      | some false => WpDw F Q ws (cs ++ [(i, 0)]) is (putT T o.dst (.tup [])) S
      | some true => if addsK o = true then WpA base (fun cs T S => WpDw F Q ws cs is T S) cs i o.dst T S (addO C.P T o)
        else WpEw C ops base (fun ws cs T S => WpDw F Q ws cs is T S) ws cs i o.dst T S (opV C.P S T o)
end
section
variable {C : Cfg} {ops : Array Oper} {base : Nat} {F : Dfs} {Q : Post}
theorem wall_ok {i : Nat} {S' : Store} : ∀ {ws : Ws}, WAll C ops base ws i S' → ∃ n, ∀ m, n ≤ m → ws.all (watchOk C (run C m) ops (befs ops) base i S') = true
  | [], _ => ⟨0, fun _ _ => rfl⟩
  | w :: ws, h => by
    obtain ⟨n, hn⟩ := wall_ok (ws := ws) fun x hx => h x (List.mem_cons_of_mem _ hx)
    rcases h w List.mem_cons_self with h1 | ⟨o, k, v, S2, h1, h2, h3⟩
    · refine ⟨n, fun m hm => ?_⟩
      simp only [List.all_cons, hn m hm, Bool.and_true, watchOk, h1, Bool.true_or]
    · refine ⟨max n k, fun m hm => ?_⟩
      have he := effC_mono (run_le C (show k ≤ m by omega)) h2
      simp only [List.all_cons, hn m (by omega), Bool.and_true, watchOk, h1, he, h3, Bool.or_true]
theorem wdw_ok : ∀ {is : List Nat} {ws : Ws} {cs : List (Nat × Nat)} {T : List V} {S : Store}, WpDw C ops base F Q ws cs is T S → ∃ n T' S' cs', seqC C (run C n) ops (befs ops) base ws is T S = some (T', S', cs') ∧ drawOk ops (cs ++ cs') = true ∧ Q .norm T' S' F
  | [], ws, cs, T, S, h => ⟨0, T, S, [], rfl, by simpa [WpDw] using h.1, h.2⟩
  | i :: is, ws, cs, T, S, h => by
    have go : ∀ (n : Nat) (o : Oper) (v : V) (S' : Store) (c : Nat), ops[i]? = some o → effC C (run C n) ops (base + i) o T S = some (v, S', c) → (2 < c → WAll C ops base ws i S') → WpDw C ops base F Q (if c = 1 then (i, T, v) :: ws else ws) (cs ++ [(i, c)]) is (putT T o.dst v) S' →
        ∃ n T' S' cs', seqC C (run C n) ops (befs ops) base ws (i :: is) T S = some (T', S', cs') ∧ drawOk ops (cs ++ cs') = true ∧ Q .norm T' S' F := by
      intro n o v S' c ho he hb hd
      obtain ⟨m, T2, S2, cs2, h1, h2, h3⟩ := wdw_ok hd
      have hw : ∃ k, 2 < c → ∀ m, k ≤ m → ws.all (watchOk C (run C m) ops (befs ops) base i S') = true := by
        by_cases hc : 2 < c
        · obtain ⟨k, hk⟩ := wall_ok (hb hc)
          exact ⟨k, fun _ => hk⟩
        · exact ⟨0, fun h => absurd h hc⟩
      obtain ⟨k, hk⟩ := hw
      refine ⟨max (max n m) k, T2, S2, (i, c) :: cs2, ?_, by simpa using h2, h3⟩
      have he' := effC_mono (run_le C (show n ≤ max (max n m) k by omega)) he
      have h1' := seqC_mono (run_le C (show m ≤ max (max n m) k by omega)) h1
      simp only [seqC, ho, he']
      rw [if_neg, h1']
      rintro ⟨hc, hall⟩
      rw [hk hc _ (by omega)] at hall
      cases hall
    simp only [WpDw] at h
    cases ho : ops[i]? with
    | none => simp [ho] at h
    | some o =>
      simp only [ho] at h
      cases hwt : wantedT ops T o with
      | none => simp [hwt] at h
      | some b =>
        simp only [hwt] at h
        cases b with
        | false => exact go 0 o (.tup []) S 0 ho (by simp [effC, hwt]) (fun hc => by omega) h
        | true =>
          cases hk : addsK o with
          | true =>
            simp only [hk, if_true] at h
            cases hadd : addO C.P T o with
            | none => simp [hadd, WpA] at h
            | some q =>
              obtain ⟨ob, f⟩ := q
              simp only [hadd, WpA] at h
              exact go 0 o (f (base + i)) (S.set (base + i) ob) 2 ho (by simp [effC, hwt, hk, hadd, h.1]) (fun hc => by omega) h.2
          | false =>
            simp only [hk, Bool.false_eq_true, if_false] at h
            cases hop : opV C.P S T o with
            | none => simp [hop, WpEw] at h
            | some r =>
              simp only [hop] at h
              cases r with
              | val v S' c => exact go 0 o v S' (num2 c) ho (by simp [effC, hwt, hk, hop]) h.1 h.2
              | skip S' c => exact go 0 o (.tup []) S' 3 ho (by simp [effC, hwt, hk, hop]) (fun _ => h.1) h.2
              | enter f args =>
                obtain ⟨n, v, S', c, h1, h2, h3⟩ := h
                exact go n o v S' (num2 c) ho (by simp [effC, hwt, hk, hop, h1]) h2 h3
              | dfr f args => exact h.elim
              | pan v => exact h.elim
theorem wk_draww {id : Nat} {T : List V} {S : Store} {is : List Nat} {h : Nat} (ho : orderOf C.shared ops = is) (hh : holesN ops = h) (hd : WpDw C ops S.length F Q [] [] is T (S ++ List.replicate h .hole)) : Wp C (.region id ops true) T S F Q := by
  subst ho; subst hh
  obtain ⟨n, T', S', cs', h1, h2, h3⟩ := wdw_ok hd
  exact ⟨n + 1, .norm, T', S', F, by simp only [exec, h1]; rw [if_pos (by simpa using h2)], h3⟩
theorem wall_nil {i : Nat} {S' : Store} : WAll C ops base [] i S' := fun w hw => by cases hw
theorem wall_bit {i : Nat} {S' : Store} {w : Nat × List V × V} {ws : Ws} (h : ((befs ops).getD i 0).testBit w.1 = true) (hw : WAll C ops base ws i S') : WAll C ops base (w :: ws) i S' := fun x hx => by
  rcases List.mem_cons.1 hx with rfl | hx
  · exact .inl h
  · exact hw x hx
theorem wall_read {i j : Nat} {S' : Store} {T : List V} {v : V} {ws : Ws} {o : Oper} (ho : ops[j]? = some o) (hwt : wantedT ops T o = some true) (ha : addsK o = false) (hop : opV C.P S' T o = some (.val v S' 1)) (hs : sameV v v = true) (hw : WAll C ops base ws i S') : WAll C ops base ((j, T, v) :: ws) i S' := fun x hx => by
  rcases List.mem_cons.1 hx with rfl | hx
  · exact .inr ⟨o, 0, v, S', ho, by simp [effC, hwt, ha, hop, num2], hs⟩
  · exact hw x hx
theorem wall_same {i : Nat} {S S' : Store} {ws : Ws} (he : S' = S) (h : ∀ w ∈ ws, ∃ o v S2 n, ops[w.1]? = some o ∧ effC C (run C n) ops (base + w.1) o w.2.1 S = some (v, S2, 1) ∧ sameV w.2.2 v = true) : WAll C ops base ws i S' := fun w hw => by
  subst he
  obtain ⟨o, v, S2, n, h1, h2, h3⟩ := h w hw
  exact .inr ⟨o, n, v, S2, h1, h2, h3⟩
def WpXw (C : Cfg) (ops : Array Oper) (base : Nat) (F : Dfs) (Q : Post) (ws : Ws) (cs : List (Nat × Nat)) (i : Nat) (is : List Nat) (T : List V) (S : Store) (o : Oper) : Bool → Prop
  | true => WpA base (fun cs T S => WpDw C ops base F Q ws cs is T S) cs i o.dst T S (addO C.P T o)
  | false => WpEw C ops base (fun ws cs T S => WpDw C ops base F Q ws cs is T S) ws cs i o.dst T S (opV C.P S T o)
def WpOw (C : Cfg) (ops : Array Oper) (base : Nat) (F : Dfs) (Q : Post) (ws : Ws) (cs : List (Nat × Nat)) (i : Nat) (is : List Nat) (T : List V) (S : Store) (o : Oper) : Option Bool → Prop
  | none => False
  | some false => WpDw C ops base F Q ws (cs ++ [(i, 0)]) is (putT T o.dst (.tup [])) S
  | some true => WpXw C ops base F Q ws cs i is T S o (addsK o)
def WpIw (C : Cfg) (ops : Array Oper) (base : Nat) (F : Dfs) (Q : Post) (ws : Ws) (cs : List (Nat × Nat)) (i : Nat) (is : List Nat) (T : List V) (S : Store) : Option Oper → Prop
  | none => False
  | some o => WpOw C ops base F Q ws cs i is T S o (wantedT ops T o)
section
variable {ws : Ws} {cs : List (Nat × Nat)} {i : Nat} {is : List Nat} {T : List V} {S S' : Store} {o : Oper} {K : Ws → List (Nat × Nat) → List V → Store → Prop} {dst : Option Tmp} {v : V} {c : Nat}
theorem dw1 : WpDw C ops base F Q ws cs [] T S = (drawOk ops cs = true ∧ Q .norm T S F) := rfl
theorem dw2 : WpDw C ops base F Q ws cs (i :: is) T S = WpIw C ops base F Q ws cs i is T S (ops[i]?) := by
  show (match ops[i]? with
    | none => False
    | some o => match wantedT ops T o with
      | none => False
      | some false => WpDw C ops base F Q ws (cs ++ [(i, 0)]) is (putT T o.dst (.tup [])) S
      | some true => if addsK o = true then WpA base (fun cs T S => WpDw C ops base F Q ws cs is T S) cs i o.dst T S (addO C.P T o)
        else WpEw C ops base (fun ws cs T S => WpDw C ops base F Q ws cs is T S) ws cs i o.dst T S (opV C.P S T o)) = _
  unfold WpIw WpOw
  cases ops[i]? with
  | none => rfl
  | some o =>
    simp only
    cases wantedT ops T o with
    | none => rfl
    | some b =>
      cases b with
      | false => rfl
      | true => cases addsK o <;> rfl
theorem dw3 : WpIw C ops base F Q ws cs i is T S (some o) = WpOw C ops base F Q ws cs i is T S o (wantedT ops T o) := rfl
theorem dw4 : WpOw C ops base F Q ws cs i is T S o (some false) = WpDw C ops base F Q ws (cs ++ [(i, 0)]) is (putT T o.dst (.tup [])) S := rfl
theorem dw5 : WpOw C ops base F Q ws cs i is T S o (some true) = WpXw C ops base F Q ws cs i is T S o (addsK o) := rfl
theorem dw6 : WpXw C ops base F Q ws cs i is T S o false = WpEw C ops base (fun ws cs T S => WpDw C ops base F Q ws cs is T S) ws cs i o.dst T S (opV C.P S T o) := rfl
theorem dw7 : WpXw C ops base F Q ws cs i is T S o true = WpA base (fun cs T S => WpDw C ops base F Q ws cs is T S) cs i o.dst T S (addO C.P T o) := rfl
theorem dw8 : WpEw C ops base K ws cs i dst T S (some (.val v S' 0)) = K ws (cs ++ [(i, 0)]) (putT T dst v) S' := by simp [WpEw, num2]
theorem dw9 : WpEw C ops base K ws cs i dst T S (some (.val v S' 1)) = K ((i, T, v) :: ws) (cs ++ [(i, 1)]) (putT T dst v) S' := by simp [WpEw, num2]
theorem dw10 : WpEw C ops base K ws cs i dst T S (some (.skip S' c)) = (WAll C ops base ws i S' ∧ K ws (cs ++ [(i, 3)]) (putT T dst (.tup [])) S') := rfl
theorem dw11 : WpEw C ops base K ws cs i dst T S (some (.val v S' 2)) = (WAll C ops base ws i S' ∧ K ws (cs ++ [(i, 3)]) (putT T dst v) S') := by simp [WpEw, num2]
theorem dw12 : WpEw C ops base K ws cs i dst T S (some (.val v S' 3)) = (WAll C ops base ws i S' ∧ K ws (cs ++ [(i, 3)]) (putT T dst v) S') := by simp [WpEw, num2]
end
end
end Go.Vm
end
/-! Regions that draw and give up, behind calls by the store; a function's value that is called. -/
section
set_option linter.unusedVariables false
set_option linter.unusedSimpArgs false
namespace Go.Vm
open Go
section
variable {C : Cfg} {ops : Array Oper} {base : Nat} {F : Dfs} {Q : Post}
/-- The operations ahead of the one that gives up may turn the store, if the reads so far stay. -/
def WpNw (C : Cfg) (ops : Array Oper) (base : Nat) (K : List (Nat × Nat) → Nat → List Nat → V → Store → Prop) : Ws → List (Nat × Nat) → List Nat → List V → Store → Prop
  | _, _, [], _, _ => False
  | ws, cs, i :: is, T, S => ∃ o, ops[i]? = some o ∧ ((∃ n v S', panO C (run C n) ops o T S = some (v, S') ∧ K cs i is v S') ∨ (∃ n v S' c, effC C (run C n) ops (base + i) o T S = some (v, S', c) ∧ (2 < c → WAll C ops base ws i S') ∧ WpNw C ops base K (if c = 1 then (i, T, v) :: ws else ws) (cs ++ [(i, c)]) is (putT T o.dst v) S'))
theorem wpNw_ok {K : List (Nat × Nat) → Nat → List Nat → V → Store → Prop} : ∀ {is : List Nat} {ws : Ws} {cs : List (Nat × Nat)} {T : List V} {S : Store}, WpNw C ops base K ws cs is T S → ∃ n v S' cs' p rest, seqP C (run C n) ops (befs ops) base ws is T S = some (v, S', cs', p, rest) ∧ K (cs ++ cs') p rest v S'
  | [], ws, cs, T, S, h => h.elim
  | i :: is, ws, cs, T, S, h => by
    obtain ⟨o, ho, h⟩ := h
    rcases h with ⟨n, v, S', h1, h2⟩ | ⟨n, v, S', c, h1, h2, h3⟩
    · exact ⟨n, v, S', [], i, is, by simp only [seqP, ho, h1], by simpa using h2⟩
    · obtain ⟨m, v2, S2, cs', p, rest, h4, h5⟩ := wpNw_ok h3
      have hw : ∃ k, 2 < c → ∀ m, k ≤ m → ws.all (watchOk C (run C m) ops (befs ops) base i S') = true := by
        by_cases hc : 2 < c
        · obtain ⟨k, hk⟩ := wall_ok (h2 hc)
          exact ⟨k, fun _ => hk⟩
        · exact ⟨0, fun h => absurd h hc⟩
      obtain ⟨k, hk⟩ := hw
      have he := effC_mono (run_le C (show n ≤ max (max n m) k by omega)) h1
      have hs := seqP_mono (run_le C (show m ≤ max (max n m) k by omega)) h4
      refine ⟨max (max n m) k, v2, S2, (i, c) :: cs', p, rest, ?_, by simpa using h5⟩
      simp only [seqP, ho, effC_panO he, he, hs]
      rw [if_neg]
      rintro ⟨hc, hall⟩
      rw [hk hc _ (by omega)] at hall
      cases hall
theorem wk_draw_panw {id : Nat} {T : List V} {S : Store} {is : List Nat} {h : Nat} (ho : orderOf C.shared ops = is) (hh : holesN ops = h) (hd : WpNw C ops S.length (fun cs p rest v S' => panOk C.P ops cs p rest = true ∧ Q (.pan v) T (killAll S.length rest S') F) [] [] is T (S ++ List.replicate h .hole)) : Wp C (.region id ops true) T S F Q := by
  subst ho; subst hh
  obtain ⟨n, v, S', cs', p, rest, h1, h2, h3⟩ := wpNw_ok hd
  refine ⟨n + 1, .pan v, T, _, F, ?_, h3⟩
  have hn : seqC C (run C n) ops (befs ops) S.length [] (orderOf C.shared ops) T (S ++ List.replicate (holesN ops) .hole) = none := seqP_none (fun _ _ _ _ h => h) h1
  simp only [exec, hn, h1]
  rw [if_pos (by simpa using h2)]
section
variable {K : List (Nat × Nat) → Nat → List Nat → V → Store → Prop} {ws : Ws} {cs : List (Nat × Nat)} {i : Nat} {is : List Nat} {T : List V} {S S' : Store} {o : Oper} {v : V} {c : Nat}
theorem wpNw_read (ho : ops[i]? = some o) (he : effC C (run C 0) ops (base + i) o T S = some (v, S', c)) (hc : 2 < c → WAll C ops base ws i S') (hk : WpNw C ops base K (if c = 1 then (i, T, v) :: ws else ws) (cs ++ [(i, c)]) is (putT T o.dst v) S') : WpNw C ops base K ws cs (i :: is) T S :=
  ⟨o, ho, .inr ⟨0, v, S', c, he, hc, hk⟩⟩
theorem eff_callS {id : Nat} {f : FuncId} {args : List V} {n : Nat} (hw : wantedT ops T o = some true) (ha : addsK o = false) (hop : opV C.P S T o = some (.enter f args)) (hs : C.shared f = true) (hn : run C n f args S = some (.ret v, S')) : effC C (run C n) ops id o T S = some (v, S', 3) := by
  have hc : callV C (run C n) f args S = some (.ret v, S', 3) := by
    unfold callV
    simp only [hs, if_true, hn, Option.map_some]
  simp only [effC, hw, ha, Bool.false_eq_true, if_false, hop, hc]
  rfl
theorem pan_callS {f : FuncId} {args : List V} {n : Nat} (hw : wantedT ops T o = some true) (ha : addsK o = false) (hop : opV C.P S T o = some (.enter f args)) (hs : C.shared f = true) (hn : run C n f args S = some (.pan v, S')) : panO C (run C n) ops o T S = some (v, S') := by
  have hc : callV C (run C n) f args S = some (.pan v, S', 3) := by
    unfold callV
    simp only [hs, if_true, hn, Option.map_some]
  simp only [panO, hw, ha, Bool.false_eq_true, if_false, hop, hc]
end
end
/-- A function's value that is called. -/
def cvV (P : Program) (args : List V) : V → Option Rs
  | .fn (.func g) first caps => if args.all V.one && (bodyOf P g).isSome then some (.enter g (first ++ args ++ caps)) else none
  | .d (.fn (.func g) first caps) => if args.all V.one && (bodyOf P g).isSome then some (.enter g (first.map .d ++ args ++ caps.map .d)) else none
  | _ => none
theorem op_callv {P : Program} {S : Store} {T : List V} {dst : Option Tmp} {ty : TypeId} {pos : String} {after : Array Edge} {g : Option (Nat × Bool)} {t : Nat} {args : Array Operand} {ts : Array TypeId} : opV P S T ⟨dst, .call { callee := .value (.tmp t), args := args, argTypes := ts }, ty, pos, after, g⟩ = cvV P (args.toList.map (evalO T)) (evalO T (.tmp t)) := by
  simp only [opV, cvV]
  rfl
theorem cv_fn {P : Program} {args first caps : List V} {g : FuncId} (h1 : args.all V.one = true) (h2 : (bodyOf P g).isSome = true) : cvV P args (.fn (.func g) first caps) = some (.enter g (first ++ args ++ caps)) := by
  simp only [cvV, h1, h2, Bool.and_self, if_true]
section
variable {C : Cfg} {ops : Array Oper} {dst : Option Tmp} {op : Op} {ty : TypeId} {pos : String} {after : Array Edge} {l : List Oper} {T : List V} {S : Store} {F : Dfs} {Q : Post}
/-- An operation with a guard. -/
theorem wl_guardP {g : Nat × Bool} (hp0 : litPair C.P T ⟨dst, op, ty, pos, after, some g⟩ l = none) (hp1 : litPair C.P T ⟨dst, op, ty, pos, after, none⟩ l = none) : WpL C ops (⟨dst, op, ty, pos, after, some g⟩ :: l) T S F Q = WpW (WpL C ops (⟨dst, op, ty, pos, after, none⟩ :: l) T S F Q) (WpL C ops l (putT T dst (.tup [])) S F Q) ((yieldT ops T g.1).map (· == some g.2)) := by
  obtain ⟨j, w⟩ := g
  have hp : litPair C.P T ⟨dst, op, ty, pos, after, some (j, w)⟩ l = none := hp0
  have hp' : litPair C.P T ⟨dst, op, ty, pos, after, none⟩ l = none := hp1
  have hopv : opV C.P S T ⟨dst, op, ty, pos, after, some (j, w)⟩ = opV C.P S T ⟨dst, op, ty, pos, after, none⟩ := by cases op <;> rfl
  apply propext
  cases hy : (yieldT ops T j).map (· == some w) with
  | none =>
    simp only [WpW, iff_false]
    rintro ⟨n, x, T', S', F', h1, h2⟩
    simp [seqV, hp, wantedT, hy] at h1
  | some b =>
    cases b with
    | false =>
      simp only [WpW]
      constructor
      · rintro ⟨n, x, T', S', F', h1, h2⟩
        simp only [seqV, hp, wantedT, hy] at h1
        exact ⟨n, x, T', S', F', h1, h2⟩
      · rintro ⟨n, x, T', S', F', h1, h2⟩
        exact ⟨n, x, T', S', F', by simp only [seqV, hp, wantedT, hy]; exact h1, h2⟩
    | true =>
      simp only [WpW]
      constructor
      · rintro ⟨n, x, T', S', F', h1, h2⟩
        simp only [seqV, hp, wantedT, hy, hopv] at h1
        exact ⟨n, x, T', S', F', by simp only [seqV, hp', wantedT]; exact h1, h2⟩
      · rintro ⟨n, x, T', S', F', h1, h2⟩
        simp only [seqV, hp', wantedT] at h1
        exact ⟨n, x, T', S', F', by simp only [seqV, hp, wantedT, hy, hopv]; exact h1, h2⟩
theorem wl_guardPG {g : Nat × Bool} (hp0 : litPair C.P T ⟨dst, op, ty, pos, after, some g⟩ l = none) (hp1 : litPair C.P T ⟨dst, op, ty, pos, after, none⟩ l = none) : WpL C ops (⟨dst, op, ty, pos, after, some g⟩ :: l) T S F Q = WpG C ops dst op ty pos after l T S F Q ((yieldT ops T g.1).map (· == some g.2)) := by
  rw [wl_guardP hp0 hp1]
  cases (yieldT ops T g.1).map (· == some g.2) with
  | none => rfl
  | some b => cases b <;> rfl
theorem wl_bs_callG {t : TypeId} {n : Nat} {ps : Array (Nat × Operand)} {c : Call} {d2 : Option Tmp} {ty2 : TypeId} {pos2 : String} {after2 : Array Edge} {g2 : Option (Nat × Bool)} {g : Nat × Bool} : WpL C ops (⟨dst, .buildSlice t n ps, ty, pos, after, some g⟩ :: ⟨d2, .call c, ty2, pos2, after2, g2⟩ :: l) T S F Q = WpG C ops dst (.buildSlice t n ps) ty pos after (⟨d2, .call c, ty2, pos2, after2, g2⟩ :: l) T S F Q ((yieldT ops T g.1).map (· == some g.2)) := wl_guardPG rfl rfl
end
end Go.Vm
end
/-! Words of kinds; numbers as digits: the document's number is the library's. -/
section
set_option linter.unusedVariables false
set_option linter.unusedSimpArgs false
set_option maxRecDepth 100000
set_option maxHeartbeats 4000000
namespace Go.Proofs.YtghllhghboaagaaDoor
open Go.Vm
theorem dec_True {i : Decidable True} : @decide True i = true := decide_eq_true trivial
theorem dne {α : Type} {a : α} {i : Decidable (a ≠ a)} : @decide (a ≠ a) i = false := decide_eq_false (fun h => h rfl)
theorem deq {α : Type} {a : α} {i : Decidable (a = a)} : @decide (a = a) i = true := decide_eq_true rfl
def kindS (k : Int) : List UInt8 := if k = 1 then [102, 105, 108, 101] else if k = 2 then [100, 105, 114] else [102, 114, 101, 101]
theorem kind_ok (k : Int) : Ev cfg 10 [.int .i64 k] (.ret (.d (.str (kindS k)))) := by
  refine ev_of rfl rfl body10 ?_
  show Wp cfg (Tryd.f10.body.getD .skip) ((.d (.int .i64 k)) :: (.tup []) :: (.tup []) :: (.tup []) :: (.tup []) :: (.tup []) :: (.tup []) :: (.tup []) :: []) [] [] _
  conv => arg 2; whnf
  unfold kindS
  by_cases h1 : k = 1
  · rw [if_pos h1]
    simp (maxSteps := 1000000) (disch := first | assumption | omega | rfl) only [↓vmp, vme, vmb, ty, hP, dec_t, dec_f, wrap64, List.length_map, Int.toNat_natCast, Nat.reduceAdd, List.cons_append, List.nil_append, Option.map_some, Option.map_none, strOf_mk, sb_eql, sb_neq, vmg, ↓vgd, ↓vst, ↓vix]
    exact retQ_one rfl rfl rfl
  · by_cases h2 : k = 2
    · rw [if_neg h1, if_pos h2]
      simp (maxSteps := 1000000) (disch := first | assumption | omega | rfl) only [↓vmp, vme, vmb, ty, hP, dec_t, dec_f, wrap64, List.length_map, Int.toNat_natCast, Nat.reduceAdd, List.cons_append, List.nil_append, Option.map_some, Option.map_none, strOf_mk, sb_eql, sb_neq, vmg, ↓vgd, ↓vst, ↓vix]
      exact retQ_one rfl rfl rfl
    · rw [if_neg h1, if_neg h2]
      simp (maxSteps := 1000000) (disch := first | assumption | omega | rfl) only [↓vmp, vme, vmb, ty, hP, dec_t, dec_f, wrap64, List.length_map, Int.toNat_natCast, Nat.reduceAdd, List.cons_append, List.nil_append, Option.map_some, Option.map_none, strOf_mk, sb_eql, sb_neq, vmg, ↓vgd, ↓vst, ↓vix]
      exact retQ_one rfl rfl rfl
theorem rkind_ok (k : Int) : Ev cfg 11 [.int .i64 k] (.ret (.d (.str (kindS k)))) := by
  refine ev_of rfl rfl body11 ?_
  show Wp cfg (Tryd.f11.body.getD .skip) ((.d (.int .i64 k)) :: (.tup []) :: (.tup []) :: (.tup []) :: (.tup []) :: (.tup []) :: (.tup []) :: []) [] [] _
  conv => arg 2; whnf
  unfold kindS
  by_cases h1 : k = 1
  · rw [if_pos h1]
    simp (maxSteps := 1000000) (disch := first | assumption | omega | rfl) only [↓vmp, vme, vmb, ty, hP, dec_t, dec_f, wrap64, List.length_map, Int.toNat_natCast, Nat.reduceAdd, List.cons_append, List.nil_append, Option.map_some, Option.map_none, strOf_mk, sb_eql, sb_neq, vmg, ↓vgd, ↓vst, ↓vix]
    exact retQ_one rfl rfl rfl
  · by_cases h2 : k = 2
    · rw [if_neg h1, if_pos h2]
      simp (maxSteps := 1000000) (disch := first | assumption | omega | rfl) only [↓vmp, vme, vmb, ty, hP, dec_t, dec_f, wrap64, List.length_map, Int.toNat_natCast, Nat.reduceAdd, List.cons_append, List.nil_append, Option.map_some, Option.map_none, strOf_mk, sb_eql, sb_neq, vmg, ↓vgd, ↓vst, ↓vix]
      exact retQ_one rfl rfl rfl
    · rw [if_neg h1, if_neg h2]
      simp (maxSteps := 1000000) (disch := first | assumption | omega | rfl) only [↓vmp, vme, vmb, ty, hP, dec_t, dec_f, wrap64, List.length_map, Int.toNat_natCast, Nat.reduceAdd, List.cons_append, List.nil_append, Option.map_some, Option.map_none, strOf_mk, sb_eql, sb_neq, vmg, ↓vgd, ↓vst, ↓vix]
      exact retQ_one rfl rfl rfl
/-! Digits. -/
def decs (a : Nat) : List UInt8 := if a = 0 then [] else Lib.decDigits a
theorem decs_step {a : Nat} (h : a ≠ 0) : decs a = decs (a / 10) ++ [UInt8.ofNat (48 + a % 10)] := by
  unfold decs
  rw [if_neg h, Lib.decDigits]
  by_cases h10 : a < 10
  · rw [dif_pos h10, if_pos (by omega), show a % 10 = a by omega]
    rfl
  · rw [dif_neg h10, if_neg (by omega)]
theorem sl_digit {S : Store} : ∀ (d : Nat), d < 10 → sliceV Tryd.prog S 9 (.d (.str [48, 49, 50, 51, 52, 53, 54, 55, 56, 57])) (some (.d (.int .i64 (d : Int)))) (some (.d (.int .i64 ((d : Int) + 1)))) = some (.d (.str [UInt8.ofNat (48 + d)]))
  | 0, _ => by kernel_rfl
  | 1, _ => by kernel_rfl
  | 2, _ => by kernel_rfl
  | 3, _ => by kernel_rfl
  | 4, _ => by kernel_rfl
  | 5, _ => by kernel_rfl
  | 6, _ => by kernel_rfl
  | 7, _ => by kernel_rfl
  | 8, _ => by kernel_rfl
  | 9, _ => by kernel_rfl
  | n + 10, h => absurd h (by omega)
theorem num_l (R : Post) (x2 x4 : V) : ∀ (k : Nat) (n : Int) (s : List UInt8) (g1 g5 g6 g7 g8 g9 g10 g11 g12 g13 g14 g15 g16 g17 g18 g19 g20 g21 g22 g23 g24 g25 g26 g27 g28 g29 : V), n.natAbs < 10 ^ k → s.length + k ≤ 20 → -9223372036854775808 ≤ n ∧ n ≤ 9223372036854775807 →
   (∀ g1 g5 g6 g7 g8 g9 g10 g11 g12 g13 g14 g15 g16 g17 g18 g19 g20 g21 g22 g23 g24 g25 g26 g27 g28 g29, R (.exit 0) ((.d (.int .i64 0)) :: g1 :: x2 :: (.d (.str (decs n.natAbs ++ s))) :: x4 :: g5 :: g6 :: g7 :: g8 :: g9 :: g10 :: g11 :: g12 :: g13 :: g14 :: g15 :: g16 :: g17 :: g18 :: g19 :: g20 :: g21 :: g22 :: g23 :: g24 :: g25 :: g26 :: g27 :: g28 :: g29 :: []) [] []) →
   Wp cfg (.loop (lpOf (Tryd.f21.body.getD .skip) 0)) ((.d (.int .i64 n)) :: g1 :: x2 :: (.d (.str s)) :: x4 :: g5 :: g6 :: g7 :: g8 :: g9 :: g10 :: g11 :: g12 :: g13 :: g14 :: g15 :: g16 :: g17 :: g18 :: g19 :: g20 :: g21 :: g22 :: g23 :: g24 :: g25 :: g26 :: g27 :: g28 :: g29 :: []) [] [] R := by
  have fin : ∀ (s : List UInt8) (g1 g5 g6 g7 g8 g9 g10 g11 g12 g13 g14 g15 g16 g17 g18 g19 g20 g21 g22 g23 g24 g25 g26 g27 g28 g29 : V), (∀ g1 g5 g6 g7 g8 g9 g10 g11 g12 g13 g14 g15 g16 g17 g18 g19 g20 g21 g22 g23 g24 g25 g26 g27 g28 g29, R (.exit 0) ((.d (.int .i64 0)) :: g1 :: x2 :: (.d (.str s)) :: x4 :: g5 :: g6 :: g7 :: g8 :: g9 :: g10 :: g11 :: g12 :: g13 :: g14 :: g15 :: g16 :: g17 :: g18 :: g19 :: g20 :: g21 :: g22 :: g23 :: g24 :: g25 :: g26 :: g27 :: g28 :: g29 :: []) [] []) → Wp cfg (.loop (lpOf (Tryd.f21.body.getD .skip) 0)) ((.d (.int .i64 0)) :: g1 :: x2 :: (.d (.str s)) :: x4 :: g5 :: g6 :: g7 :: g8 :: g9 :: g10 :: g11 :: g12 :: g13 :: g14 :: g15 :: g16 :: g17 :: g18 :: g19 :: g20 :: g21 :: g22 :: g23 :: g24 :: g25 :: g26 :: g27 :: g28 :: g29 :: []) [] [] R := by
    intro s g1 g5 g6 g7 g8 g9 g10 g11 g12 g13 g14 g15 g16 g17 g18 g19 g20 g21 g22 g23 g24 g25 g26 g27 g28 g29 hR
    rw [wk_of]
    refine wk_loop ?_
    conv => arg 2; whnf
    simp (maxSteps := 1000000) (disch := first | assumption | omega | rfl) only [↓vmp, vme, vmb, ty, hP, dec_t, dec_f, wrap64, List.length_map, Int.toNat_natCast, Nat.reduceAdd, List.cons_append, List.nil_append, Option.map_some, Option.map_none, strOf_mk, sb_eql, sb_neq, vmg, ↓vgd, ↓vst, ↓vix]
    exact hR _ _ _ _ _ _ _ _ _ _ _ _ _ _ _ _ _ _ _ _ _ _ _ _ _ _
  intro k
  induction k with
  | zero =>
    intro n s g1 g5 g6 g7 g8 g9 g10 g11 g12 g13 g14 g15 g16 g17 g18 g19 g20 g21 g22 g23 g24 g25 g26 g27 g28 g29 hn hs hb hR
    have h0 : n = 0 := by omega
    subst h0
    exact fin s _ _ _ _ _ _ _ _ _ _ _ _ _ _ _ _ _ _ _ _ _ _ _ _ _ _ hR
  | succ k ih =>
    intro n s g1 g5 g6 g7 g8 g9 g10 g11 g12 g13 g14 g15 g16 g17 g18 g19 g20 g21 g22 g23 g24 g25 g26 g27 g28 g29 hn hs hb hR
    by_cases h0 : n = 0
    · subst h0
      exact fin s _ _ _ _ _ _ _ _ _ _ _ _ _ _ _ _ _ _ _ _ _ _ _ _ _ _ hR
    · have hne : n.natAbs ≠ 0 := by omega
      have hq : (n.tdiv 10).natAbs = n.natAbs / 10 := by rw [Int.natAbs_tdiv]; rfl
      have hlt : (n.tdiv 10).natAbs < 10 ^ k := by
        rw [hq]
        have : 10 ^ (k + 1) = 10 ^ k * 10 := Nat.pow_succ ..
        omega
      have hm : (n.tmod 10).natAbs = n.natAbs % 10 := by rw [Int.natAbs_tmod]; rfl
      have hd10 : n.natAbs % 10 < 10 := Nat.mod_lt _ (by decide)
      have hbq : -9223372036854775808 ≤ n.tdiv 10 ∧ n.tdiv 10 ≤ 9223372036854775807 := by omega
      rw [decs_step hne, List.append_assoc, ← hq] at hR
      have hrem : binV Tryd.prog .rem 3 (.d (.int .i64 n)) (.d (.int .i64 10)) = some (.d (.int .i64 (n.tmod 10))) := by
        simp only [binV, intBin]
        rfl
      have hquo : binV Tryd.prog .quo 3 (.d (.int .i64 n)) (.d (.int .i64 10)) = some (.d (.int .i64 (n.tdiv 10))) := by
        simp only [binV, intBin]
        rw [if_pos trivial, if_neg (by decide), wrap64 hbq]
        rfl
      have hsl := fun S => sl_digit (S := S) (n.natAbs % 10) hd10
      have hadd : strBin .add [UInt8.ofNat (48 + n.natAbs % 10)] s = some (.str ([UInt8.ofNat (48 + n.natAbs % 10)] ++ s)) := sb_add (by simp; omega)
      rw [wk_of]
      refine wk_loop ?_
      conv => arg 2; whnf
      by_cases hneg : n.tmod 10 < 0
      · have e : n.tmod 10 = -((n.natAbs % 10 : Nat) : Int) := by omega
        have hun : unV .neg (.d (.int .i64 (n.tmod 10))) = some (.d (.int .i64 ((n.natAbs % 10 : Nat) : Int))) := by
          simp only [unV]
          rw [wrap64 (by omega), e]
          congr 3
          omega
        simp (maxSteps := 1000000) (disch := first | assumption | omega | rfl) only [↓vmp, vme, vmb, ty, hP, dec_t, dec_f, wrap64, List.length_map, Int.toNat_natCast, Nat.reduceAdd, List.cons_append, List.nil_append, Option.map_some, Option.map_none, strOf_mk, sb_eql, sb_neq, vmg, ↓vgd, ↓vst, ↓vix, hrem, hquo, hun, hsl, hadd]
        exact ih (n.tdiv 10) _ _ _ _ _ _ _ _ _ _ _ _ _ _ _ _ _ _ _ _ _ _ _ _ _ _ _ hlt (by simp; omega) hbq hR
      · have e : n.tmod 10 = ((n.natAbs % 10 : Nat) : Int) := by omega
        rw [e] at hrem hneg
        simp (maxSteps := 1000000) (disch := first | assumption | omega | rfl) only [↓vmp, vme, vmb, ty, hP, dec_t, dec_f, wrap64, List.length_map, Int.toNat_natCast, Nat.reduceAdd, List.cons_append, List.nil_append, Option.map_some, Option.map_none, strOf_mk, sb_eql, sb_neq, vmg, ↓vgd, ↓vst, ↓vix, hrem, hquo, hsl, hadd]
        exact ih (n.tdiv 10) _ _ _ _ _ _ _ _ _ _ _ _ _ _ _ _ _ _ _ _ _ _ _ _ _ _ _ hlt (by simp; omega) hbq hR
theorem num_ok (n : Int) (hb : -9223372036854775808 ≤ n ∧ n ≤ 9223372036854775807) : Ev cfg 21 [.int .i64 n] (.ret (.d (.str (Lib.itoa n)))) := by
  refine ev_of rfl rfl body21 ?_
  show Wp cfg (Tryd.f21.body.getD .skip) ((.d (.int .i64 n)) :: (.tup []) :: (.tup []) :: (.tup []) :: (.tup []) :: (.tup []) :: (.tup []) :: (.tup []) :: (.tup []) :: (.tup []) :: (.tup []) :: (.tup []) :: (.tup []) :: (.tup []) :: (.tup []) :: (.tup []) :: (.tup []) :: (.tup []) :: (.tup []) :: (.tup []) :: (.tup []) :: (.tup []) :: (.tup []) :: (.tup []) :: (.tup []) :: (.tup []) :: (.tup []) :: (.tup []) :: (.tup []) :: (.tup []) :: []) [] [] _
  conv => arg 2; whnf
  by_cases h0 : n = 0
  · subst h0
    have e : Lib.itoa 0 = [48] := by unfold Lib.itoa; rw [if_neg (by decide)]; unfold Lib.decDigits; rfl
    rw [e]
    simp (maxSteps := 1000000) (disch := first | assumption | omega | rfl) only [↓vmp, vme, vmb, ty, hP, dec_t, dec_f, wrap64, List.length_map, Int.toNat_natCast, Nat.reduceAdd, List.cons_append, List.nil_append, Option.map_some, Option.map_none, strOf_mk, sb_eql, sb_neq, vmg, ↓vgd, ↓vst, ↓vix, dec_True]
    exact retQ_one rfl rfl rfl
  · have hd : decs n.natAbs = Lib.decDigits n.natAbs := by unfold decs; rw [if_neg (by omega)]
    have hp : (10 : Nat) ^ 20 = 100000000000000000000 := by decide
    have h20 : n.natAbs < 10 ^ 20 := by rw [hp]; omega
    have hdl : (decs n.natAbs).length ≤ 20 := by
      have : ∀ (k a : Nat), a < 10 ^ k → (decs a).length ≤ k := fun k => by
        induction k with
        | zero => intro a ha; have : a = 0 := by omega
                  subst this; simp [decs]
        | succ k ih =>
          intro a ha
          by_cases h : a = 0
          · subst h; simp [decs]
          · rw [decs_step h, List.length_append]
            have : 10 ^ (k + 1) = 10 ^ k * 10 := Nat.pow_succ ..
            have := ih (a / 10) (by omega)
            simp
            omega
      exact this 20 _ h20
    simp (maxSteps := 1000000) (disch := first | assumption | omega | rfl) only [↓vmp, vme, vmb, ty, hP, dec_t, dec_f, wrap64, List.length_map, Int.toNat_natCast, Nat.reduceAdd, List.cons_append, List.nil_append, Option.map_some, Option.map_none, strOf_mk, sb_eql, sb_neq, vmg, ↓vgd, ↓vst, ↓vix]
    refine num_l _ _ _ 20 n [] _ _ _ _ _ _ _ _ _ _ _ _ _ _ _ _ _ _ _ _ _ _ _ _ _ _ h20 (by simp) hb ?_
    intro g1 g5 g6 g7 g8 g9 g10 g11 g12 g13 g14 g15 g16 g17 g18 g19 g20 g21 g22 g23 g24 g25 g26 g27 g28 g29
    rw [List.append_nil]
    by_cases hneg : n < 0
    · have e : Lib.itoa n = [45] ++ decs n.natAbs := by unfold Lib.itoa; rw [if_pos hneg, hd]; rfl
      have hadd : strBin .add [45] (decs n.natAbs) = some (.str ([45] ++ decs n.natAbs)) := sb_add (by simp; omega)
      rw [e]
      simp (maxSteps := 1000000) (disch := first | assumption | omega | rfl) only [↓vmp, vme, vmb, ty, hP, dec_t, dec_f, wrap64, List.length_map, Int.toNat_natCast, Nat.reduceAdd, List.cons_append, List.nil_append, Option.map_some, Option.map_none, strOf_mk, sb_eql, sb_neq, vmg, ↓vgd, ↓vst, ↓vix, hadd]
      exact retQ_one rfl rfl rfl
    · have e : Lib.itoa n = decs n.natAbs := by unfold Lib.itoa; rw [if_neg hneg, hd, show n.toNat = n.natAbs by omega]
      rw [e]
      simp (maxSteps := 1000000) (disch := first | assumption | omega | rfl) only [↓vmp, vme, vmb, ty, hP, dec_t, dec_f, wrap64, List.length_map, Int.toNat_natCast, Nat.reduceAdd, List.cons_append, List.nil_append, Option.map_some, Option.map_none, strOf_mk, sb_eql, sb_neq, vmg, ↓vgd, ↓vst, ↓vix]
      exact retQ_one rfl rfl rfl
theorem itoa_len (n : Int) (hb : -9223372036854775808 ≤ n ∧ n ≤ 9223372036854775807) : (Lib.itoa n).length ≤ 21 := by
  have : ∀ (k a : Nat), 0 < k → a < 10 ^ k → (Lib.decDigits a).length ≤ k := fun k => by
    induction k with
    | zero => intro a h; omega
    | succ k ih =>
      intro a _ ha
      rw [Lib.decDigits]
      by_cases h : a < 10
      · rw [dif_pos h]; simp
      · rw [dif_neg h, List.length_append]
        have hp : 10 ^ (k + 1) = 10 ^ k * 10 := Nat.pow_succ ..
        have hk : 0 < k := by
          rcases k with _ | k
          · simp at ha; omega
          · omega
        have := ih (a / 10) hk (by omega)
        simp
        omega
  have hp : (10 : Nat) ^ 20 = 100000000000000000000 := by decide
  unfold Lib.itoa
  split
  · have := this 20 n.natAbs (by omega) (by rw [hp]; omega)
    simp; omega
  · have := this 20 n.toNat (by omega) (by rw [hp]; omega)
    omega
/-! Words with one blank between. -/
theorem join_snoc {l : List (List UInt8)} {x sep : List UInt8} (h : l ≠ []) : Lib.join (l ++ [x]) sep = Lib.join l sep ++ sep ++ x := by
  cases l with
  | nil => exact absurd rfl h
  | cons a r => rw [List.cons_append, Lib.join_cons, Lib.join_cons, Lib.joinTail, Lib.joinTail, List.map_append, List.flatten_append]; simp
theorem strD_map : ∀ (l : List (List UInt8)), allO strD (l.map .str) = some l
  | [] => rfl
  | s :: r => by simp only [List.map_cons, allO, strD, strD_map r]
theorem join_ev (l : List (List UInt8)) (sep : List UInt8) (h1 : l.length ≤ 140737488355328) (h2 : (Lib.join l sep).length ≤ 140737488355328) : Ev cfg 24 [.sl (l.map .str), .str sep] (.ret (.d (.str (Lib.join l sep)))) := by
  refine ⟨0, ?_⟩
  have hx : cfg.ext 24 = some joinX := rfl
  unfold runD answer
  simp only [hx]
  unfold joinX
  simp only [strD_map]
  rw [if_pos ⟨h1, h2⟩]
theorem itoa_ev (n : Int) (h : -9223372036854775808 ≤ n ∧ n ≤ 9223372036854775807) : Ev cfg 19 [.int .i64 n] (.ret (.d (.str (Lib.itoa n)))) := by
  refine ⟨0, ?_⟩
  have hx : cfg.ext 19 = some itoaX := rfl
  unfold runD answer
  simp only [hx]
  unfold itoaX
  simp only
  rw [if_pos h]
theorem line_ok (l : List (List UInt8)) (h1 : l.length ≤ 140737488355328) (h2 : (Lib.join l [32]).length ≤ 140737488355328) : Ev cfg 18 [.sl (l.map .str)] (.ret (.d (.str (Lib.join l [32])))) := by
  have hc : ∀ {ops : Array Oper} {dst : Option Tmp} {k : List Oper} {T : List V} {S : Store} {F : Dfs} {Q : Post}, WpR cfg ops dst k T S F Q (some (.enter 24 [.d (.sl (l.map .str)), .d (.str [32])])) = WpL cfg ops k (putT T dst (.d (.str (Lib.join l [32])))) S F Q := fun {ops dst k T S F Q} => wr_call_d (ds := [.sl (l.map .str), .str [32]]) rfl (join_ev l [32] h1 h2)
  have hbo : (bodyOf Tryd.prog 24).isSome = true := by kernel_rfl
  refine ev_of rfl rfl body18 ?_
  show Wp cfg (Tryd.f18.body.getD .skip) ((.d (.sl (l.map .str))) :: (.tup []) :: (.tup []) :: (.tup []) :: (.tup []) :: []) [] [] _
  conv => arg 2; whnf
  simp (maxSteps := 1000000) (disch := first | assumption | omega | rfl) only [↓vmp, vme, vmb, ty, hP, dec_t, dec_f, wrap64, List.length_map, Int.toNat_natCast, Nat.reduceAdd, List.cons_append, List.nil_append, Option.map_some, Option.map_none, strOf_mk, sb_eql, sb_neq, vmg, ↓vgd, ↓vst, ↓vix, hc, hbo]
  exact retQ_one rfl rfl rfl
end Go.Proofs.YtghllhghboaagaaDoor
end
/-! Slices in the store: those that grow. -/
section
set_option linter.unusedVariables false
set_option linter.unusedSimpArgs false
set_option maxRecDepth 100000
set_option maxHeartbeats 4000000
namespace Go.Proofs.YtghllhghboaagaaDoor
open Go.Vm
/-! Slices of the store. -/
abbrev encU (b : UInt8) : D := .int .u8 b.toNat
/-- A slice from its row's begin on; the row may be longer. -/
def SlE {α : Type} (enc : α → D) (S : Store) (v : V) (e : TypeId) (xs : List α) : Prop := (v = .ts [] ∧ xs = []) ∨ ∃ id ys, v = .rs id 0 xs.length ∧ S[id]? = some (.row ((xs ++ ys).map fun a => .d (enc a)) e)
def Keep (S S' : Store) : Prop := ∀ (j : Nat) (o : Ob), S[j]? = some o → S'[j]? = some o
theorem Keep.refl {S : Store} : Keep S S := fun _ _ h => h
theorem Keep.trans {S S' S'' : Store} (h : Keep S S') (h' : Keep S' S'') : Keep S S'' := fun j o hj => h' j o (h j o hj)
theorem Keep.app {S l : Store} : Keep S (S ++ l) := fun j o hj => by rw [List.getElem?_append_left (getLen hj)]; exact hj
theorem Keep.len {S S' : Store} (h : Keep S S') : S.length ≤ S'.length := by
  cases hl : S.length with
  | zero => omega
  | succ n =>
    obtain ⟨o, ho⟩ : ∃ o, S[n]? = some o := ⟨S[n], List.getElem?_eq_getElem (by omega)⟩
    have := getLen (h n o ho)
    omega
theorem Keep.set {S S' : Store} {i : Nat} {o : Ob} (h : Keep S S') (hi : S.length ≤ i) : Keep S (S'.set i o) := fun j q hj => by
  have := getLen hj
  rw [List.getElem?_set_ne (by omega)]
  exact h j q hj
section
variable {α : Type} {enc : α → D} {S S' : Store} {v : V} {e : TypeId} {xs : List α}
theorem SlE.of (h : OwnS S v e (xs.map fun a => .d (enc a))) : SlE enc S v e xs := by
  rcases h with ⟨h1, h2⟩ | ⟨id, h1, h2⟩
  · exact .inl ⟨h1, by simpa using h2⟩
  · exact .inr ⟨id, [], by simpa using h1, by simpa using h2⟩
theorem SlE.keep (h : SlE enc S v e xs) (hk : Keep S S') : SlE enc S' v e xs := by
  rcases h with h | ⟨id, ys, h1, h2⟩
  · exact .inl h
  · exact .inr ⟨id, ys, h1, hk _ _ h2⟩
theorem allO_enc {n : Nat} (l : List α) : allO (frz S (n + 1)) (l.map fun a => .d (enc a)) = some (l.map enc) := by
  have := allO_d (S := S) (n := n) (l.map enc)
  rw [List.map_map] at this
  exact this
theorem SlE.frz (h : SlE enc S v e xs) {n : Nat} : Go.Vm.frz S (n + 2) v = some (.sl (xs.map enc)) := by
  rcases h with ⟨rfl, rfl⟩ | ⟨id, ys, rfl, h1⟩
  · rfl
  · show (match S[id]? with
      | some (.row zs e) => if 0 + xs.length ≤ zs.length && (allO (Go.Vm.frz S (n + 1)) zs).isSome then (allO (Go.Vm.frz S (n + 1)) ((zs.drop 0).take xs.length)).map D.sl else none
      | some (.fz zs e) => if 0 + xs.length ≤ zs.length then some (D.sl ((zs.drop 0).take xs.length)) else none
      | _ => none) = _
    have h2 : (((xs ++ ys).map fun a => V.d (enc a)).drop 0).take xs.length = xs.map fun a => V.d (enc a) := by
      rw [List.drop_zero, ← List.map_take, List.take_append_of_le_length (Nat.le_refl _), List.take_length]
    simp only [h1, h2, allO_enc, Option.isSome_some, Bool.and_true, Option.map_some]
    rw [if_pos (by simp)]
theorem SlE.len {t e' : TypeId} (hu : Tryd.prog.underlying t = some (.slice e')) (h : SlE enc S v e xs) : builtinV Tryd.prog S .len [t] [v] = some (.val (.d (.int .i64 xs.length)) S 0) := by
  rcases h with ⟨rfl, rfl⟩ | ⟨id, ys, rfl, h1⟩
  · exact len_ts hu
  · exact len_rs hu
theorem SlE.ix {t : TypeId} {i : Nat} (hu : Tryd.prog.underlying t = some (.slice e)) (hz : (sz Tryd.prog e).isSome = true) (h : SlE enc S v e xs) (hi : i < xs.length) :
    ∃ id, indexAddrV Tryd.prog S t v (.d (.int .i64 i)) = some (.ref id i 0) ∧ rowE S id i = some (.d (enc xs[i])) ∧ id < S.length := by
  rcases h with ⟨rfl, rfl⟩ | ⟨id, ys, rfl, h1⟩
  · exact absurd hi (by simp)
  · refine ⟨id, ?_, ?_, getLen h1⟩
    · have h0 : (0 : Int) ≤ i := by omega
      have h2 : (i : Int) < xs.length := by omega
      have h3 : rowT S id e = true := by simp only [rowT, h1, beq_self_eq_true]
      simp only [indexAddrV, intOf?, hu, h0, h2, h3, hz, and_self, if_true, Int.toNat_natCast, Nat.zero_add]
    · have h2 : ((xs ++ ys).map fun a => V.d (enc a))[i]? = some (.d (enc xs[i])) := by
        rw [List.getElem?_map, List.getElem?_append_left hi, List.getElem?_eq_getElem hi]; rfl
      simp only [rowE, h1, h2]
/-- Its row. -/
def idOf : V → Option Nat | .rs i _ _ => some i | _ => Option.none
theorem SlE.lt (h : SlE enc S v e xs) {i : Nat} (hi : idOf v = some i) : i < S.length := by
  rcases h with ⟨rfl, _⟩ | ⟨id, ys, rfl, h1⟩
  · cases hi
  · cases hi; exact getLen h1
theorem SlE.frame (h : SlE enc S v e xs) {k : Nat} (hk : idOf v ≠ some k) (hf : ∀ (j : Nat) (ys : List V) (u : TypeId), j ≠ k → S[j]? = some (.row ys u) → S'[j]? = some (.row ys u)) : SlE enc S' v e xs := by
  rcases h with h | ⟨id, ys, rfl, h1⟩
  · exact .inl h
  · exact .inr ⟨id, ys, rfl, hf _ _ _ (fun hh => hk (by rw [hh]; rfl)) h1⟩
end
theorem at_last {S : Store} {o : Ob} : (S ++ [o])[S.length]? = some o := by simp
theorem at_left {S l : Store} {i : Nat} {o : Ob} (h : S[i]? = some o) : (S ++ l)[i]? = some o := Keep.app _ _ h
section
variable {α : Type} {enc : α → D} {S S' : Store} {v : V} {e : TypeId} {xs : List α}
theorem SlE.cells (h : SlE enc S v e xs) : v.cells = [v] := by
  rcases h with ⟨rfl, _⟩ | ⟨id, ys, rfl, _⟩ <;> rfl
theorem SlE.one (h : SlE enc S v e xs) : v.one = true := by
  rcases h with ⟨rfl, _⟩ | ⟨id, ys, rfl, _⟩ <;> rfl
theorem SlE.fits {t : TypeId} (h1 : sz Tryd.prog t = some 1) (h2 : (Tryd.prog.underlying t).isSome = true ∧ aggT Tryd.prog t = false) (h : SlE enc S v e xs) (h0 : fitsT Tryd.prog t (.ts []) = true) (hr : ∀ i n, fitsT Tryd.prog t (.rs i 0 n) = true) : fitsT Tryd.prog t v = true := by
  rcases h with ⟨rfl, _⟩ | ⟨id, ys, rfl, _⟩
  · exact h0
  · exact hr _ _
theorem SlE.same (h : SlE enc S v e xs) : sameV v v = true := by
  rcases h with ⟨rfl, _⟩ | ⟨id, ys, rfl, _⟩ <;> simp [sameV, sameCell, sameCell0, sameAll]
theorem SlE.row (h : SlE enc S v e xs) {i : Nat} (hi : idOf v = some i) : ∃ ys, S[i]? = some (.row ys e) := by
  rcases h with ⟨rfl, _⟩ | ⟨id, ys, rfl, h1⟩
  · cases hi
  · cases hi; exact ⟨_, h1⟩
theorem SlE.frame2 (h : SlE enc S v e xs) (hf : ∀ (j : Nat) (o : Ob), S[j]? = some o → idOf v = some j → S'[j]? = some o) : SlE enc S' v e xs := by
  rcases h with h | ⟨id, ys, rfl, h1⟩
  · exact .inl h
  · exact .inr ⟨id, ys, rfl, hf _ _ h1 rfl⟩
end
theorem app_data {α : Type} {enc : α → D} {t e : TypeId} {S : Store} {v : V} {l ds : List α} (hu : Tryd.prog.underlying t = some (.slice e)) (hz : zOk Tryd.prog e = true) (hs : (sz Tryd.prog e).isSome = true) (hf : ∀ a, fitsT Tryd.prog e (.d (enc a)) = true) (hr : room Tryd.prog e (l.length + ds.length) = true) (h : SlE enc S v e l) :
    ∃ v' S' c, appendV Tryd.prog S t t v (.d (.sl (ds.map enc))) = some (v', S', c) ∧ (c = 1 ∨ c = 2 ∨ c = 3) ∧ SlE enc S' v' e (l ++ ds) ∧ (∀ (j : Nat) (o : Ob), S[j]? = some o → idOf v ≠ some j → S'[j]? = some o) ∧ (∀ i, idOf v' = some i → idOf v = some i ∨ S.length ≤ i) := by
  have hall : ((ds.map enc).map V.d).all (fitsT Tryd.prog e) = true := by
    rw [List.all_eq_true]
    intro x hx
    obtain ⟨y, hy, rfl⟩ := List.mem_map.1 hx
    obtain ⟨a, _, rfl⟩ := List.mem_map.1 hy
    exact hf a
  have src : srcV Tryd.prog S e t (.d (.sl (ds.map enc))) = some ((ds.map enc).map V.d) := by
    simp only [srcV, hu, elemsV, hall, hs, Bool.and_self, if_true]
  cases ds with
  | nil =>
    rw [List.append_nil]
    have src0 : srcV Tryd.prog S e t (.d (.sl [])) = some [] := src
    rcases h with ⟨rfl, rfl⟩ | ⟨id, ys, rfl, h1⟩
    · exact ⟨.ts [], S, 1, by simp only [appendV, hu, src0, List.map_nil], .inl rfl, .inl ⟨rfl, rfl⟩, fun _ _ h _ => h, fun i hi => .inl hi⟩
    · exact ⟨.rs id 0 l.length, S, 1, by simp only [appendV, hu, src0, List.map_nil], .inl rfl, .inr ⟨id, ys, rfl, h1⟩, fun _ _ h _ => h, fun i hi => .inl hi⟩
  | cons a r =>
    have src1 : srcV Tryd.prog S e t (.d (.sl (enc a :: r.map enc))) = some (.d (enc a) :: (r.map enc).map .d) := src
    have hl2 : ((r.map enc).map V.d).length = r.length := by simp
    rcases h with ⟨rfl, rfl⟩ | ⟨id, ys, rfl, h1⟩
    · have hr' : room Tryd.prog e (0 + (r.length + 1)) = true := by simpa using hr
      refine ⟨.rs S.length 0 (0 + (r.length + 1)), S ++ [.row ((a :: r).map fun a => .d (enc a)) e], 2, ?_, .inr (.inl rfl), .inr ⟨S.length, [], by simp, by simp⟩, fun j o hj _ => Keep.app _ _ hj, fun i hi => by cases hi; exact .inr (Nat.le_refl _)⟩
      show appendV Tryd.prog S t t _ (.d (.sl (enc a :: r.map enc))) = _
      simp only [appendV, hu, src1, hz, if_true, List.map_cons, List.all_nil, List.length_nil, hl2, hr', Bool.and_self, List.map_nil, List.nil_append, List.map_map, Function.comp_def, List.length_map]
    · have hid := getLen h1
      have htk : ((l ++ ys).map fun a => V.d (enc a)).take l.length = l.map fun a => V.d (enc a) := by rw [← List.map_take, List.take_append_of_le_length (Nat.le_refl _), List.take_length]
      have hlen : ((l ++ ys).map fun a => V.d (enc a)).length = l.length + ys.length := by simp
      have h2 : l.length ≤ l.length + ys.length := by omega
      have hr' : room Tryd.prog e (l.length + (r.length + 1)) = true := by simpa using hr
      refine ⟨.rs S.length 0 (l.length + (r.length + 1)), S.set id .dead ++ [.row (l.map (fun a => V.d (enc a)) ++ (a :: r).map fun a => .d (enc a)) e], 3, ?_, .inr (.inr rfl), .inr ⟨S.length, [], by simp, ?_⟩, ?_, fun i hi => by cases hi; exact .inr (Nat.le_refl _)⟩
      · show appendV Tryd.prog S t t _ (.d (.sl (enc a :: r.map enc))) = _
        simp only [appendV, hu, src1, hz, if_true, List.map_cons, h1, hlen, hl2, hr', h2, htk, decide_true, Bool.and_self, List.map_map, Function.comp_def, List.length_map]
      · rw [List.getElem?_append_right (by simp)]
        simp
      · intro j o hj hn
        have hjl := getLen hj
        rw [List.getElem?_append_left (by simpa using hjl), List.getElem?_set_ne]
        · exact hj
        · rintro rfl; exact hn rfl
theorem app_ts {S : Store} {t tx : TypeId} {v : V} {xs : List D} : appendV Tryd.prog S t tx v (.ts xs) = appendV Tryd.prog S t tx v (.d (.sl xs)) := by
  have e : ∀ e, srcV Tryd.prog S e tx (.ts xs) = srcV Tryd.prog S e tx (.d (.sl xs)) := fun e => by simp only [srcV, elemsV]
  simp only [appendV, e]
def bs2V (P : Program) (S : Store) (t : TypeId) (v w : V) : Option Rs := opV P S [v, w] ⟨none, .buildSlice t 2 #[(0, .tmp 0), (1, .tmp 1)], 0, "", #[], none⟩
theorem op_bs2 {P : Program} {S : Store} {T : List V} {t : TypeId} {x y : Operand} {dst : Option Tmp} {ty : TypeId} {pos : String} {after : Array Edge} {g : Option (Nat × Bool)} : opV P S T ⟨dst, .buildSlice t 2 #[(0, x), (1, y)], ty, pos, after, g⟩ = bs2V P S t (evalO T x) (evalO T y) := rfl
def bs4V (P : Program) (S : Store) (t : TypeId) (v w x y : V) : Option Rs := opV P S [v, w, x, y] ⟨none, .buildSlice t 4 #[(0, .tmp 0), (1, .tmp 1), (2, .tmp 2), (3, .tmp 3)], 0, "", #[], none⟩
theorem op_bs4 {P : Program} {S : Store} {T : List V} {t : TypeId} {a b c d : Operand} {dst : Option Tmp} {ty : TypeId} {pos : String} {after : Array Edge} {g : Option (Nat × Bool)} : opV P S T ⟨dst, .buildSlice t 4 #[(0, a), (1, b), (2, c), (3, d)], ty, pos, after, g⟩ = bs4V P S t (evalO T a) (evalO T b) (evalO T c) (evalO T d) := rfl
theorem bs2_22 {S : Store} {a b : Int} : bs2V Tryd.prog S 22 (.d (.int .u8 a)) (.d (.int .u8 b)) = some (.val (.ts [.int .u8 a, .int .u8 b]) S 0) := by kernel_rfl
theorem bs2_23 {S : Store} {a b : List UInt8} : bs2V Tryd.prog S 23 (.d (.str a)) (.d (.str b)) = some (.val (.ts [.str a, .str b]) S 0) := by kernel_rfl
theorem bs4_23 {S : Store} {a b c d : List UInt8} : bs4V Tryd.prog S 23 (.d (.str a)) (.d (.str b)) (.d (.str c)) (.d (.str d)) = some (.val (.ts [.str a, .str b, .str c, .str d]) S 0) := by kernel_rfl
theorem op_index {P : Program} {S : Store} {T : List V} {t : TypeId} {x y : Operand} {dst : Option Tmp} {ty : TypeId} {pos : String} {after : Array Edge} {g : Option (Nat × Bool)} : opV P S T ⟨dst, .index t x y, ty, pos, after, g⟩ = (indexV P t (evalO T x) (evalO T y)).map fun v => Rs.val v S 0 := rfl
/-! Digits of bytes. -/
def hexB (d : Nat) : UInt8 := UInt8.ofNat (if d < 10 then 48 + d else 87 + d)
def hexL (b : List UInt8) : List UInt8 := b.flatMap fun x => [hexB (x.toNat / 16), hexB (x.toNat % 16)]
def hexS (b : List UInt8) : List UInt8 := if b.length = 0 then [45] else hexL b
theorem hexL_len (b : List UInt8) : (hexL b).length = 2 * b.length := by
  induction b with
  | nil => rfl
  | cons x r ih =>
    have e : hexL (x :: r) = [hexB (x.toNat / 16), hexB (x.toNat % 16)] ++ hexL r := rfl
    rw [e, List.length_append, ih, List.length_cons]
    simp; omega
theorem sl_hex {S : Store} : ∀ (d : Nat), d < 16 → sliceV Tryd.prog S 9 (.d (.str [48, 49, 50, 51, 52, 53, 54, 55, 56, 57, 97, 98, 99, 100, 101, 102])) (some (.d (.int .i64 (d : Int)))) (some (.d (.int .i64 ((d : Int) + 1)))) = some (.d (.str [hexB d]))
  | 0, _ => by kernel_rfl
  | 1, _ => by kernel_rfl
  | 2, _ => by kernel_rfl
  | 3, _ => by kernel_rfl
  | 4, _ => by kernel_rfl
  | 5, _ => by kernel_rfl
  | 6, _ => by kernel_rfl
  | 7, _ => by kernel_rfl
  | 8, _ => by kernel_rfl
  | 9, _ => by kernel_rfl
  | 10, _ => by kernel_rfl
  | 11, _ => by kernel_rfl
  | 12, _ => by kernel_rfl
  | 13, _ => by kernel_rfl
  | 14, _ => by kernel_rfl
  | 15, _ => by kernel_rfl
  | n + 16, h => absurd h (by omega)
theorem ix_hex : ∀ (d : Nat), d < 16 → indexV Tryd.prog 9 (.d (.str [48, 49, 50, 51, 52, 53, 54, 55, 56, 57, 97, 98, 99, 100, 101, 102])) (.d (.int .u8 (d : Int))) = some (.d (.int .u8 (hexB d).toNat))
  | 0, _ => by kernel_rfl
  | 1, _ => by kernel_rfl
  | 2, _ => by kernel_rfl
  | 3, _ => by kernel_rfl
  | 4, _ => by kernel_rfl
  | 5, _ => by kernel_rfl
  | 6, _ => by kernel_rfl
  | 7, _ => by kernel_rfl
  | 8, _ => by kernel_rfl
  | 9, _ => by kernel_rfl
  | 10, _ => by kernel_rfl
  | 11, _ => by kernel_rfl
  | 12, _ => by kernel_rfl
  | 13, _ => by kernel_rfl
  | 14, _ => by kernel_rfl
  | 15, _ => by kernel_rfl
  | n + 16, h => absurd h (by omega)
theorem and15 : ∀ x : Fin 256, (BitVec.ofInt 8 (x.val : Int) &&& BitVec.ofInt 8 15).toNat = x.val % 16 := by decide +kernel
end Go.Proofs.YtghllhghboaagaaDoor
end
/-! Bytes as digits: the program's way and the document's. -/
section
set_option linter.unusedVariables false
set_option linter.unusedSimpArgs false
set_option maxRecDepth 100000
set_option maxHeartbeats 4000000
namespace Go.Proofs.YtghllhghboaagaaDoor
open Go.Vm
theorem cv53 {S : Store} {x : Nat} (h : x < 256) : convertV Tryd.prog S 5 3 (.d (.int .u8 (x : Int))) = some (.d (.int .i64 (x : Int)), 0) := by
  have h1 : Tryd.prog.underlying 5 = some (.int .u8) := by kernel_rfl
  have h2 : Tryd.prog.underlying 3 = some (.int .i64) := by kernel_rfl
  simp only [convertV, h1, h2]
  rw [wrap64 (by omega)]
theorem hexL_drop {b : List UInt8} {i : Nat} (h : i < b.length) : hexL (b.drop i) = [hexB (b[i].toNat / 16), hexB (b[i].toNat % 16)] ++ hexL (b.drop (i + 1)) := by
  rw [List.drop_eq_getElem_cons h]
  rfl
theorem rhex_l (b : List UInt8) (hl : b.length ≤ 1000000) (R : Post) (x2 : V) : ∀ (k i : Nat) (s : List UInt8) (g1 g5 g6 g7 g8 g9 g10 g11 g12 g13 g14 g15 g16 g17 g18 g19 g20 g21 g22 g23 g24 g25 g26 g27 g28 g29 g30 g31 g32 g33 g34 g35 g36 g37 g38 : V), b.length - i = k → i ≤ b.length → s.length ≤ 2 * i →
   (∀ i' g1 g5 g6 g7 g8 g9 g10 g11 g12 g13 g14 g15 g16 g17 g18 g19 g20 g21 g22 g23 g24 g25 g26 g27 g28 g29 g30 g31 g32 g33 g34 g35 g36 g37 g38, R (.exit 0) ((.d (.sl (b.map fun x => D.int .u8 x.toNat))) :: g1 :: x2 :: (.d (.str (s ++ hexL (b.drop i)))) :: i' :: g5 :: g6 :: g7 :: g8 :: g9 :: g10 :: g11 :: g12 :: g13 :: g14 :: g15 :: g16 :: g17 :: g18 :: g19 :: g20 :: g21 :: g22 :: g23 :: g24 :: g25 :: g26 :: g27 :: g28 :: g29 :: g30 :: g31 :: g32 :: g33 :: g34 :: g35 :: g36 :: g37 :: g38 :: []) [] []) →
   Wp cfg (.loop (lpOf (Tryd.f22.body.getD .skip) 0)) ((.d (.sl (b.map fun x => D.int .u8 x.toNat))) :: g1 :: x2 :: (.d (.str s)) :: (.d (.int .i64 i)) :: g5 :: g6 :: g7 :: g8 :: g9 :: g10 :: g11 :: g12 :: g13 :: g14 :: g15 :: g16 :: g17 :: g18 :: g19 :: g20 :: g21 :: g22 :: g23 :: g24 :: g25 :: g26 :: g27 :: g28 :: g29 :: g30 :: g31 :: g32 :: g33 :: g34 :: g35 :: g36 :: g37 :: g38 :: []) [] [] R := by
  intro k
  induction k with
  | zero =>
    intro i s g1 g5 g6 g7 g8 g9 g10 g11 g12 g13 g14 g15 g16 g17 g18 g19 g20 g21 g22 g23 g24 g25 g26 g27 g28 g29 g30 g31 g32 g33 g34 g35 g36 g37 g38 hk hi hs hR
    have hie : i = b.length := by omega
    rw [hie, List.drop_length, show hexL [] = [] from rfl, List.append_nil] at hR
    rw [wk_of]
    refine wk_loop ?_
    conv => arg 2; whnf
    simp (maxSteps := 1000000) (disch := first | assumption | omega | rfl) only [↓vmp, vme, vmb, ty, hP, dec_t, dec_f, wrap64, List.length_map, Int.toNat_natCast, Nat.reduceAdd, List.cons_append, List.nil_append, Option.map_some, Option.map_none, strOf_mk, sb_eql, sb_neq, vmg, ↓vgd, ↓vst, ↓vix]
    exact hR _ _ _ _ _ _ _ _ _ _ _ _ _ _ _ _ _ _ _ _ _ _ _ _ _ _ _ _ _ _ _ _ _ _ _ _
  | succ k ih =>
    intro i s g1 g5 g6 g7 g8 g9 g10 g11 g12 g13 g14 g15 g16 g17 g18 g19 g20 g21 g22 g23 g24 g25 g26 g27 g28 g29 g30 g31 g32 g33 g34 g35 g36 g37 g38 hk hi hs hR
    have hlt : i < b.length := by omega
    rw [hexL_drop hlt, ← List.append_assoc] at hR
    have hix := fun S => ix22 (S := S) hlt
    obtain ⟨x, hx⟩ : ∃ x, b[i].toNat = x := ⟨_, rfl⟩
    have hx256 : x < 256 := by rw [← hx]; exact b[i].toNat_lt
    rw [hx] at hR hix
    have hcv := fun S => cv53 (S := S) hx256
    have hq : binV Tryd.prog .quo 3 (.d (.int .i64 (x : Int))) (.d (.int .i64 16)) = some (.d (.int .i64 ((x / 16 : Nat) : Int))) := by
      simp only [binV, intBin]
      rw [if_pos trivial, if_neg (by decide), show ((x : Int).tdiv 16) = ((x / 16 : Nat) : Int) from rfl, wrap64 (by omega)]
      rfl
    have hr : binV Tryd.prog .rem 3 (.d (.int .i64 (x : Int))) (.d (.int .i64 16)) = some (.d (.int .i64 ((x % 16 : Nat) : Int))) := by
      simp only [binV, intBin]
      rfl
    have s1 := fun S => sl_hex (S := S) (x / 16) (by omega)
    have s2 := fun S => sl_hex (S := S) (x % 16) (by omega)
    have a1 : strBin .add s [hexB (x / 16)] = some (.str (s ++ [hexB (x / 16)])) := sb_add (by simp; omega)
    have a2 : strBin .add (s ++ [hexB (x / 16)]) [hexB (x % 16)] = some (.str (s ++ [hexB (x / 16)] ++ [hexB (x % 16)])) := sb_add (by simp; omega)
    have e : s ++ [hexB (x / 16)] ++ [hexB (x % 16)] = s ++ [hexB (x / 16), hexB (x % 16)] := by simp
    rw [e] at a2
    rw [wk_of]
    refine wk_loop ?_
    conv => arg 2; whnf
    simp (maxSteps := 1000000) (disch := first | assumption | omega | rfl) only [↓vmp, vme, vmb, ty, hP, dec_t, dec_f, wrap64, List.length_map, Int.toNat_natCast, Nat.reduceAdd, List.cons_append, List.nil_append, Option.map_some, Option.map_none, strOf_mk, sb_eql, sb_neq, vmg, ↓vgd, ↓vst, ↓vix]
    refine wk_draw (is := [0, 1, 2, 3, 4, 5, 6, 7, 8, 9, 10, 11, 12, 13]) (h := 0) (by kernel_rfl) (by kernel_rfl) ?_
    simp (maxSteps := 1000000) (disch := first | assumption | omega | rfl) only [List.replicate_zero, eq_self, vmd, vmk, vmo, vmg, vme, vmb, ty, hP, dec_t, dec_f, wrap64, List.length_map, Int.toNat_natCast, Nat.reduceAdd, ↓vgd, ↓vst, ↓vix, List.append_nil, hix, hcv, hq, hr]
    refine ⟨by kernel_rfl, ?_⟩
    simp (maxSteps := 1000000) (disch := first | assumption | omega | rfl) only [↓vmp, vme, vmb, ty, hP, dec_t, dec_f, wrap64, List.length_map, Int.toNat_natCast, Nat.reduceAdd, List.cons_append, List.nil_append, Option.map_some, Option.map_none, strOf_mk, sb_eql, sb_neq, vmg, ↓vgd, ↓vst, ↓vix]
    refine wk_draw (is := [0, 1, 2, 3, 4, 5, 6, 7, 8, 9, 10, 11]) (h := 0) (by kernel_rfl) (by kernel_rfl) ?_
    simp (maxSteps := 1000000) (disch := first | assumption | omega | rfl) only [List.replicate_zero, eq_self, vmd, vmk, vmo, vmg, vme, vmb, ty, hP, dec_t, dec_f, wrap64, List.length_map, Int.toNat_natCast, Nat.reduceAdd, ↓vgd, ↓vst, ↓vix, List.append_nil, strOf_mk, s1, s2, a1, a2]
    refine ⟨by kernel_rfl, ?_⟩
    simp (maxSteps := 1000000) (disch := first | assumption | omega | rfl) only [↓vmp, vme, vmb, ty, hP, dec_t, dec_f, wrap64, List.length_map, Int.toNat_natCast, Nat.reduceAdd, List.cons_append, List.nil_append, Option.map_some, Option.map_none, strOf_mk, sb_eql, sb_neq, vmg, ↓vgd, ↓vst, ↓vix]
    exact ih (i + 1) _ _ _ _ _ _ _ _ _ _ _ _ _ _ _ _ _ _ _ _ _ _ _ _ _ _ _ _ _ _ _ _ _ _ _ _ (by omega) (by omega) (by simp; omega) hR
theorem rhex_ok (b : List UInt8) (hl : b.length ≤ 400000) : Ev cfg 22 [.sl (b.map fun x => D.int .u8 x.toNat)] (.ret (.d (.str (hexS b)))) := by
  refine ev_of rfl rfl body22 ?_
  show Wp cfg (Tryd.f22.body.getD .skip) ((.d (.sl (b.map fun x => D.int .u8 x.toNat))) :: (.tup []) :: (.tup []) :: (.tup []) :: (.tup []) :: (.tup []) :: (.tup []) :: (.tup []) :: (.tup []) :: (.tup []) :: (.tup []) :: (.tup []) :: (.tup []) :: (.tup []) :: (.tup []) :: (.tup []) :: (.tup []) :: (.tup []) :: (.tup []) :: (.tup []) :: (.tup []) :: (.tup []) :: (.tup []) :: (.tup []) :: (.tup []) :: (.tup []) :: (.tup []) :: (.tup []) :: (.tup []) :: (.tup []) :: (.tup []) :: (.tup []) :: (.tup []) :: (.tup []) :: (.tup []) :: (.tup []) :: (.tup []) :: (.tup []) :: (.tup []) :: []) [] [] _
  conv => arg 2; whnf
  simp (maxSteps := 1000000) (disch := first | assumption | omega | rfl) only [↓vmp, vme, vmb, ty, hP, dec_t, dec_f, wrap64, List.length_map, Int.toNat_natCast, Nat.reduceAdd, List.cons_append, List.nil_append, Option.map_some, Option.map_none, strOf_mk, sb_eql, sb_neq, vmg, ↓vgd, ↓vst, ↓vix]
  refine rhex_l b (by omega) _ _ b.length 0 [] _ _ _ _ _ _ _ _ _ _ _ _ _ _ _ _ _ _ _ _ _ _ _ _ _ _ _ _ _ _ _ _ _ _ _ rfl (Nat.zero_le _) (by simp) ?_
  intro i' g1 g5 g6 g7 g8 g9 g10 g11 g12 g13 g14 g15 g16 g17 g18 g19 g20 g21 g22 g23 g24 g25 g26 g27 g28 g29 g30 g31 g32 g33 g34 g35 g36 g37 g38
  rw [List.drop_zero, List.nil_append]
  unfold hexS
  have hlen := hexL_len b
  by_cases h0 : b.length = 0
  · have e : hexL b = [] := List.length_eq_zero_iff.1 (by omega)
    rw [if_pos h0, e]
    simp (maxSteps := 1000000) (disch := first | assumption | omega | rfl) only [↓vmp, vme, vmb, ty, hP, dec_t, dec_f, wrap64, List.length_map, Int.toNat_natCast, Nat.reduceAdd, List.cons_append, List.nil_append, Option.map_some, Option.map_none, strOf_mk, sb_eql, sb_neq, vmg, ↓vgd, ↓vst, ↓vix, dec_True]
    exact retQ_one rfl rfl rfl
  · have e : ¬ hexL b = [] := fun hh => by rw [hh] at hlen; simp at hlen; omega
    rw [if_neg h0]
    simp (maxSteps := 1000000) (disch := first | assumption | omega | rfl) only [↓vmp, vme, vmb, ty, hP, dec_t, dec_f, wrap64, List.length_map, Int.toNat_natCast, Nat.reduceAdd, List.cons_append, List.nil_append, Option.map_some, Option.map_none, strOf_mk, sb_eql, sb_neq, vmg, ↓vgd, ↓vst, ↓vix]
    exact retQ_one rfl rfl rfl
theorem bytesD_B {l : List UInt8} : bytesD (l.map fun b => V.d (.int .u8 b.toNat)) = some l := by
  induction l with
  | nil => rfl
  | cons b r ih =>
    simp only [List.map_cons, bytesD, ih]
    rw [Int.toNat_natCast, UInt8.ofNat_toNat]
theorem cv229 {S : Store} {v : V} {l : List UInt8} (h : SlE encU S v 5 l) : convertV Tryd.prog S 22 9 v = some (.d (.str l), 1) := by
  have hu : Tryd.prog.underlying 9 = some .string := by kernel_rfl
  have h5 : Tryd.prog.underlying 5 = some (.int .u8) := by kernel_rfl
  rcases h with ⟨rfl, rfl⟩ | ⟨id, ys, rfl, h1⟩
  · simp only [convertV, Tryd.underlying22, hu, h5, elemsV, List.map_nil, bytesD, Option.map_some]
  · have h2 : elemsV S (.rs id 0 l.length) = some (l.map fun b => V.d (.int .u8 b.toNat)) := by
      simp only [elemsV, h1]
      rw [if_pos (by simp), List.drop_zero, ← List.map_take, List.take_append_of_le_length (Nat.le_refl _), List.take_length]
    simp only [convertV, Tryd.underlying22, hu, h5, h2, bytesD_B, Option.map_some]
theorem hex_l (b : List UInt8) (hl : b.length ≤ 400000) (R : Post) (x2 : V) : ∀ (k i : Nat) (l : List UInt8) (v : V) (S : Store) (g1 g4 g5 g6 g7 g8 g9 g10 g11 g12 g16 g17 g18 g19 g20 g21 g22 g23 g24 g25 g26 g27 g28 g29 g30 : V), b.length - i = k → i ≤ b.length → l.length ≤ 2 * i → SlE encU S v 5 l →
   (∀ S v i' g1 g4 g5 g6 g7 g8 g9 g10 g11 g12 g16 g17 g18 g19 g20 g21 g22 g23 g24 g25 g26 g27 g28 g29 g30, SlE encU S v 5 (l ++ hexL (b.drop i)) → R (.exit 0) ((.d (.sl (b.map fun x => D.int .u8 x.toNat))) :: g1 :: x2 :: v :: g4 :: g5 :: g6 :: g7 :: g8 :: g9 :: g10 :: g11 :: g12 :: (.d (.sl (b.map fun x => D.int .u8 x.toNat))) :: (.d (.int .i64 b.length)) :: i' :: g16 :: g17 :: g18 :: g19 :: g20 :: g21 :: g22 :: g23 :: g24 :: g25 :: g26 :: g27 :: g28 :: g29 :: g30 :: []) S []) →
   Wp cfg (.loop (lpOf (Tryd.f20.body.getD .skip) 0)) ((.d (.sl (b.map fun x => D.int .u8 x.toNat))) :: g1 :: x2 :: v :: g4 :: g5 :: g6 :: g7 :: g8 :: g9 :: g10 :: g11 :: g12 :: (.d (.sl (b.map fun x => D.int .u8 x.toNat))) :: (.d (.int .i64 b.length)) :: (.d (.int .i64 i)) :: g16 :: g17 :: g18 :: g19 :: g20 :: g21 :: g22 :: g23 :: g24 :: g25 :: g26 :: g27 :: g28 :: g29 :: g30 :: []) S [] R := by
  intro k
  induction k with
  | zero =>
    intro i l v S g1 g4 g5 g6 g7 g8 g9 g10 g11 g12 g16 g17 g18 g19 g20 g21 g22 g23 g24 g25 g26 g27 g28 g29 g30 hk hi hs hv hR
    have hie : i = b.length := by omega
    rw [hie, List.drop_length, show hexL [] = [] from rfl, List.append_nil] at hR
    rw [wk_of]
    refine wk_loop ?_
    conv => arg 2; whnf
    simp (maxSteps := 1000000) (disch := first | assumption | omega | rfl) only [↓vmp, vme, vmb, ty, hP, dec_t, dec_f, wrap64, List.length_map, Int.toNat_natCast, Nat.reduceAdd, List.cons_append, List.nil_append, Option.map_some, Option.map_none, strOf_mk, sb_eql, sb_neq, vmg, ↓vgd, ↓vst, ↓vix]
    exact hR _ _ _ _ _ _ _ _ _ _ _ _ _ _ _ _ _ _ _ _ _ _ _ _ _ _ _ _ hv
  | succ k ih =>
    intro i l v S g1 g4 g5 g6 g7 g8 g9 g10 g11 g12 g16 g17 g18 g19 g20 g21 g22 g23 g24 g25 g26 g27 g28 g29 g30 hk hi hs hv hR
    have hlt : i < b.length := by omega
    rw [hexL_drop hlt, ← List.append_assoc] at hR
    have hix := fun S => ix22 (S := S) hlt
    obtain ⟨x, hx⟩ : ∃ x, b[i].toNat = x := ⟨_, rfl⟩
    have hx256 : x < 256 := by rw [← hx]; exact b[i].toNat_lt
    rw [hx] at hR hix
    have hsh : ∀ K : IntKind, binV Tryd.prog .shr 5 (.d (.int .u8 (x : Int))) (.d (.int K 4)) = some (.d (.int .u8 ((x / 16 : Nat) : Int))) := fun K => by
      simp only [binV, intBin]
      rw [if_neg (by decide)]
      have : (x : Int).fdiv (2 ^ min (4 : Int).toNat IntKind.u8.bits) = ((x / 16 : Nat) : Int) := by
        show (x : Int).fdiv 16 = _
        rw [Int.fdiv_eq_ediv_of_nonneg _ (by decide)]
        rfl
      rw [this]
      rfl
    have han : binV Tryd.prog .and 5 (.d (.int .u8 (x : Int))) (.d (.int .u8 15)) = some (.d (.int .u8 ((x % 16 : Nat) : Int))) := by
      simp only [binV, intBin]
      rw [if_pos trivial]
      have h1 := and15 ⟨x, hx256⟩
      have h2 : IntKind.u8.wrap (((BitVec.ofInt IntKind.u8.bits (x : Int) &&& BitVec.ofInt IntKind.u8.bits 15).toNat : Nat) : Int) = ((x % 16 : Nat) : Int) := by
        have h3 : (BitVec.ofInt IntKind.u8.bits (x : Int) &&& BitVec.ofInt IntKind.u8.bits 15).toNat = x % 16 := h1
        rw [h3]
        exact (by decide : ∀ d : Fin 16, IntKind.u8.wrap ((d.val : Nat) : Int) = (d.val : Int)) ⟨x % 16, by omega⟩
      rw [h2]
      rfl
    have i1 := ix_hex (x / 16) (by omega)
    have i2 := ix_hex (x % 16) (by omega)
    obtain ⟨v', S', c, e1, hc, e2, e3, e4⟩ := app_data (t := 22) (enc := encU) (ds := [hexB (x / 16), hexB (x % 16)]) Tryd.underlying22 (by kernel_rfl) (by kernel_rfl) (fun a => by kernel_rfl) (room22 (by simp; omega)) hv
    have e1 : appendV Tryd.prog S 22 22 v (.ts [.int .u8 (hexB (x / 16)).toNat, .int .u8 (hexB (x % 16)).toNat]) = some (v', S', c) := by rw [app_ts]; exact e1
    rw [wk_of]
    refine wk_loop ?_
    conv => arg 2; whnf
    simp (maxSteps := 1000000) (disch := first | assumption | omega | rfl) only [↓vmp, vme, vmb, ty, hP, dec_t, dec_f, wrap64, List.length_map, Int.toNat_natCast, Nat.reduceAdd, List.cons_append, List.nil_append, Option.map_some, Option.map_none, strOf_mk, sb_eql, sb_neq, vmg, ↓vgd, ↓vst, ↓vix, hix]
    rcases hc with rfl | rfl | rfl
    all_goals
      refine wk_draw (is := [0, 1, 2, 3, 4, 5, 6, 7, 8, 9]) (h := 0) (by kernel_rfl) (by kernel_rfl) ?_
      simp (maxSteps := 1000000) (disch := first | assumption | omega | rfl) only [List.replicate_zero, eq_self, vmd, vmk, vmo, vmg, vme, vmb, ty, hP, dec_t, dec_f, wrap64, List.length_map, Int.toNat_natCast, Nat.reduceAdd, ↓vgd, ↓vst, ↓vix, vso, List.append_nil, Option.map_some, strOf_mk, hsh, han, op_index, i1, i2, op_bs2, bs2_22, e1]
      first | refine ⟨by kernel_rfl, ?_⟩ | refine ⟨fun _ => by kernel_rfl, by kernel_rfl, ?_⟩
      simp (maxSteps := 1000000) (disch := first | assumption | omega | rfl) only [↓vmp, vme, vmb, ty, hP, dec_t, dec_f, wrap64, List.length_map, Int.toNat_natCast, Nat.reduceAdd, List.cons_append, List.nil_append, Option.map_some, Option.map_none, strOf_mk, sb_eql, sb_neq, vmg, ↓vgd, ↓vst, ↓vix]
      exact ih (i + 1) _ v' S' _ _ _ _ _ _ _ _ _ _ _ _ _ _ _ _ _ _ _ _ _ _ _ _ _ (by omega) (by omega) (by simp; omega) e2 hR
theorem hex_ok (b : List UInt8) (hl : b.length ≤ 400000) : Ev cfg 20 [.sl (b.map fun x => D.int .u8 x.toNat)] (.ret (.d (.str (hexS b)))) := by
  refine ev_of rfl rfl body20 ?_
  show Wp cfg (Tryd.f20.body.getD .skip) ((.d (.sl (b.map fun x => D.int .u8 x.toNat))) :: (.tup []) :: (.tup []) :: (.tup []) :: (.tup []) :: (.tup []) :: (.tup []) :: (.tup []) :: (.tup []) :: (.tup []) :: (.tup []) :: (.tup []) :: (.tup []) :: (.tup []) :: (.tup []) :: (.tup []) :: (.tup []) :: (.tup []) :: (.tup []) :: (.tup []) :: (.tup []) :: (.tup []) :: (.tup []) :: (.tup []) :: (.tup []) :: (.tup []) :: (.tup []) :: (.tup []) :: (.tup []) :: (.tup []) :: (.tup []) :: []) [] [] _
  conv => arg 2; whnf
  unfold hexS
  by_cases h0 : b.length = 0
  · have h0' : (b.length : Int) = 0 := by omega
    rw [if_pos h0]
    simp (maxSteps := 1000000) (disch := first | assumption | omega | rfl) only [↓vmp, vme, vmb, ty, hP, dec_t, dec_f, wrap64, List.length_map, Int.toNat_natCast, Nat.reduceAdd, List.cons_append, List.nil_append, Option.map_some, Option.map_none, strOf_mk, sb_eql, sb_neq, vmg, ↓vgd, ↓vst, ↓vix]
    exact retQ_one rfl rfl rfl
  · have h0' : ¬ (b.length : Int) = 0 := by omega
    have hmk : ∀ S, makeSliceV Tryd.prog S 22 (.d (.int .i64 0)) (.d (.int .i64 (2 * (b.length : Int)))) = some (.rs S.length 0 0, S ++ [.row (List.replicate (2 * b.length) (.d (.int .u8 0))) 5]) := fun S => by
      have hz : zeroV Tryd.prog 5 = some (.d (.int .u8 0)) := by kernel_rfl
      have hfz : fitsT Tryd.prog 5 (.d (.int .u8 0)) = true := by kernel_rfl
      have e : (2 * (b.length : Int)).toNat = 2 * b.length := by omega
      simp only [makeSliceV, Tryd.underlying22, hz, e]
      rw [if_pos ⟨by omega, by omega, by omega⟩, if_pos (by rw [room22 (m := 2 * b.length) (by omega), hfz]; rfl)]
      rfl
    rw [if_neg h0]
    simp (maxSteps := 1000000) (disch := first | assumption | omega | rfl) only [↓vmp, vme, vmb, ty, hP, dec_t, dec_f, wrap64, List.length_map, Int.toNat_natCast, Nat.reduceAdd, List.cons_append, List.nil_append, Option.map_some, Option.map_none, strOf_mk, sb_eql, sb_neq, vmg, ↓vgd, ↓vst, ↓vix, hmk]
    refine hex_l b hl _ _ b.length 0 [] _ _ _ _ _ _ _ _ _ _ _ _ _ _ _ _ _ _ _ _ _ _ _ _ _ _ _ rfl (Nat.zero_le _) (by simp) (.inr ⟨0, List.replicate (2 * b.length) 0, rfl, by simp⟩) ?_
    intro S v i' g1 g4 g5 g6 g7 g8 g9 g10 g11 g12 g16 g17 g18 g19 g20 g21 g22 g23 g24 g25 g26 g27 g28 g29 g30 hv
    rw [List.drop_zero, List.nil_append] at hv
    have hcv := cv229 hv
    simp (maxSteps := 1000000) (disch := first | assumption | omega | rfl) only [↓vmp, vme, vmb, ty, hP, dec_t, dec_f, wrap64, List.length_map, Int.toNat_natCast, Nat.reduceAdd, List.cons_append, List.nil_append, Option.map_some, Option.map_none, strOf_mk, sb_eql, sb_neq, vmg, ↓vgd, ↓vst, ↓vix, hcv]
    exact retQ_one rfl rfl rfl
end Go.Proofs.YtghllhghboaagaaDoor
end
/-! report.Answer: the words of an answer, with one blank between. -/
section
set_option linter.unusedVariables false
set_option linter.unusedSimpArgs false
set_option maxRecDepth 100000
set_option maxHeartbeats 4000000
namespace Go.Vm
section
variable {C : Cfg} {ops : Array Oper} {S : Store} {F : Dfs} {Q : Post}
/-- A call apart that answers what refers to nothing. -/
theorem callV_plain {f : FuncId} {args : List V} {ds : List D} {o : Out} (hs : C.shared f = false) (hf : allO (frz S frzFuel) args = some ds) (hp : plainOut o = true) (he : Ev C f ds o) : ∃ n, callV C (run C n) f args S = some (o, S, 1) := by
  obtain ⟨n, hn⟩ := he
  have hn' : answer C (run C n) f ds = some o := hn
  refine ⟨n, ?_⟩
  unfold callV
  simp only [hs, Bool.false_eq_true, if_false, hf, hn', hp, if_true]
  split <;> rfl
theorem wr_call_plain {dst : Option Tmp} {l : List Oper} {T : List V} {f : FuncId} {args : List V} {ds : List D} {v : V} (hs : C.shared f = false) (hf : allO (frz S frzFuel) args = some ds) (hp : plainOut (.ret v) = true) (he : Ev C f ds (.ret v)) :
    WpR C ops dst l T S F Q (some (.enter f args)) = WpL C ops l (putT T dst v) S F Q := by
  obtain ⟨n, hc⟩ := callV_plain hs hf hp he
  apply propext
  constructor
  · rintro ⟨m, o, S', c, h1, h2⟩
    have := callV_det h1 hc
    simp only [Prod.mk.injEq] at this
    obtain ⟨rfl, rfl, rfl⟩ := this
    exact h2
  · exact fun h => ⟨n, _, _, _, hc, h⟩
theorem rowE_left {l : Store} {i k : Nat} (h : i < S.length) : rowE (S ++ l) i k = rowE S i k := by unfold rowE; rw [List.getElem?_append_left h]
theorem rowE_set {o : Ob} {i j k : Nat} (h : i ≠ j) : rowE (S.set j o) i k = rowE S i k := by unfold rowE; rw [List.getElem?_set_ne (Ne.symm h)]
end
end Go.Vm
namespace Go.Proofs.YtghllhghboaagaaDoor
open Go.Vm
abbrev InB (n : Int) : Prop := -9223372036854775808 ≤ n ∧ n ≤ 9223372036854775807
structure AnsB (a : Ans) : Prop where
  err : InB a.err
  ino : InB a.ino
  links : InB a.links
  size : InB a.size
  names : a.names.length ≤ 20
  name : ∀ s ∈ a.names, s.length ≤ 60
  data : a.data.length ≤ 600
def okS : List UInt8 := [111, 107]
def errS : List UInt8 := [101, 114, 114, 111, 114]
def wordsA (dos : Int) (a : Ans) : List (List UInt8) :=
  if dos = 1 ∨ dos = 2 then [Lib.itoa a.ino] else if dos = 8 then [hexS a.data] else if dos = 10 then a.names else if dos = 11 then [Lib.itoa a.ino, kindS a.kind, Lib.itoa a.links, Lib.itoa a.size] else []
def ansS (dos : Int) (a : Ans) : List UInt8 := if a.err ≠ 0 then errS ++ Lib.joinTail [32] [Lib.itoa a.err] else okS ++ Lib.joinTail [32] (wordsA dos a)
theorem hexS_len (b : List UInt8) : (hexS b).length ≤ 2 * b.length + 1 := by
  have := hexL_len b
  unfold hexS
  split
  · simp
  · omega
theorem kindS_len (k : Int) : (kindS k).length ≤ 4 := by
  unfold kindS
  split
  · simp
  split <;> simp
theorem tail_len {B : Nat} : ∀ {l : List (List UInt8)}, (∀ s ∈ l, s.length ≤ B) → (Lib.joinTail [32] l).length ≤ l.length * (B + 1)
  | [], _ => Nat.zero_le _
  | s :: r, h => by
    have e : Lib.joinTail [32] (s :: r) = [32] ++ s ++ Lib.joinTail [32] r := by simp [Lib.joinTail]
    have h1 := h s (by simp)
    have h2 := tail_len (l := r) (B := B) fun x hx => h x (by simp [hx])
    have e2 : (s :: r).length * (B + 1) = r.length * (B + 1) + (B + 1) := by rw [List.length_cons, Nat.succ_mul]
    rw [e, e2, List.length_append, List.length_append]
    simp
    omega
theorem words_len {dos : Int} {a : Ans} (h : AnsB a) : (wordsA dos a).length ≤ 20 ∧ ∀ s ∈ wordsA dos a, s.length ≤ 1201 := by
  have l1 := itoa_len a.ino h.ino
  have l2 := itoa_len a.links h.links
  have l3 := itoa_len a.size h.size
  have l4 := kindS_len a.kind
  have l5 := hexS_len a.data
  have l6 := h.data
  unfold wordsA
  split
  · exact ⟨by simp, fun s hs => by simp at hs; subst hs; omega⟩
  split
  · exact ⟨by simp, fun s hs => by simp at hs; subst hs; omega⟩
  split
  · exact ⟨h.names, fun s hs => by have := h.name s hs; omega⟩
  split
  · refine ⟨by simp, fun s hs => ?_⟩
    simp only [List.mem_cons, List.not_mem_nil, or_false] at hs
    rcases hs with rfl | rfl | rfl | rfl <;> omega
  · exact ⟨by simp, fun s hs => by cases hs⟩
section
variable {ops : Array Oper} {dst : Option Tmp} {k : List Oper} {T : List V} {S : Store} {F : Dfs} {Q : Post}
theorem call_itoa {n : Int} (h : InB n) : WpR cfg ops dst k T S F Q (some (.enter 19 [.d (.int .i64 n)])) = WpL cfg ops k (putT T dst (.d (.str (Lib.itoa n)))) S F Q :=
  wr_call_d (ds := [.int .i64 n]) rfl (itoa_ev n h)
theorem call_hex {b : List UInt8} (h : b.length ≤ 600) : WpR cfg ops dst k T S F Q (some (.enter 20 [.d (.sl (b.map fun x => D.int .u8 x.toNat))])) = WpL cfg ops k (putT T dst (.d (.str (hexS b)))) S F Q :=
  wr_call_d (ds := [.sl (b.map fun x => D.int .u8 x.toNat)]) rfl (hex_ok b (by omega))
theorem call_line {v : V} {l : List (List UInt8)} (hv : Go.Vm.frz S frzFuel v = some (.sl (l.map .str))) (h1 : l.length ≤ 1000) (h2 : (Lib.join l [32]).length ≤ 1000000) : WpR cfg ops dst k T S F Q (some (.enter 18 [v])) = WpL cfg ops k (putT T dst (.d (.str (Lib.join l [32])))) S F Q :=
  wr_call_plain (ds := [.sl (l.map .str)]) rfl (by simp only [allO, hv]) rfl (line_ok l (by omega) (by omega))
end
/-- A literal takes more words. -/
theorem app_ok {S : Store} (x : List UInt8) (ds : List (List UInt8)) (hl : ds.length ≤ 100000) : ∃ v' S' c, appendV Tryd.prog S 23 23 (.ts [.str x]) (.d (.sl (ds.map .str))) = some (v', S', c) ∧ (c = 1 ∨ c = 2) ∧ Go.Vm.frz S' frzFuel v' = some (.sl ((x :: ds).map .str)) ∧ v'.one = true := by
  have hsz : (sz Tryd.prog 9).isSome = true := by kernel_rfl
  have hall : ((ds.map D.str).map V.d).all (fitsT Tryd.prog 9) = true := by
    rw [List.all_eq_true]
    intro y hy
    obtain ⟨z, hz, rfl⟩ := List.mem_map.1 hy
    obtain ⟨a, _, rfl⟩ := List.mem_map.1 hz
    exact fitsT9 a
  have src : srcV Tryd.prog S 9 23 (.d (.sl (ds.map .str))) = some ((ds.map D.str).map V.d) := by
    simp only [srcV, Tryd.underlying23, elemsV, hall, hsz, Bool.and_self, if_true]
  cases ds with
  | nil =>
    have src0 : srcV Tryd.prog S 9 23 (.d (.sl [])) = some [] := src
    exact ⟨.ts [.str x], S, 1, by simp only [appendV, Tryd.underlying23, src0, List.map_nil], .inl rfl, rfl, rfl⟩
  | cons a r =>
    have src1 : srcV Tryd.prog S 9 23 (.d (.sl (.str a :: r.map .str))) = some (.d (.str a) :: (r.map D.str).map .d) := src
    have hl2 : ((r.map D.str).map V.d).length = r.length := by simp
    have hr : room Tryd.prog 9 (1 + (r.length + 1)) = true := room23 (by simp at hl; omega)
    have hx : [D.str x].all (fitsD Tryd.prog 9) = true := by
      rw [List.all_cons, List.all_nil, fits9 x]; rfl
    refine ⟨.rs S.length 0 (1 + (r.length + 1)), S ++ [.row ([D.str x].map .d ++ .d (.str a) :: (r.map D.str).map .d) 9], 2, ?_, .inr rfl, ?_, rfl⟩
    · show appendV Tryd.prog S 23 23 _ (.d (.sl (.str a :: r.map .str))) = _
      simp only [appendV, Tryd.underlying23, src1, zOk23, if_true, hx, List.length_cons, List.length_nil, hl2, Nat.zero_add, hr, Bool.and_self]
    · have hS : SlE D.str (S ++ [.row ([D.str x].map .d ++ .d (.str a) :: (r.map D.str).map .d) 9]) (.rs S.length 0 (x :: a :: r).length) 9 (x :: a :: r) := .inr ⟨S.length, [], rfl, by simp⟩
      have e : (1 + (r.length + 1)) = (x :: a :: r).length := by simp; omega
      rw [e]
      exact hS.frz
end Go.Proofs.YtghllhghboaagaaDoor
end
/-! report.Answer comes to the words of the answer. -/
section
set_option linter.unusedVariables false
set_option linter.unusedSimpArgs false
set_option maxRecDepth 100000
set_option maxHeartbeats 4000000
namespace Go.Proofs.YtghllhghboaagaaDoor
open Go.Vm
theorem bo19 : (bodyOf Tryd.prog 19).isSome = true := by kernel_rfl
theorem bo24 : (bodyOf Tryd.prog 24).isSome = true := by kernel_rfl
section
variable {ops : Array Oper} {F : Dfs} {Q : Post} {K : List Nat → List (Nat × Nat) → List V → Store → Prop} {rd : List Nat} {cs : List (Nat × Nat)} {i : Nat} {dst : Option Tmp} {T : List V} {S : Store}
theorem dr_itoa {n : Int} (h : InB n) : WpE cfg ops F Q K rd cs i dst T S (some (.enter 19 [.d (.int .i64 n)])) = K (i :: rd) (cs ++ [(i, 1)]) (putT T dst (.d (.str (Lib.itoa n)))) S :=
  we_call_d (ds := [.int .i64 n]) rfl (itoa_ev n h)
theorem dr_num {n : Int} (h : InB n) : WpE cfg ops F Q K rd cs i dst T S (some (.enter 21 [.d (.int .i64 n)])) = K (i :: rd) (cs ++ [(i, 1)]) (putT T dst (.d (.str (Lib.itoa n)))) S :=
  we_call_d (ds := [.int .i64 n]) rfl (num_ok n h)
theorem dr_kind {n : Int} : WpE cfg ops F Q K rd cs i dst T S (some (.enter 10 [.d (.int .i64 n)])) = K (i :: rd) (cs ++ [(i, 1)]) (putT T dst (.d (.str (kindS n)))) S :=
  we_call_d (ds := [.int .i64 n]) rfl (kind_ok n)
theorem dr_rkind {n : Int} : WpE cfg ops F Q K rd cs i dst T S (some (.enter 11 [.d (.int .i64 n)])) = K (i :: rd) (cs ++ [(i, 1)]) (putT T dst (.d (.str (kindS n)))) S :=
  we_call_d (ds := [.int .i64 n]) rfl (rkind_ok n)
end
theorem join_ok (ws : List (List UInt8)) : Lib.join (okS :: ws) [32] = okS ++ Lib.joinTail [32] ws := Lib.join_cons _ _ _
theorem join_len {ws : List (List UInt8)} (h : ws.length ≤ 20 ∧ ∀ s ∈ ws, s.length ≤ 1201) : (Lib.join (okS :: ws) [32]).length ≤ 1000000 := by
  have h1 := tail_len h.2
  have h2 : ws.length * 1202 ≤ 20 * 1202 := Nat.mul_le_mul_right _ h.1
  rw [join_ok, List.length_append]
  have : okS.length = 2 := rfl
  omega
theorem ranswer_ok (dos : Int) (a : Ans) (hB : AnsB a) : Ev cfg 7 [.int .i64 dos, encAns a] (.ret (.d (.str (ansS dos a)))) := by
  refine ev_of rfl rfl body7 ?_
  show Wp cfg (Tryd.f7.body.getD .skip) ((.d (.int .i64 dos)) :: (.d (encAns a)) :: (.tup []) :: (.tup []) :: (.tup []) :: (.tup []) :: (.tup []) :: (.tup []) :: (.tup []) :: (.tup []) :: (.tup []) :: (.tup []) :: (.tup []) :: (.tup []) :: (.tup []) :: (.tup []) :: (.tup []) :: (.tup []) :: (.tup []) :: (.tup []) :: (.tup []) :: (.tup []) :: (.tup []) :: (.tup []) :: (.tup []) :: (.tup []) :: (.tup []) :: (.tup []) :: (.tup []) :: (.tup []) :: (.tup []) :: (.tup []) :: (.tup []) :: (.tup []) :: (.tup []) :: (.tup []) :: (.tup []) :: (.tup []) :: (.tup []) :: (.tup []) :: (.tup []) :: (.tup []) :: (.tup []) :: (.tup []) :: (.tup []) :: (.tup []) :: (.tup []) :: (.tup []) :: (.tup []) :: (.tup []) :: (.tup []) :: (.tup []) :: (.tup []) :: (.tup []) :: (.tup []) :: (.tup []) :: (.tup []) :: (.tup []) :: []) [] [] _
  conv => arg 2; whnf
  have hW := words_len (dos := dos) hB
  by_cases he : a.err = 0
  · have he' : ¬ (a.err ≠ 0) := fun h => h he
    have e : ansS dos a = Lib.join (okS :: wordsA dos a) [32] := by unfold ansS; rw [if_neg he', join_ok]
    have hlen := join_len hW
    rw [e]
    generalize hws : wordsA dos a = ws at *
    unfold wordsA at hws
    obtain ⟨v', S', c, e1, hc, e2, e3⟩ := app_ok (S := [Ob.row [.d (encAns a)] 31]) okS ws (by omega)
    have hcl : ∀ {ops : Array Oper} {dst : Option Tmp} {k : List Oper} {T : List V} {F : Dfs} {Q : Post}, WpR cfg ops dst k T S' F Q (some (.enter 18 [v'])) = WpL cfg ops k (putT T dst (.d (.str (Lib.join (okS :: ws) [32])))) S' F Q := fun {ops dst k T F Q} => call_line e2 (by simp; omega) hlen
    have e1 : appendV Tryd.prog [Ob.row [.d (encAns a)] 31] 23 23 (.ts [.str [111, 107]]) (.d (.sl (ws.map .str))) = some (v', S', c) := e1
    by_cases h1 : dos = 1
    · rw [if_pos (.inl h1)] at hws
      subst hws
      have e1 : appendV Tryd.prog [Ob.row [.d (encAns a)] 31] 23 23 (.ts [.str [111, 107]]) (.ts [.str (Lib.itoa a.ino)]) = some (v', S', c) := by rw [app_ts]; exact e1
      simp (maxSteps := 1000000) (disch := first | assumption | omega | rfl) only [↓vmp, vme, vmb, ty, hP, dec_t, dec_f, wrap64, List.length_map, Int.toNat_natCast, Nat.reduceAdd, List.cons_append, List.nil_append, Option.map_some, Option.map_none, strOf_mk, sb_eql, sb_neq, vmg, ↓vgd, ↓vst, ↓vix, ↓vbs, bs23, e1, e3, hcl, bo18, bo19, call_itoa hB.ino]
      exact retQ_one rfl rfl rfl
    by_cases h2 : dos = 2
    · rw [if_pos (.inr h2)] at hws
      subst hws
      have e1 : appendV Tryd.prog [Ob.row [.d (encAns a)] 31] 23 23 (.ts [.str [111, 107]]) (.ts [.str (Lib.itoa a.ino)]) = some (v', S', c) := by rw [app_ts]; exact e1
      simp (maxSteps := 1000000) (disch := first | assumption | omega | rfl) only [↓vmp, vme, vmb, ty, hP, dec_t, dec_f, wrap64, List.length_map, Int.toNat_natCast, Nat.reduceAdd, List.cons_append, List.nil_append, Option.map_some, Option.map_none, strOf_mk, sb_eql, sb_neq, vmg, ↓vgd, ↓vst, ↓vix, ↓vbs, bs23, e1, e3, hcl, bo18, bo19, call_itoa hB.ino]
      exact retQ_one rfl rfl rfl
    have h12 : ¬ (dos = 1 ∨ dos = 2) := by omega
    by_cases h8 : dos = 8
    · rw [if_neg h12, if_pos h8] at hws
      subst hws
      have e1 : appendV Tryd.prog [Ob.row [.d (encAns a)] 31] 23 23 (.ts [.str [111, 107]]) (.ts [.str (hexS a.data)]) = some (v', S', c) := by rw [app_ts]; exact e1
      simp (maxSteps := 1000000) (disch := first | assumption | omega | rfl) only [↓vmp, vme, vmb, ty, hP, dec_t, dec_f, wrap64, List.length_map, Int.toNat_natCast, Nat.reduceAdd, List.cons_append, List.nil_append, Option.map_some, Option.map_none, strOf_mk, sb_eql, sb_neq, vmg, ↓vgd, ↓vst, ↓vix, ↓vbs, bs23, e1, e3, hcl, bo18, bo19, encB, call_hex hB.data, bo20]
      exact retQ_one rfl rfl rfl
    by_cases h10 : dos = 10
    · rw [if_neg h12, if_neg h8, if_pos h10] at hws
      subst hws
      simp (maxSteps := 1000000) (disch := first | assumption | omega | rfl) only [↓vmp, vme, vmb, ty, hP, dec_t, dec_f, wrap64, List.length_map, Int.toNat_natCast, Nat.reduceAdd, List.cons_append, List.nil_append, Option.map_some, Option.map_none, strOf_mk, sb_eql, sb_neq, vmg, ↓vgd, ↓vst, ↓vix, ↓vbs, bs23, e1, e3, hcl, bo18, bo19]
      exact retQ_one rfl rfl rfl
    by_cases h11 : dos = 11
    · rw [if_neg h12, if_neg h8, if_neg h10, if_pos h11] at hws
      subst hws
      have e1 : appendV Tryd.prog [Ob.row [.d (encAns a)] 31] 23 23 (.ts [.str [111, 107]]) (.ts [.str (Lib.itoa a.ino), .str (kindS a.kind), .str (Lib.itoa a.links), .str (Lib.itoa a.size)]) = some (v', S', c) := by rw [app_ts]; exact e1
      simp (maxSteps := 1000000) (disch := first | assumption | omega | rfl) only [↓vmp, vme, vmb, ty, hP, dec_t, dec_f, wrap64, List.length_map, Int.toNat_natCast, Nat.reduceAdd, List.cons_append, List.nil_append, Option.map_some, Option.map_none, strOf_mk, sb_eql, sb_neq, vmg, ↓vgd, ↓vst, ↓vix, ↓vbs, bs23, bo18, bo19]
      rcases hc with rfl | rfl
      all_goals
        refine wk_draw (is := [0, 1, 2, 4, 5, 7, 8, 10, 11, 3, 6, 9, 12, 13, 14, 15]) (h := 0) (by kernel_rfl) (by kernel_rfl) ?_
        simp (maxSteps := 1000000) (disch := first | assumption | omega | rfl) only [List.replicate_zero, eq_self, vmd, vmk, vmo, vmg, vme, vmb, ty, hP, dec_t, dec_f, wrap64, List.length_map, Int.toNat_natCast, Nat.reduceAdd, ↓vgd, ↓vst, ↓vix, vso, List.append_nil, Option.map_some, dr_itoa hB.ino, dr_itoa hB.links, dr_itoa hB.size, dr_kind, bo19, bo10, op_bs4, bs4_23, e1]
        first | refine ⟨by kernel_rfl, ?_⟩ | refine ⟨fun _ => by kernel_rfl, by kernel_rfl, ?_⟩
        simp (maxSteps := 1000000) (disch := first | assumption | omega | rfl) only [↓vmp, vme, vmb, ty, hP, dec_t, dec_f, wrap64, List.length_map, Int.toNat_natCast, Nat.reduceAdd, List.cons_append, List.nil_append, Option.map_some, Option.map_none, strOf_mk, sb_eql, sb_neq, vmg, ↓vgd, ↓vst, ↓vix, hcl, bo18, e3]
        exact retQ_one rfl rfl rfl
    · rw [if_neg h12, if_neg h8, if_neg h10, if_neg h11] at hws
      subst hws
      have hcl0 : ∀ {ops : Array Oper} {dst : Option Tmp} {k : List Oper} {T : List V} {S : Store} {F : Dfs} {Q : Post}, WpR cfg ops dst k T S F Q (some (.enter 18 [.ts [.str [111, 107]]])) = WpL cfg ops k (putT T dst (.d (.str (Lib.join (okS :: []) [32])))) S F Q := fun {ops dst k T S F Q} => call_line rfl (by simp) hlen
      simp (maxSteps := 1000000) (disch := first | assumption | omega | rfl) only [↓vmp, vme, vmb, ty, hP, dec_t, dec_f, wrap64, List.length_map, Int.toNat_natCast, Nat.reduceAdd, List.cons_append, List.nil_append, Option.map_some, Option.map_none, strOf_mk, sb_eql, sb_neq, vmg, ↓vgd, ↓vst, ↓vix, ↓vbs, bs23, hcl0, bo18]
      exact retQ_one rfl rfl rfl
  · have e : ansS dos a = Lib.join [errS, Lib.itoa a.err] [32] := by unfold ansS; rw [if_pos he, Lib.join_cons]
    have hlen := itoa_len a.err hB.err
    have hcl0 : ∀ {ops : Array Oper} {dst : Option Tmp} {k : List Oper} {T : List V} {S : Store} {F : Dfs} {Q : Post}, WpR cfg ops dst k T S F Q (some (.enter 18 [.ts [.str [101, 114, 114, 111, 114], .str (Lib.itoa a.err)]])) = WpL cfg ops k (putT T dst (.d (.str (Lib.join [errS, Lib.itoa a.err] [32])))) S F Q := fun {ops dst k T S F Q} => call_line (l := [errS, Lib.itoa a.err]) rfl (by simp) (by rw [Lib.join_cons]; simp [Lib.joinTail, errS]; omega)
    rw [e]
    simp (maxSteps := 1000000) (disch := first | assumption | omega | rfl) only [↓vmp, vme, vmb, ty, hP, dec_t, dec_f, wrap64, List.length_map, Int.toNat_natCast, Nat.reduceAdd, List.cons_append, List.nil_append, Option.map_some, Option.map_none, strOf_mk, sb_eql, sb_neq, vmg, ↓vgd, ↓vst, ↓vix, ↓vbs, op_bs2, bs2_23, call_itoa hB.err, hcl0, bo18, bo19]
    exact retQ_one rfl rfl rfl
end Go.Proofs.YtghllhghboaagaaDoor
end
/-! The document's answer, as text. -/
section
set_option linter.unusedVariables false
set_option linter.unusedSimpArgs false
set_option maxRecDepth 100000
set_option maxHeartbeats 4000000
namespace Go.Proofs.YtghllhghboaagaaDoor
open Go.Vm
theorem tail_cons {sep x : List UInt8} {r : List (List UInt8)} : Lib.joinTail sep (x :: r) = sep ++ x ++ Lib.joinTail sep r := by simp [Lib.joinTail]
section
variable {ops : Array Oper} {dst : Option Tmp} {k : List Oper} {T : List V} {S : Store} {F : Dfs} {Q : Post}
theorem call_num {n : Int} (h : InB n) : WpR cfg ops dst k T S F Q (some (.enter 21 [.d (.int .i64 n)])) = WpL cfg ops k (putT T dst (.d (.str (Lib.itoa n)))) S F Q :=
  wr_call_d (ds := [.int .i64 n]) rfl (num_ok n h)
theorem call_rhex {b : List UInt8} (h : b.length ≤ 600) : WpR cfg ops dst k T S F Q (some (.enter 22 [.d (.sl (b.map fun x => D.int .u8 x.toNat))])) = WpL cfg ops k (putT T dst (.d (.str (hexS b)))) S F Q :=
  wr_call_d (ds := [.sl (b.map fun x => D.int .u8 x.toNat)]) rfl (rhex_ok b (by omega))
end
theorem rans_l (a : Ans) (hB : AnsB a) (R : Post) (x1 x2 x4 : V) : ∀ (k i : Nat) (s : List UInt8) (g7 g8 g9 g10 g11 g12 g13 g14 g15 g16 g17 g18 g19 g20 g21 g22 g23 g24 g25 g26 g27 g28 g29 g30 g31 g32 g33 g34 g35 g36 g37 g38 g39 g40 g41 g42 g43 g44 g45 g46 g47 g48 g49 g50 g51 g52 g53 g54 g55 g56 g57 g58 g59 g60 g61 g62 g63 g64 g65 g66 g67 g68 g69 g70 g71 g72 g73 g74 g75 g76 : V), a.names.length - i = k → i ≤ a.names.length → s.length ≤ 2 + 61 * i →
   (∀ i' g7 g8 g9 g10 g11 g12 g13 g14 g15 g16 g17 g18 g19 g20 g21 g22 g23 g24 g25 g26 g27 g28 g29 g30 g31 g32 g33 g34 g35 g36 g37 g38 g39 g40 g41 g42 g43 g44 g45 g46 g47 g48 g49 g50 g51 g52 g53 g54 g55 g56 g57 g58 g59 g60 g61 g62 g63 g64 g65 g66 g67 g68 g69 g70 g71 g72 g73 g74 g75 g76, R (.exit 0) ((.d (.int .i64 10)) :: x1 :: x2 :: (.ref 0 0 0) :: x4 :: (.d (.str (s ++ Lib.joinTail [32] (a.names.drop i)))) :: i' :: g7 :: g8 :: g9 :: g10 :: g11 :: g12 :: g13 :: g14 :: g15 :: g16 :: g17 :: g18 :: g19 :: g20 :: g21 :: g22 :: g23 :: g24 :: g25 :: g26 :: g27 :: g28 :: g29 :: g30 :: g31 :: g32 :: g33 :: g34 :: g35 :: g36 :: g37 :: g38 :: g39 :: g40 :: g41 :: g42 :: g43 :: g44 :: g45 :: g46 :: g47 :: g48 :: g49 :: g50 :: g51 :: g52 :: g53 :: g54 :: g55 :: g56 :: g57 :: g58 :: g59 :: g60 :: g61 :: g62 :: g63 :: g64 :: g65 :: g66 :: g67 :: g68 :: g69 :: g70 :: g71 :: g72 :: g73 :: g74 :: g75 :: g76 :: []) [.row [.d (encAns a)] 25] []) →
   Wp cfg (.loop (lpOf (Tryd.f9.body.getD .skip) 0)) ((.d (.int .i64 10)) :: x1 :: x2 :: (.ref 0 0 0) :: x4 :: (.d (.str s)) :: (.d (.int .i64 i)) :: g7 :: g8 :: g9 :: g10 :: g11 :: g12 :: g13 :: g14 :: g15 :: g16 :: g17 :: g18 :: g19 :: g20 :: g21 :: g22 :: g23 :: g24 :: g25 :: g26 :: g27 :: g28 :: g29 :: g30 :: g31 :: g32 :: g33 :: g34 :: g35 :: g36 :: g37 :: g38 :: g39 :: g40 :: g41 :: g42 :: g43 :: g44 :: g45 :: g46 :: g47 :: g48 :: g49 :: g50 :: g51 :: g52 :: g53 :: g54 :: g55 :: g56 :: g57 :: g58 :: g59 :: g60 :: g61 :: g62 :: g63 :: g64 :: g65 :: g66 :: g67 :: g68 :: g69 :: g70 :: g71 :: g72 :: g73 :: g74 :: g75 :: g76 :: []) [.row [.d (encAns a)] 25] [] R := by
  intro k
  induction k with
  | zero =>
    intro i s g7 g8 g9 g10 g11 g12 g13 g14 g15 g16 g17 g18 g19 g20 g21 g22 g23 g24 g25 g26 g27 g28 g29 g30 g31 g32 g33 g34 g35 g36 g37 g38 g39 g40 g41 g42 g43 g44 g45 g46 g47 g48 g49 g50 g51 g52 g53 g54 g55 g56 g57 g58 g59 g60 g61 g62 g63 g64 g65 g66 g67 g68 g69 g70 g71 g72 g73 g74 g75 g76 hk hi hs hR
    have hie : i = a.names.length := by omega
    rw [hie, List.drop_length, show Lib.joinTail [32] [] = [] from rfl, List.append_nil] at hR
    rw [wk_of]
    refine wk_loop ?_
    conv => arg 2; whnf
    simp (maxSteps := 1000000) (disch := first | assumption | omega | rfl) only [↓vmp, vme, vmb, ty, hP, dec_t, dec_f, wrap64, List.length_map, Int.toNat_natCast, Nat.reduceAdd, List.cons_append, List.nil_append, Option.map_some, Option.map_none, strOf_mk, sb_eql, sb_neq, vmg, ↓vgd, ↓vst, ↓vix, dec_True]
    exact hR _ _ _ _ _ _ _ _ _ _ _ _ _ _ _ _ _ _ _ _ _ _ _ _ _ _ _ _ _ _ _ _ _ _ _ _ _ _ _ _ _ _ _ _ _ _ _ _ _ _ _ _ _ _ _ _ _ _ _ _ _ _ _ _ _ _ _ _ _ _ _
  | succ k ih =>
    intro i s g7 g8 g9 g10 g11 g12 g13 g14 g15 g16 g17 g18 g19 g20 g21 g22 g23 g24 g25 g26 g27 g28 g29 g30 g31 g32 g33 g34 g35 g36 g37 g38 g39 g40 g41 g42 g43 g44 g45 g46 g47 g48 g49 g50 g51 g52 g53 g54 g55 g56 g57 g58 g59 g60 g61 g62 g63 g64 g65 g66 g67 g68 g69 g70 g71 g72 g73 g74 g75 g76 hk hi hs hR
    have hlt : i < a.names.length := by omega
    have hd : a.names.drop i = a.names[i] :: a.names.drop (i + 1) := List.drop_eq_getElem_cons hlt
    have hw := hB.name _ (List.getElem_mem hlt)
    have hn := hB.names
    have hix := fun S => ix23 (S := S) hlt
    have e : Lib.joinTail [32] (a.names.drop i) = [32] ++ a.names[i] ++ Lib.joinTail [32] (a.names.drop (i + 1)) := by rw [hd, tail_cons]
    rw [e, ← List.append_assoc, ← List.append_assoc] at hR
    generalize hee : a.names[i] = w at *
    have a1 : strBin .add s [32] = some (.str (s ++ [32])) := sb_add (by simp; omega)
    have a2 : strBin .add (s ++ [32]) w = some (.str (s ++ [32] ++ w)) := sb_add (by simp; omega)
    rw [wk_of]
    refine wk_loop ?_
    conv => arg 2; whnf
    simp (maxSteps := 1000000) (disch := first | assumption | omega | rfl) only [↓vmp, vme, vmb, ty, hP, dec_t, dec_f, wrap64, List.length_map, Int.toNat_natCast, Nat.reduceAdd, List.cons_append, List.nil_append, Option.map_some, Option.map_none, strOf_mk, sb_eql, sb_neq, vmg, ↓vgd, ↓vst, ↓vix, dec_True, hix, a1, a2]
    exact ih (i + 1) _ _ _ _ _ _ _ _ _ _ _ _ _ _ _ _ _ _ _ _ _ _ _ _ _ _ _ _ _ _ _ _ _ _ _ _ _ _ _ _ _ _ _ _ _ _ _ _ _ _ _ _ _ _ _ _ _ _ _ _ _ _ _ _ _ _ _ _ _ _ _ (by omega) (by omega) (by simp; omega) hR
theorem rans_l0 (a : Ans) (dos : Int) (h10 : ¬ dos = 10) (R : Post) (s : V) (x1 x2 x4 : V) (g7 g8 g9 g10 g11 g12 g13 g14 g15 g16 g17 g18 g19 g20 g21 g22 g23 g24 g25 g26 g27 g28 g29 g30 g31 g32 g33 g34 g35 g36 g37 g38 g39 g40 g41 g42 g43 g44 g45 g46 g47 g48 g49 g50 g51 g52 g53 g54 g55 g56 g57 g58 g59 g60 g61 g62 g63 g64 g65 g66 g67 g68 g69 g70 g71 g72 g73 g74 g75 g76 : V) :
   (∀ i' g7 g8 g9 g10 g11 g12 g13 g14 g15 g16 g17 g18 g19 g20 g21 g22 g23 g24 g25 g26 g27 g28 g29 g30 g31 g32 g33 g34 g35 g36 g37 g38 g39 g40 g41 g42 g43 g44 g45 g46 g47 g48 g49 g50 g51 g52 g53 g54 g55 g56 g57 g58 g59 g60 g61 g62 g63 g64 g65 g66 g67 g68 g69 g70 g71 g72 g73 g74 g75 g76, R (.exit 0) ((.d (.int .i64 dos)) :: x1 :: x2 :: (.ref 0 0 0) :: x4 :: s :: i' :: g7 :: g8 :: g9 :: g10 :: g11 :: g12 :: g13 :: g14 :: g15 :: g16 :: g17 :: g18 :: g19 :: g20 :: g21 :: g22 :: g23 :: g24 :: g25 :: g26 :: g27 :: g28 :: g29 :: g30 :: g31 :: g32 :: g33 :: g34 :: g35 :: g36 :: g37 :: g38 :: g39 :: g40 :: g41 :: g42 :: g43 :: g44 :: g45 :: g46 :: g47 :: g48 :: g49 :: g50 :: g51 :: g52 :: g53 :: g54 :: g55 :: g56 :: g57 :: g58 :: g59 :: g60 :: g61 :: g62 :: g63 :: g64 :: g65 :: g66 :: g67 :: g68 :: g69 :: g70 :: g71 :: g72 :: g73 :: g74 :: g75 :: g76 :: []) [.row [.d (encAns a)] 25] []) →
   Wp cfg (.loop (lpOf (Tryd.f9.body.getD .skip) 0)) ((.d (.int .i64 dos)) :: x1 :: x2 :: (.ref 0 0 0) :: x4 :: s :: (.d (.int .i64 0)) :: g7 :: g8 :: g9 :: g10 :: g11 :: g12 :: g13 :: g14 :: g15 :: g16 :: g17 :: g18 :: g19 :: g20 :: g21 :: g22 :: g23 :: g24 :: g25 :: g26 :: g27 :: g28 :: g29 :: g30 :: g31 :: g32 :: g33 :: g34 :: g35 :: g36 :: g37 :: g38 :: g39 :: g40 :: g41 :: g42 :: g43 :: g44 :: g45 :: g46 :: g47 :: g48 :: g49 :: g50 :: g51 :: g52 :: g53 :: g54 :: g55 :: g56 :: g57 :: g58 :: g59 :: g60 :: g61 :: g62 :: g63 :: g64 :: g65 :: g66 :: g67 :: g68 :: g69 :: g70 :: g71 :: g72 :: g73 :: g74 :: g75 :: g76 :: []) [.row [.d (encAns a)] 25] [] R := by
  intro hR
  rw [wk_of]
  refine wk_loop ?_
  conv => arg 2; whnf
  simp (maxSteps := 1000000) (disch := first | assumption | omega | rfl) only [↓vmp, vme, vmb, ty, hP, dec_t, dec_f, wrap64, List.length_map, Int.toNat_natCast, Nat.reduceAdd, List.cons_append, List.nil_append, Option.map_some, Option.map_none, strOf_mk, sb_eql, sb_neq, vmg, ↓vgd, ↓vst, ↓vix, dec_True]
  exact hR _ _ _ _ _ _ _ _ _ _ _ _ _ _ _ _ _ _ _ _ _ _ _ _ _ _ _ _ _ _ _ _ _ _ _ _ _ _ _ _ _ _ _ _ _ _ _ _ _ _ _ _ _ _ _ _ _ _ _ _ _ _ _ _ _ _ _ _ _ _ _
theorem rranswer_ok (dos : Int) (a : Ans) (hB : AnsB a) : Ev cfg 9 [.int .i64 dos, encAns a] (.ret (.d (.str (ansS dos a)))) := by
  refine ev_of rfl rfl body9 ?_
  show Wp cfg (Tryd.f9.body.getD .skip) ((.d (.int .i64 dos)) :: (.d (encAns a)) :: (.tup []) :: (.tup []) :: (.tup []) :: (.tup []) :: (.tup []) :: (.tup []) :: (.tup []) :: (.tup []) :: (.tup []) :: (.tup []) :: (.tup []) :: (.tup []) :: (.tup []) :: (.tup []) :: (.tup []) :: (.tup []) :: (.tup []) :: (.tup []) :: (.tup []) :: (.tup []) :: (.tup []) :: (.tup []) :: (.tup []) :: (.tup []) :: (.tup []) :: (.tup []) :: (.tup []) :: (.tup []) :: (.tup []) :: (.tup []) :: (.tup []) :: (.tup []) :: (.tup []) :: (.tup []) :: (.tup []) :: (.tup []) :: (.tup []) :: (.tup []) :: (.tup []) :: (.tup []) :: (.tup []) :: (.tup []) :: (.tup []) :: (.tup []) :: (.tup []) :: (.tup []) :: (.tup []) :: (.tup []) :: (.tup []) :: (.tup []) :: (.tup []) :: (.tup []) :: (.tup []) :: (.tup []) :: (.tup []) :: (.tup []) :: (.tup []) :: (.tup []) :: (.tup []) :: (.tup []) :: (.tup []) :: (.tup []) :: (.tup []) :: (.tup []) :: (.tup []) :: (.tup []) :: (.tup []) :: (.tup []) :: (.tup []) :: (.tup []) :: (.tup []) :: (.tup []) :: (.tup []) :: (.tup []) :: (.tup []) :: []) [] [] _
  conv => arg 2; whnf
  have l1 := itoa_len a.ino hB.ino
  have l2 := itoa_len a.links hB.links
  have l3 := itoa_len a.size hB.size
  have l4 := kindS_len a.kind
  have l5 := hexS_len a.data
  have l6 := hB.data
  by_cases he : a.err = 0
  · have he' : ¬ (a.err ≠ 0) := fun h => h he
    have e : ansS dos a = okS ++ Lib.joinTail [32] (wordsA dos a) := by unfold ansS; rw [if_neg he']
    rw [e]
    unfold wordsA
    by_cases h1 : dos = 1
    · rw [if_pos (.inl h1)]
      have h10 : ¬ dos = 10 := by omega
      have h11 : ¬ dos = 11 := by omega
      have h8 : ¬ dos = 8 := by omega
      have a1 : strBin .add [111, 107] [32] = some (.str [111, 107, 32]) := rfl
      have a2 : strBin .add [111, 107, 32] (Lib.itoa a.ino) = some (.str ([111, 107, 32] ++ Lib.itoa a.ino)) := sb_add (by simp; omega)
      have ef : okS ++ Lib.joinTail [32] [Lib.itoa a.ino] = [111, 107, 32] ++ Lib.itoa a.ino := by simp [Lib.joinTail, okS]
      rw [ef]
      simp (maxSteps := 1000000) (disch := first | assumption | omega | rfl) only [↓vmp, vme, vmb, ty, hP, dec_t, dec_f, wrap64, List.length_map, Int.toNat_natCast, Nat.reduceAdd, List.cons_append, List.nil_append, Option.map_some, Option.map_none, strOf_mk, sb_eql, sb_neq, vmg, ↓vgd, ↓vst, ↓vix, a1, a2, call_num hB.ino, bo21]
      refine rans_l0 a dos h10 _ _ _ _ _ _ _ _ _ _ _ _ _ _ _ _ _ _ _ _ _ _ _ _ _ _ _ _ _ _ _ _ _ _ _ _ _ _ _ _ _ _ _ _ _ _ _ _ _ _ _ _ _ _ _ _ _ _ _ _ _ _ _ _ _ _ _ _ _ _ _ _ _ _ _ ?_
      intro i' g7 g8 g9 g10 g11 g12 g13 g14 g15 g16 g17 g18 g19 g20 g21 g22 g23 g24 g25 g26 g27 g28 g29 g30 g31 g32 g33 g34 g35 g36 g37 g38 g39 g40 g41 g42 g43 g44 g45 g46 g47 g48 g49 g50 g51 g52 g53 g54 g55 g56 g57 g58 g59 g60 g61 g62 g63 g64 g65 g66 g67 g68 g69 g70 g71 g72 g73 g74 g75 g76
      simp (maxSteps := 1000000) (disch := first | assumption | omega | rfl) only [↓vmp, vme, vmb, ty, hP, dec_t, dec_f, wrap64, List.length_map, Int.toNat_natCast, Nat.reduceAdd, List.cons_append, List.nil_append, Option.map_some, Option.map_none, strOf_mk, sb_eql, sb_neq, vmg, ↓vgd, ↓vst, ↓vix]
      exact retQ_one rfl rfl rfl
    by_cases h2 : dos = 2
    · rw [if_pos (.inr h2)]
      have h10 : ¬ dos = 10 := by omega
      have h11 : ¬ dos = 11 := by omega
      have h8 : ¬ dos = 8 := by omega
      have a1 : strBin .add [111, 107] [32] = some (.str [111, 107, 32]) := rfl
      have a2 : strBin .add [111, 107, 32] (Lib.itoa a.ino) = some (.str ([111, 107, 32] ++ Lib.itoa a.ino)) := sb_add (by simp; omega)
      have ef : okS ++ Lib.joinTail [32] [Lib.itoa a.ino] = [111, 107, 32] ++ Lib.itoa a.ino := by simp [Lib.joinTail, okS]
      rw [ef]
      simp (maxSteps := 1000000) (disch := first | assumption | omega | rfl) only [↓vmp, vme, vmb, ty, hP, dec_t, dec_f, wrap64, List.length_map, Int.toNat_natCast, Nat.reduceAdd, List.cons_append, List.nil_append, Option.map_some, Option.map_none, strOf_mk, sb_eql, sb_neq, vmg, ↓vgd, ↓vst, ↓vix, a1, a2, call_num hB.ino, bo21]
      refine rans_l0 a dos h10 _ _ _ _ _ _ _ _ _ _ _ _ _ _ _ _ _ _ _ _ _ _ _ _ _ _ _ _ _ _ _ _ _ _ _ _ _ _ _ _ _ _ _ _ _ _ _ _ _ _ _ _ _ _ _ _ _ _ _ _ _ _ _ _ _ _ _ _ _ _ _ _ _ _ _ ?_
      intro i' g7 g8 g9 g10 g11 g12 g13 g14 g15 g16 g17 g18 g19 g20 g21 g22 g23 g24 g25 g26 g27 g28 g29 g30 g31 g32 g33 g34 g35 g36 g37 g38 g39 g40 g41 g42 g43 g44 g45 g46 g47 g48 g49 g50 g51 g52 g53 g54 g55 g56 g57 g58 g59 g60 g61 g62 g63 g64 g65 g66 g67 g68 g69 g70 g71 g72 g73 g74 g75 g76
      simp (maxSteps := 1000000) (disch := first | assumption | omega | rfl) only [↓vmp, vme, vmb, ty, hP, dec_t, dec_f, wrap64, List.length_map, Int.toNat_natCast, Nat.reduceAdd, List.cons_append, List.nil_append, Option.map_some, Option.map_none, strOf_mk, sb_eql, sb_neq, vmg, ↓vgd, ↓vst, ↓vix]
      exact retQ_one rfl rfl rfl
    have h12 : ¬ (dos = 1 ∨ dos = 2) := by omega
    rw [if_neg h12]
    by_cases h8 : dos = 8
    · rw [if_pos h8]
      have h10 : ¬ dos = 10 := by omega
      have h11 : ¬ dos = 11 := by omega
      have a1 : strBin .add [111, 107] [32] = some (.str [111, 107, 32]) := rfl
      have a2 : strBin .add [111, 107, 32] (hexS a.data) = some (.str ([111, 107, 32] ++ hexS a.data)) := sb_add (by simp; omega)
      have ef : okS ++ Lib.joinTail [32] [hexS a.data] = [111, 107, 32] ++ hexS a.data := by simp [Lib.joinTail, okS]
      rw [ef]
      simp (maxSteps := 1000000) (disch := first | assumption | omega | rfl) only [↓vmp, vme, vmb, ty, hP, dec_t, dec_f, wrap64, List.length_map, Int.toNat_natCast, Nat.reduceAdd, List.cons_append, List.nil_append, Option.map_some, Option.map_none, strOf_mk, sb_eql, sb_neq, vmg, ↓vgd, ↓vst, ↓vix, a1, a2, encB, call_rhex hB.data, bo22]
      refine rans_l0 a dos h10 _ _ _ _ _ _ _ _ _ _ _ _ _ _ _ _ _ _ _ _ _ _ _ _ _ _ _ _ _ _ _ _ _ _ _ _ _ _ _ _ _ _ _ _ _ _ _ _ _ _ _ _ _ _ _ _ _ _ _ _ _ _ _ _ _ _ _ _ _ _ _ _ _ _ _ ?_
      intro i' g7 g8 g9 g10 g11 g12 g13 g14 g15 g16 g17 g18 g19 g20 g21 g22 g23 g24 g25 g26 g27 g28 g29 g30 g31 g32 g33 g34 g35 g36 g37 g38 g39 g40 g41 g42 g43 g44 g45 g46 g47 g48 g49 g50 g51 g52 g53 g54 g55 g56 g57 g58 g59 g60 g61 g62 g63 g64 g65 g66 g67 g68 g69 g70 g71 g72 g73 g74 g75 g76
      simp (maxSteps := 1000000) (disch := first | assumption | omega | rfl) only [↓vmp, vme, vmb, ty, hP, dec_t, dec_f, wrap64, List.length_map, Int.toNat_natCast, Nat.reduceAdd, List.cons_append, List.nil_append, Option.map_some, Option.map_none, strOf_mk, sb_eql, sb_neq, vmg, ↓vgd, ↓vst, ↓vix]
      exact retQ_one rfl rfl rfl
    rw [if_neg h8]
    by_cases h10 : dos = 10
    · rw [if_pos h10]
      have h11 : ¬ dos = 11 := by omega
      simp (maxSteps := 1000000) (disch := first | assumption | omega | rfl) only [↓vmp, vme, vmb, ty, hP, dec_t, dec_f, wrap64, List.length_map, Int.toNat_natCast, Nat.reduceAdd, List.cons_append, List.nil_append, Option.map_some, Option.map_none, strOf_mk, sb_eql, sb_neq, vmg, ↓vgd, ↓vst, ↓vix]
      rw [h10]
      refine rans_l a hB _ _ _ _ a.names.length 0 okS _ _ _ _ _ _ _ _ _ _ _ _ _ _ _ _ _ _ _ _ _ _ _ _ _ _ _ _ _ _ _ _ _ _ _ _ _ _ _ _ _ _ _ _ _ _ _ _ _ _ _ _ _ _ _ _ _ _ _ _ _ _ _ _ _ _ _ _ _ _ rfl (Nat.zero_le _) (by simp [okS]) ?_
      intro i' g7 g8 g9 g10 g11 g12 g13 g14 g15 g16 g17 g18 g19 g20 g21 g22 g23 g24 g25 g26 g27 g28 g29 g30 g31 g32 g33 g34 g35 g36 g37 g38 g39 g40 g41 g42 g43 g44 g45 g46 g47 g48 g49 g50 g51 g52 g53 g54 g55 g56 g57 g58 g59 g60 g61 g62 g63 g64 g65 g66 g67 g68 g69 g70 g71 g72 g73 g74 g75 g76
      rw [List.drop_zero]
      have h11' : ¬ (10 : Int) = 11 := by decide
      simp (maxSteps := 1000000) (disch := first | assumption | omega | rfl) only [↓vmp, vme, vmb, ty, hP, dec_t, dec_f, wrap64, List.length_map, Int.toNat_natCast, Nat.reduceAdd, List.cons_append, List.nil_append, Option.map_some, Option.map_none, strOf_mk, sb_eql, sb_neq, vmg, ↓vgd, ↓vst, ↓vix]
      exact retQ_one rfl rfl rfl
    rw [if_neg h10]
    by_cases h11 : dos = 11
    · rw [if_pos h11]
      have a1 : strBin .add [111, 107] [32] = some (.str [111, 107, 32]) := rfl
      obtain ⟨s2, hs2⟩ : ∃ s2, [111, 107, 32] ++ Lib.itoa a.ino = s2 := ⟨_, rfl⟩
      obtain ⟨s3, hs3⟩ : ∃ s3, s2 ++ [32] = s3 := ⟨_, rfl⟩
      obtain ⟨s4, hs4⟩ : ∃ s4, s3 ++ kindS a.kind = s4 := ⟨_, rfl⟩
      obtain ⟨s5, hs5⟩ : ∃ s5, s4 ++ [32] = s5 := ⟨_, rfl⟩
      obtain ⟨s6, hs6⟩ : ∃ s6, s5 ++ Lib.itoa a.links = s6 := ⟨_, rfl⟩
      obtain ⟨s7, hs7⟩ : ∃ s7, s6 ++ [32] = s7 := ⟨_, rfl⟩
      obtain ⟨s8, hs8⟩ : ∃ s8, s7 ++ Lib.itoa a.size = s8 := ⟨_, rfl⟩
      have k2 : s2.length ≤ 24 := by rw [← hs2]; simp; omega
      have k3 : s3.length ≤ 25 := by rw [← hs3]; simp; omega
      have k4 : s4.length ≤ 29 := by rw [← hs4]; simp; omega
      have k5 : s5.length ≤ 30 := by rw [← hs5]; simp; omega
      have k6 : s6.length ≤ 51 := by rw [← hs6]; simp; omega
      have k7 : s7.length ≤ 52 := by rw [← hs7]; simp; omega
      have a2 : strBin .add [111, 107, 32] (Lib.itoa a.ino) = some (.str s2) := by rw [← hs2]; exact sb_add (by simp; omega)
      have a3 : strBin .add s2 [32] = some (.str s3) := by rw [← hs3]; exact sb_add (by simp; omega)
      have a4 : strBin .add s3 (kindS a.kind) = some (.str s4) := by rw [← hs4]; exact sb_add (by omega)
      have a5 : strBin .add s4 [32] = some (.str s5) := by rw [← hs5]; exact sb_add (by simp; omega)
      have a6 : strBin .add s5 (Lib.itoa a.links) = some (.str s6) := by rw [← hs6]; exact sb_add (by omega)
      have a7 : strBin .add s6 [32] = some (.str s7) := by rw [← hs7]; exact sb_add (by simp; omega)
      have a8 : strBin .add s7 (Lib.itoa a.size) = some (.str s8) := by rw [← hs8]; exact sb_add (by omega)
      have ef : okS ++ Lib.joinTail [32] [Lib.itoa a.ino, kindS a.kind, Lib.itoa a.links, Lib.itoa a.size] = s8 := by rw [← hs8, ← hs7, ← hs6, ← hs5, ← hs4, ← hs3, ← hs2]; simp [Lib.joinTail, okS]
      rw [ef]
      simp (maxSteps := 1000000) (disch := first | assumption | omega | rfl) only [↓vmp, vme, vmb, ty, hP, dec_t, dec_f, wrap64, List.length_map, Int.toNat_natCast, Nat.reduceAdd, List.cons_append, List.nil_append, Option.map_some, Option.map_none, strOf_mk, sb_eql, sb_neq, vmg, ↓vgd, ↓vst, ↓vix]
      refine rans_l0 a dos h10 _ _ _ _ _ _ _ _ _ _ _ _ _ _ _ _ _ _ _ _ _ _ _ _ _ _ _ _ _ _ _ _ _ _ _ _ _ _ _ _ _ _ _ _ _ _ _ _ _ _ _ _ _ _ _ _ _ _ _ _ _ _ _ _ _ _ _ _ _ _ _ _ _ _ _ ?_
      intro i' g7 g8 g9 g10 g11 g12 g13 g14 g15 g16 g17 g18 g19 g20 g21 g22 g23 g24 g25 g26 g27 g28 g29 g30 g31 g32 g33 g34 g35 g36 g37 g38 g39 g40 g41 g42 g43 g44 g45 g46 g47 g48 g49 g50 g51 g52 g53 g54 g55 g56 g57 g58 g59 g60 g61 g62 g63 g64 g65 g66 g67 g68 g69 g70 g71 g72 g73 g74 g75 g76
      simp (maxSteps := 1000000) (disch := first | assumption | omega | rfl) only [↓vmp, vme, vmb, ty, hP, dec_t, dec_f, wrap64, List.length_map, Int.toNat_natCast, Nat.reduceAdd, List.cons_append, List.nil_append, Option.map_some, Option.map_none, strOf_mk, sb_eql, sb_neq, vmg, ↓vgd, ↓vst, ↓vix]
      refine wk_draw (is := [0, 1, 2, 3, 7, 8, 12, 13, 17, 18, 4, 5, 6, 9, 10, 11, 14, 15, 16, 19, 20, 21]) (h := 0) (by kernel_rfl) (by kernel_rfl) ?_
      simp (maxSteps := 1000000) (disch := first | assumption | omega | rfl) only [List.replicate_zero, eq_self, vmd, vmk, vmo, vmg, vme, vmb, ty, hP, dec_t, dec_f, wrap64, List.length_map, Int.toNat_natCast, Nat.reduceAdd, ↓vgd, ↓vst, ↓vix, List.append_nil, strOf_mk, a1, a2, a3, a4, a5, a6, a7, a8, dr_num hB.ino, dr_num hB.links, dr_num hB.size, dr_rkind, bo21, bo11]
      refine ⟨by kernel_rfl, ?_⟩
      simp (maxSteps := 1000000) (disch := first | assumption | omega | rfl) only [↓vmp, vme, vmb, ty, hP, dec_t, dec_f, wrap64, List.length_map, Int.toNat_natCast, Nat.reduceAdd, List.cons_append, List.nil_append, Option.map_some, Option.map_none, strOf_mk, sb_eql, sb_neq, vmg, ↓vgd, ↓vst, ↓vix]
      exact retQ_one rfl rfl rfl
    · rw [if_neg h11]
      have ef : okS ++ Lib.joinTail [32] [] = [111, 107] := rfl
      rw [ef]
      simp (maxSteps := 1000000) (disch := first | assumption | omega | rfl) only [↓vmp, vme, vmb, ty, hP, dec_t, dec_f, wrap64, List.length_map, Int.toNat_natCast, Nat.reduceAdd, List.cons_append, List.nil_append, Option.map_some, Option.map_none, strOf_mk, sb_eql, sb_neq, vmg, ↓vgd, ↓vst, ↓vix]
      refine rans_l0 a dos h10 _ _ _ _ _ _ _ _ _ _ _ _ _ _ _ _ _ _ _ _ _ _ _ _ _ _ _ _ _ _ _ _ _ _ _ _ _ _ _ _ _ _ _ _ _ _ _ _ _ _ _ _ _ _ _ _ _ _ _ _ _ _ _ _ _ _ _ _ _ _ _ _ _ _ _ ?_
      intro i' g7 g8 g9 g10 g11 g12 g13 g14 g15 g16 g17 g18 g19 g20 g21 g22 g23 g24 g25 g26 g27 g28 g29 g30 g31 g32 g33 g34 g35 g36 g37 g38 g39 g40 g41 g42 g43 g44 g45 g46 g47 g48 g49 g50 g51 g52 g53 g54 g55 g56 g57 g58 g59 g60 g61 g62 g63 g64 g65 g66 g67 g68 g69 g70 g71 g72 g73 g74 g75 g76
      simp (maxSteps := 1000000) (disch := first | assumption | omega | rfl) only [↓vmp, vme, vmb, ty, hP, dec_t, dec_f, wrap64, List.length_map, Int.toNat_natCast, Nat.reduceAdd, List.cons_append, List.nil_append, Option.map_some, Option.map_none, strOf_mk, sb_eql, sb_neq, vmg, ↓vgd, ↓vst, ↓vix]
      exact retQ_one rfl rfl rfl
  · have hlen := itoa_len a.err hB.err
    have e : ansS dos a = [101, 114, 114, 111, 114, 32] ++ Lib.itoa a.err := by unfold ansS; rw [if_pos he]; simp [Lib.joinTail, errS]
    have a1 : strBin .add [101, 114, 114, 111, 114, 32] (Lib.itoa a.err) = some (.str ([101, 114, 114, 111, 114, 32] ++ Lib.itoa a.err)) := sb_add (by simp; omega)
    rw [e]
    simp (maxSteps := 1000000) (disch := first | assumption | omega | rfl) only [↓vmp, vme, vmb, ty, hP, dec_t, dec_f, wrap64, List.length_map, Int.toNat_natCast, Nat.reduceAdd, List.cons_append, List.nil_append, Option.map_some, Option.map_none, strOf_mk, sb_eql, sb_neq, vmg, ↓vgd, ↓vst, ↓vix, call_num hB.err, bo21, a1]
    exact retQ_one rfl rfl rfl
end Go.Proofs.YtghllhghboaagaaDoor
end
