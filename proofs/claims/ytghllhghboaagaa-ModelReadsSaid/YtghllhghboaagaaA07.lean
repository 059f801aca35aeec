/- The document's model: Resolve, Where, Next, Fail. -/
import Derived.Test.YtghllhghboaagaaA06
set_option linter.unusedVariables false
set_option linter.unusedSimpArgs false
set_option maxRecDepth 100000
set_option maxHeartbeats 4000000
set_option linter.defProp false
section
namespace Go.Proofs.Ytghllhghboaagaa
open Go.Vm
theorem z6z : ∀ (r part : List UInt8) (l : List (List UInt8)), kT part r = some l → l.length ≤ r.length + 1
 | [], part, l, h => by
  by_cases hp : part = []
  ·simp [kT, hp] at h
  ·simp only [kT, hp, if_false, Option.some.injEq] at h
   subst h
   simp
 | c :: r, part, l, h => by
  by_cases hc : c = 47
  ·by_cases hp : part = []
   ·simp [kT, hp, hc] at h
   ·simp only [kT, hc, hp, if_true, if_false, Option.map_eq_some_iff] at h
    obtain ⟨l', h1, rfl⟩ := h
    have := z6z r [] l' h1
    simp
    omega
  ·simp only [kT, hc, if_false] at h
   have := z6z r _ l h
   simp
   omega
theorem z2v (s : List UInt8) : (zN s).1.length ≤ 200 := by
 unfold zN
 by_cases h1 : s.length < 1 ∨ 200 < s.length ∨ s.head? ≠ some 47
 ·rw [if_pos h1]; simp
 ·rw [if_neg h1]
  by_cases h2 : s.length = 1
  ·rw [if_pos h2]; simp
  ·rw [if_neg h2]
   cases h : kT [] (s.drop 1) with
   | none => simp
   | some l =>
    have := z6z _ _ _ h
    simp at this
    simp only
    split
    ·show l.length ≤ 200
     omega
    ·simp
theorem zj3 (s : List UInt8) : ∀ x ∈ (zN s).1, wO x = true := by
 unfold zN
 by_cases h1 : s.length < 1 ∨ 200 < s.length ∨ s.head? ≠ some 47
 ·rw [if_pos h1]; simp
 ·rw [if_neg h1]
  by_cases h2 : s.length = 1
  ·rw [if_pos h2]; simp
  ·rw [if_neg h2]
   cases h : kT [] (s.drop 1) with
   | none => simp
   | some l =>
    simp only
    split
    ·rename_i ha
     exact fun x hx => List.all_eq_true.1 ha x hx
    ·simp
theorem ziw {s : List UInt8} (h : wO s = true) : s.length ≤ 24 := by
 simp only [wO, Bool.and_eq_true, decide_eq_true_eq] at h
 exact h.1.2.1
def zF (t : List Node) (s : List UInt8) : Int × Int := if (zN s).2 ≠ 0 then (0, (zN s).2) else goN t (zN s).1 1
theorem zie (t : List Node) (k0 : Nat) (hk0 : k0 < 300000) (hS : Small k0 t) (s : List UInt8) (hl : s.length < 1000000) : Ev cfg 28 [.sl (t.map zB), .str s] (.ret (.tup [.d (.int .i64 (zF t s).1), .d (.int .i64 (zF t s).2)])) := by
 refine wJ rfl rfl zyp ?_
 show Wp cfg (Try.f28.body.getD .skip) ((.d (.sl (t.map zB))) :: (.d (.str s)) :: (.tup []) :: (.tup []) :: (.tup []) :: (.tup []) :: (.tup []) :: (.tup []) :: (.tup []) :: (.tup []) :: (.tup []) :: (.tup []) :: (.tup []) :: (.tup []) :: (.tup []) :: (.tup []) :: (.tup []) :: (.tup []) :: (.tup []) :: (.tup []) :: (.tup []) :: []) [] [] _
 conv => arg 2; whnf
 have hn := z2v s
 have hn' : (zN s).1.length < 1000000 := by omega
 by_cases h : (zN s).2 = 0
 ·have e : zF t s = goN t (zN s).1 1 := by simp only [zF, h, ne_eq, not_true_eq_false, if_false]
  simp (maxSteps := 1000000) (disch := first | assumption | omega | rfl) only [↓vmp, ga, Nat.reduceAdd, vmg, strOf_mk, Option.map_some, Option.map_none, z0n, zc4 hS hk0]
  rw [e]
  exact kL rfl rfl rfl rfl rfl rfl
 ·have e : zF t s = (0, (zN s).2) := by simp only [zF, h, ne_eq, not_false_eq_true, if_true]
  simp (maxSteps := 1000000) (disch := first | assumption | omega | rfl) only [↓vmp, ga, Nat.reduceAdd, vmg, strOf_mk, Option.map_some, Option.map_none, z0n]
  rw [e]
  exact kL rfl rfl rfl rfl rfl rfl
def zJ (t : List Node) (s : List UInt8) : Int × List UInt8 × Int :=
 if (zN s).2 ≠ 0 then (0, [], (zN s).2)
 else if (zN s).1.length = 0 then (0, [], 15)
 else if (goN t ((zN s).1.take ((zN s).1.length - 1)) 1).2 ≠ 0 then (0, [], (goN t ((zN s).1.take ((zN s).1.length - 1)) 1).2)
 else if (getN t (goN t ((zN s).1.take ((zN s).1.length - 1)) 1).1).kind ≠ 2 then (0, [], 6)
 else ((goN t ((zN s).1.take ((zN s).1.length - 1)) 1).1, (zN s).1.getD ((zN s).1.length - 1) [], 0)
theorem znz (t : List Node) (k0 : Nat) (hk0 : k0 < 300000) (hS : Small k0 t) (s : List UInt8) (hl : s.length < 1000000) : Ev cfg 30 [.sl (t.map zB), .str s] (.ret (.tup [.d (.int .i64 (zJ t s).1), .d (.str (zJ t s).2.1), .d (.int .i64 (zJ t s).2.2)])) := by
 refine wJ rfl rfl zwv ?_
 show Wp cfg (Try.f30.body.getD .skip) ((.d (.sl (t.map zB))) :: (.d (.str s)) :: (.tup []) :: (.tup []) :: (.tup []) :: (.tup []) :: (.tup []) :: (.tup []) :: (.tup []) :: (.tup []) :: (.tup []) :: (.tup []) :: (.tup []) :: (.tup []) :: (.tup []) :: (.tup []) :: (.tup []) :: (.tup []) :: (.tup []) :: (.tup []) :: (.tup []) :: (.tup []) :: (.tup []) :: (.tup []) :: (.tup []) :: (.tup []) :: (.tup []) :: (.tup []) :: (.tup []) :: (.tup []) :: (.tup []) :: (.tup []) :: (.tup []) :: (.tup []) :: (.tup []) :: (.tup []) :: (.tup []) :: (.tup []) :: (.tup []) :: (.tup []) :: (.tup []) :: (.tup []) :: (.tup []) :: (.tup []) :: (.tup []) :: (.tup []) :: (.tup []) :: []) [] [] _
 conv => arg 2; whnf
 have hn := z2v s
 have hlt' : t.length < 1000000 := Nat.lt_of_le_of_lt hS.len (by omega)
 have hw : zJ t s = (if (zN s).2 ≠ 0 then (0, [], (zN s).2)
 else if (zN s).1.length = 0 then (0, [], 15)
 else if (goN t ((zN s).1.take ((zN s).1.length - 1)) 1).2 ≠ 0 then (0, [], (goN t ((zN s).1.take ((zN s).1.length - 1)) 1).2)
 else if (getN t (goN t ((zN s).1.take ((zN s).1.length - 1)) 1).1).kind ≠ 2 then (0, [], 6)
 else ((goN t ((zN s).1.take ((zN s).1.length - 1)) 1).1, (zN s).1.getD ((zN s).1.length - 1) [], 0)) := rfl
 by_cases h : (zN s).2 = 0
 ·rw [if_neg (by simp [h])] at hw
  by_cases h0 : (zN s).1.length = 0
  ·rw [if_pos h0] at hw
   simp (maxSteps := 1000000) (disch := first | assumption | omega | rfl) only [↓vmp, ga, Nat.reduceAdd, vmg, strOf_mk, Option.map_some, Option.map_none, z0n]
   rw [hw]
   exact z02 rfl rfl rfl rfl rfl rfl rfl rfl rfl
  ·rw [if_neg h0] at hw
   have hsl := zq1 (S := []) (P := Try.prog) (t := 42) (e := 9) (xs := (zN s).1.map D.str) (hi := ((zN s).1.length : Int) - 1) Try.underlying42 (by simp only [List.all_map, List.all_eq_true]; intro x _; exact zo1 x) zmf (by omega) (by simp only [List.length_map]; omega)
   rw [← List.map_take, show (((zN s).1.length : Int) - 1).toNat = (zN s).1.length - 1 by omega] at hsl
   have hn' : ((zN s).1.take ((zN s).1.length - 1)).length < 1000000 := by rw [List.length_take]; omega
   by_cases h1 : (goN t ((zN s).1.take ((zN s).1.length - 1)) 1).2 = 0
   ·rw [if_neg (by simp [h1])] at hw
    by_cases h2 : (getN t (goN t ((zN s).1.take ((zN s).1.length - 1)) 1).1).kind = 2
    ·rw [if_neg (by simp [h2])] at hw
     have hlt : (zN s).1.length - 1 < (zN s).1.length := by omega
     have hix := ix42 (S := []) hlt
     rw [show (((zN s).1.length - 1 : Nat) : Int) = ((zN s).1.length : Int) - 1 by omega] at hix
     simp (maxSteps := 1000000) (disch := first | assumption | omega | rfl) only [↓vmp, ga, Nat.reduceAdd, vmg, strOf_mk, Option.map_some, Option.map_none, z0n, hsl, zc4 hS hk0, jP]
     refine jE (is := [0, 1, 2, 3, 4, 5, 6, 7, 8, 9]) (h := 0) (by kernel_rfl) (by kernel_rfl) ?_
     simp (maxSteps := 1000000) (disch := first | assumption | omega | rfl) only [List.replicate_zero, eq_self, vmd, vmk, vmo, vmg, ga, Nat.reduceAdd, hix]
     refine ⟨by kernel_rfl, ?_⟩
     simp (maxSteps := 1000000) (disch := first | assumption | omega | rfl) only [↓vmp, ga, Nat.reduceAdd]
     rw [hw, List.getD_eq_getElem?_getD, List.getElem?_eq_getElem hlt]
     exact z02 rfl rfl rfl rfl rfl rfl rfl rfl rfl
    ·rw [if_pos h2] at hw
     simp (maxSteps := 1000000) (disch := first | assumption | omega | rfl) only [↓vmp, ga, Nat.reduceAdd, vmg, strOf_mk, Option.map_some, Option.map_none, z0n, hsl, zc4 hS hk0, jP]
     rw [hw]
     exact z02 rfl rfl rfl rfl rfl rfl rfl rfl rfl
   ·rw [if_pos h1] at hw
    simp (maxSteps := 1000000) (disch := first | assumption | omega | rfl) only [↓vmp, ga, Nat.reduceAdd, vmg, strOf_mk, Option.map_some, Option.map_none, z0n, hsl, zc4 hS hk0]
    rw [hw]
    exact z02 rfl rfl rfl rfl rfl rfl rfl rfl rfl
 ·rw [if_pos h] at hw
  simp (maxSteps := 1000000) (disch := first | assumption | omega | rfl) only [↓vmp, ga, Nat.reduceAdd, vmg, strOf_mk, Option.map_some, Option.map_none, z0n]
  rw [hw]
  exact z02 rfl rfl rfl rfl rfl rfl rfl rfl rfl
end Go.Proofs.Ytghllhghboaagaa
end
section
namespace Go.Proofs.Ytghllhghboaagaa
open Go.Vm
theorem vN {ops : Array Oper} {dst : Option Tmp} {l : List Oper} {T : List V} {S : zA} {F : Dfs} {Q : Post} {t : List Node} {s : List UInt8} {k0 : Nat} (hS : Small k0 t) (hk0 : k0 < 300000) (hl : s.length < 1000000) :
  WpR cfg ops dst l T S F Q (some (.enter 28 [.d (.sl (t.map zB)), .d (.str s)])) = WpL cfg ops l (putT T dst (.tup [.d (.int .i64 (zF t s).1), .d (.int .i64 (zF t s).2)])) S F Q :=
 qA (ds := [.sl (t.map zB), .str s]) rfl (zie t k0 hk0 hS s hl)
theorem wZ {ops : Array Oper} {dst : Option Tmp} {l : List Oper} {T : List V} {S : zA} {F : Dfs} {Q : Post} {t : List Node} {s : List UInt8} {k0 : Nat} (hS : Small k0 t) (hk0 : k0 < 300000) (hl : s.length < 1000000) :
  WpR cfg ops dst l T S F Q (some (.enter 30 [.d (.sl (t.map zB)), .d (.str s)])) = WpL cfg ops l (putT T dst (.tup [.d (.int .i64 (zJ t s).1), .d (.str (zJ t s).2.1), .d (.int .i64 (zJ t s).2.2)])) S F Q :=
 qA (ds := [.sl (t.map zB), .str s]) rfl (znz t k0 hk0 hS s hl)
def z2p (t : List Node) : Nat → Int → Int
 | 0, i => i
 | n + 1, i => if 0 ≤ jD i 0 t then z2p t n (i + 1) else i
def qZ (t : List Node) : Int := z2p t (t.length + 1) 2
theorem zke {t : List Node} {i : Int} (h : jD i 0 t < 0) : ∀ n ∈ t, n.ino ≠ i := by
 rcases z0e i t 0 with ⟨h1, h2⟩ | ⟨k, hk, h1, h2⟩
 ·intro n hn hi
  have := List.find?_eq_none.1 h1 n hn
  simp [hi] at this
 ·omega
theorem z64 {t : List Node} {i : Int} (h : 0 ≤ jD i 0 t) : ∃ n ∈ t, n.ino = i := by
 rcases z0e i t 0 with ⟨h1, h2⟩ | ⟨k, hk, h1, h2⟩
 ·omega
 ·exact ⟨t[k], List.getElem_mem hk, by simpa using List.find?_some h2⟩
def zdf (t : List Node) (i : Int) : Nat := t.countP (fun n => decide (i ≤ n.ino))
theorem z85 {t : List Node} {i : Int} (h : ∃ n ∈ t, n.ino = i) : zdf t (i + 1) < zdf t i := by
 obtain ⟨n, hn, hi⟩ := h
 unfold zdf
 induction t with
 | nil => simp at hn
 | cons x r ih =>
  have mono : ∀ r : List Node, r.countP (fun n => decide (i + 1 ≤ n.ino)) ≤ r.countP (fun n => decide (i ≤ n.ino)) := fun r => List.countP_mono_left (fun a _ h => by simp at h ⊢; omega)
  rw [List.countP_cons, List.countP_cons]
  rcases List.mem_cons.1 hn with rfl | hm
  ·have h1 : ¬ (decide (i + 1 ≤ n.ino) = true) := by simp; omega
   have h2 : decide (i ≤ n.ino) = true := by simp; omega
   rw [if_neg h1, if_pos h2]
   have := mono r
   omega
  ·have := ih hm
   by_cases h1 : decide (i + 1 ≤ x.ino) = true
   ·have h2 : decide (i ≤ x.ino) = true := by simp at h1 ⊢; omega
    rw [if_pos h1, if_pos h2]; omega
   ·rw [if_neg h1]
    split <;> omega
theorem zxg (t : List Node) (hl : t.length < 400000) (R : Post) (S : zA) (g2 : V) : ∀ (k : Nat) (i : Int) (g4 g5 g6 g7 g8 g9 g10 : V), zdf t i ≤ k → 2 ≤ i → i + k < 1000000 →
 (∀ g4 g5 g6 g7 g8 g9 g10, jD (z2p t (k + 1) i) 0 t < 0 → R (.exit 0) ((.d (.sl (t.map zB))) :: (.tup []) :: g2 :: (.d (.int .i64 (z2p t (k + 1) i))) :: g4 :: g5 :: g6 :: g7 :: g8 :: g9 :: g10 :: []) S []) →
 Wp cfg (.loop (lpOf (Try.f32.body.getD .skip) 0)) ((.d (.sl (t.map zB))) :: (.tup []) :: g2 :: (.d (.int .i64 i)) :: g4 :: g5 :: g6 :: g7 :: g8 :: g9 :: g10 :: []) S [] R := by
 intro k
 have hl' : t.length < 1000000 := by omega
 induction k with
 | zero =>
  intro i g4 g5 g6 g7 g8 g9 g10 hk h2 hb hE
  rw [qO]
  refine zV ?_
  conv => arg 2; whnf
  have hf : jD i 0 t < 0 := by
   rcases Int.lt_or_le (jD i 0 t) 0 with h | h
   ·exact h
   ·have := z85 (z64 h); omega
  have hf' : ¬ 0 ≤ jD i 0 t := by omega
  have hf2 : ¬ jD i 0 t ≥ 0 := by omega
  simp (maxSteps := 1000000) (disch := first | assumption | omega | rfl) only [↓vmp, ga, Nat.reduceAdd, z3t]
  have e : z2p t (0 + 1) i = i := by simp only [z2p, hf', if_false]
  rw [e] at hE
  exact hE _ _ _ _ _ _ _ hf
 | succ k ih =>
  intro i g4 g5 g6 g7 g8 g9 g10 hk h2 hb hE
  rw [qO]
  refine zV ?_
  conv => arg 2; whnf
  by_cases hf : 0 ≤ jD i 0 t
  ·have := z85 (z64 hf)
   have hf2 : jD i 0 t ≥ 0 := by omega
   simp (maxSteps := 1000000) (disch := first | assumption | omega | rfl) only [↓vmp, ga, Nat.reduceAdd, z3t]
   have e : z2p t (k + 1 + 1) i = z2p t (k + 1) (i + 1) := by rw [z2p, if_pos hf]
   rw [e] at hE
   exact ih (i + 1) _ _ _ _ _ _ _ (by omega) (by omega) (by omega) hE
  ·have hf2 : ¬ jD i 0 t ≥ 0 := by omega
   simp (maxSteps := 1000000) (disch := first | assumption | omega | rfl) only [↓vmp, ga, Nat.reduceAdd, z3t]
   have e : z2p t (k + 1 + 1) i = i := by rw [z2p, if_neg hf]
   rw [e] at hE
   exact hE _ _ _ _ _ _ _ (by omega)
theorem zav (t : List Node) : ∀ (k : Nat) (i : Int), zdf t i ≤ k → jD (z2p t (k + 1) i) 0 t < 0 ∧ i ≤ z2p t (k + 1) i ∧ z2p t (k + 1) i ≤ i + k
 | 0, i, hk => by
  have hf : ¬ 0 ≤ jD i 0 t := fun h => by have := z85 (z64 h); omega
  rw [z2p, if_neg hf]
  exact ⟨by omega, by omega, by omega⟩
 | k + 1, i, hk => by
  by_cases hf : 0 ≤ jD i 0 t
  ·have := z85 (z64 hf)
   rw [z2p, if_pos hf]
   have h := zav t k (i + 1) (by omega)
   exact ⟨h.1, by omega, by omega⟩
  ·rw [z2p, if_neg hf]
   exact ⟨by omega, by omega, by omega⟩
theorem z1q (t : List Node) : (∀ n ∈ t, n.ino ≠ qZ t) ∧ 2 ≤ qZ t ∧ qZ t ≤ t.length + 2 := by
 have h := zav t t.length 2 List.countP_le_length
 exact ⟨zke h.1, h.2.1, by have := h.2.2; unfold qZ; omega⟩
theorem zs3 (t : List Node) (hl : t.length < 400000) : Ev cfg 32 [.sl (t.map zB)] (.ret (.d (.int .i64 (qZ t)))) := by
 refine wJ rfl rfl zuf ?_
 show Wp cfg (Try.f32.body.getD .skip) ((.d (.sl (t.map zB))) :: (.tup []) :: (.tup []) :: (.tup []) :: (.tup []) :: (.tup []) :: (.tup []) :: (.tup []) :: (.tup []) :: (.tup []) :: (.tup []) :: []) [] [] _
 conv => arg 2; whnf
 simp (maxSteps := 1000000) (disch := first | assumption | omega | rfl) only [↓vmp, ga, Nat.reduceAdd]
 refine zxg t hl _ _ _ t.length 2 _ _ _ _ _ _ _ List.countP_le_length (by omega) (by omega) ?_
 intro g4 g5 g6 g7 g8 g9 g10 h
 simp (maxSteps := 1000000) (disch := first | assumption | omega | rfl) only [↓vmp, ga, Nat.reduceAdd]
 exact zS rfl rfl rfl
theorem zcw {ops : Array Oper} {dst : Option Tmp} {l : List Oper} {T : List V} {S : zA} {F : Dfs} {Q : Post} {t : List Node} (hl : t.length < 400000) :
  WpR cfg ops dst l T S F Q (some (.enter 32 [.d (.sl (t.map zB))])) = WpL cfg ops l (putT T dst (.d (.int .i64 (qZ t)))) S F Q :=
 qA (ds := [.sl (t.map zB)]) rfl (zs3 t hl)
def qS (e : Int) : Ans := ⟨e, 0, 0, 0, 0, [], []⟩
theorem bd52 {e : Int} : vR Try.prog 52 [(0, .d (.int .i64 e))] = some (.agg [.d (.int .i64 e), .d (.int .i64 0), .d (.int .i64 0), .d (.int .i64 0), .d (.int .i64 0), .ts [], .ts []]) := by kernel_rfl
theorem ztm (e : Int) : Ev cfg 46 [.int .i64 e] (.ret (.d (qM (qS e)))) := by
 refine wJ rfl rfl zvg ?_
 show Wp cfg (Try.f46.body.getD .skip) ((.d (.int .i64 e)) :: (.tup []) :: (.tup []) :: (.tup []) :: (.tup []) :: []) [] [] _
 conv => arg 2; whnf
 simp (maxSteps := 1000000) (disch := first | assumption | omega | rfl) only [↓vmp, ga, Nat.reduceAdd, bd52]
 exact z0d rfl (v := .agg [.d (.int .i64 e), .d (.int .i64 0), .d (.int .i64 0), .d (.int .i64 0), .d (.int .i64 0), .ts [], .ts []]) (by kernel_rfl) rfl rfl
theorem qP {ops : Array Oper} {dst : Option Tmp} {l : List Oper} {T : List V} {S : zA} {F : Dfs} {Q : Post} {e : Int} :
  WpR cfg ops dst l T S F Q (some (.enter 46 [.d (.int .i64 e)])) = WpL cfg ops l (putT T dst (.d (qM (qS e)))) S F Q :=
 qA (ds := [.int .i64 e]) rfl (ztm e)
end Go.Proofs.Ytghllhghboaagaa
end
section
namespace Go.Proofs.Ytghllhghboaagaa
open Go.Vm
theorem z8o {n x : Node} : ∀ {l : List Node} {b : Bool}, x ∈ wG n b l ↔ (b = false ∧ x = n) ∨ (x ∈ l ∧ x.ino ≠ n.ino)
 | [], b => by cases b <;> simp [wG]
 | y :: r, b => by
  rw [wG]
  simp only [List.mem_append, z8o (l := r), List.mem_cons]
  cases b with
  | true => by_cases h2 : y.ino ≠ n.ino <;> grind
  | false => by_cases h1 : n.ino ≤ y.ino <;> by_cases h2 : y.ino ≠ n.ino <;> grind
theorem wY {t : List Node} {n x : Node} : x ∈ qQ t n ↔ x = n ∨ (x ∈ t ∧ x.ino ≠ n.ino) := by
 unfold qQ
 rw [z8o]
 simp
theorem zf2 {n : Node} : ∀ {l : List Node} {b : Bool}, (wG n b l).length ≤ l.length + (if b then 0 else 1)
 | [], b => by cases b <;> simp [wG]
 | y :: r, b => by
  rw [wG]
  simp only [List.length_append, List.length_cons]
  have := zf2 (n := n) (l := r) (b := b || decide (n.ino ≤ y.ino))
  cases b with
  | true =>
   simp only [Bool.true_or, if_true] at this
   simp only [Bool.true_or, Bool.true_eq_false, false_and, if_false, List.length_nil, if_true]
   split <;> simp <;> omega
  | false =>
   by_cases h1 : n.ino ≤ y.ino
   ·simp only [h1, decide_true, Bool.or_true, if_true] at this
    simp only [h1, decide_true, Bool.or_true, and_self, if_true, List.length_cons, List.length_nil, Bool.false_eq_true, if_false]
    split <;> simp <;> omega
   ·simp only [h1, decide_false, Bool.or_false, Bool.false_eq_true, if_false] at this
    simp only [h1, decide_false, Bool.or_false, and_false, if_false, List.length_nil, Bool.false_eq_true]
    split <;> simp <;> omega
theorem zdq {t : List Node} {n : Node} : (qQ t n).length ≤ t.length + 1 := zf2
theorem Small.mono {k m : Nat} {t : List Node} (h : Small k t) (hm : k ≤ m) : Small m t :=
 ⟨Nat.le_trans h.len hm, fun n hn => Nat.le_trans (h.nms n hn) hm, h.nam, fun n hn => ⟨by have := (h.lnk n hn).1; omega, by have := (h.lnk n hn).2; omega⟩, h.siz⟩
structure SmallN (k : Nat) (n : Node) : Prop where
 nms : n.names.length ≤ k
 nam : ∀ e ∈ n.names, e.name.length ≤ 200
 lnk : -(k : Int) ≤ n.links ∧ n.links ≤ k
 siz : 0 ≤ n.size ∧ n.size ≤ 34304 ∧ n.data.length = n.size
theorem Small.get {k : Nat} {t : List Node} (h : Small k t) (ino : Int) : SmallN k (getN t ino) := ⟨h.gnms ino, h.gnam ino, h.glnk ino, h.gsiz ino⟩
theorem SmallN.mono {k m : Nat} {n : Node} (h : SmallN k n) (hm : k ≤ m) : SmallN m n := ⟨Nat.le_trans h.nms hm, h.nam, ⟨by have := h.lnk.1; omega, by have := h.lnk.2; omega⟩, h.siz⟩
theorem Small.with {k : Nat} {t : List Node} {n : Node} (h : Small k t) (hn : SmallN (k + 1) n) : Small (k + 1) (qQ t n) := by
 have h' := h.mono (Nat.le_succ k)
 refine ⟨Nat.le_trans zdq (by have := h.len; omega), ?_, ?_, ?_, ?_⟩ <;> intro x hx <;> rcases wY.1 hx with rfl | ⟨h1, _⟩
 ·exact hn.nms
 ·exact h'.nms x h1
 ·exact hn.nam
 ·exact h'.nam x h1
 ·exact hn.lnk
 ·exact h'.lnk x h1
 ·exact hn.siz
 ·exact h'.siz x h1
theorem Small.filter {k : Nat} {t : List Node} {p : Node → Bool} (h : Small k t) : Small k (t.filter p) :=
 ⟨Nat.le_trans (List.length_filter_le _ _) h.len, fun n hn => h.nms n (List.mem_filter.1 hn).1, fun n hn => h.nam n (List.mem_filter.1 hn).1, fun n hn => h.lnk n (List.mem_filter.1 hn).1, fun n hn => h.siz n (List.mem_filter.1 hn).1⟩
theorem Small.drop {k : Nat} {t : List Node} {dir : Int} {s : List UInt8} (h : Small k t) : Small (k + 1) (zT t dir s) := by
 have hg := (h.get dir).mono (Nat.le_succ k)
 exact h.with ⟨Nat.le_trans (List.length_filter_le _ _) hg.nms, fun e he => hg.nam e (List.mem_filter.1 he).1, hg.lnk, hg.siz⟩
theorem mem_putA {s : List UInt8} {ino : Int} {x : Ent} : ∀ {l : List Ent} {b : Bool}, x ∈ putA s ino b l ↔ (b = false ∧ x = ⟨s, ino⟩) ∨ x ∈ l
 | [], b => by cases b <;> simp [putA]
 | y :: r, b => by
  rw [putA]
  simp only [List.mem_append, mem_putA (l := r), List.mem_cons, List.not_mem_nil, or_false]
  cases b with
  | true => simp
  | false => cases h : kV s y.name <;> grind
theorem zhd {s : List UInt8} {ino : Int} : ∀ {l : List Ent} {b : Bool}, (putA s ino b l).length = l.length + (if b then 0 else 1)
 | [], b => by cases b <;> simp [putA]
 | y :: r, b => by
  rw [putA]
  simp only [List.length_append, List.length_cons, zhd (l := r), List.length_nil]
  cases b with
  | true => simp; omega
  | false => cases h : kV s y.name <;> simp <;> omega
theorem Small.put {k : Nat} {t : List Node} {dir ino : Int} {s : List UInt8} (h : Small k t) (hs : s.length ≤ 200) : Small (k + 1) (putN t dir s ino) := by
 have hg := (h.get dir)
 refine h.with ⟨?_, ?_, (hg.mono (Nat.le_succ k)).lnk, hg.siz⟩
 ·show (putA s ino false _).length ≤ k + 1
  rw [zhd]
  have := hg.nms
  simp only [Bool.false_eq_true, if_false]
  omega
 ·intro e he
  rcases mem_putA.1 he with ⟨_, rfl⟩ | h1
  ·exact hs
  ·exact hg.nam e h1
theorem Small.loses {k : Nat} {t : List Node} {ino : Int} (h : Small k t) : Small (k + 1) (jM t ino) := by
 unfold jM
 have hg := (h.get ino)
 split
 ·exact (h.filter).mono (Nat.le_succ k)
 ·refine h.with ⟨Nat.le_succ_of_le hg.nms, hg.nam, ⟨?_, ?_⟩, hg.siz⟩
  ·have := hg.lnk.1
   show -((k + 1 : Nat) : Int) ≤ (getN t ino).links - 1
   omega
  ·have := hg.lnk.2
   show (getN t ino).links - 1 ≤ ((k + 1 : Nat) : Int)
   omega
theorem z1r (t : List Node) (s : List UInt8) : (zJ t s).2.1.length ≤ 24 := by
 unfold zJ
 by_cases h1 : (zN s).2 ≠ 0
 ·rw [if_pos h1]; simp
 ·rw [if_neg h1]
  by_cases h2 : (zN s).1.length = 0
  ·rw [if_pos h2]; simp
  ·rw [if_neg h2]
   split
   ·simp
   ·split
    ·simp
    ·show ((zN s).1.getD _ _).length ≤ 24
     have hlt : (zN s).1.length - 1 < (zN s).1.length := by omega
     rw [List.getD_eq_getElem?_getD, List.getElem?_eq_getElem hlt]
     exact ziw (zj3 s _ (List.getElem_mem hlt))
end Go.Proofs.Ytghllhghboaagaa
end
section
namespace Go.Proofs.Ytghllhghboaagaa
open Go.Vm
theorem qI {P : Program} {T : List V} {S : zA} {t a u : Nat} {v w x : V} {d e : D} (hv : T.getD t (.tup []) = v) (ha : T.getD a (.tup []) = w) (hl : jZ P S u w = some x) (h1 : v.one = true) (h2 : x.one = true) (h3 : frz S zO v = some d) (h4 : frz S zO x = some e) : RetQ P #[.tmp t, .cell a u] (.ret (.tup [.d d, .d e])) .ret T S [] :=
 z96 (r1 := .tmp t) (r2 := .cell a u) (l := []) (vs := [v, x]) (ds := [d, e]) (by simp only [allO, wV, hv, ha, hl]) (by simp [h1, h2]) (by simp only [allO, h3, h4])
theorem zi1 {ops : Array Oper} {F : Dfs} {Q : Post} {K : List Nat → List (Nat × Nat) → List V → zA → Prop} {rd : List Nat} {cs : List (Nat × Nat)} {i : Nat} {dst : Option Tmp} {T : List V} {S : zA} {t : List Node} {a b c d e : Int} (hl : t.length < 400000) :
  WpE cfg ops F Q K rd cs i dst T S (some (.enter 89 [.d (.sl (t.map zB)), .agg [.d (.int .i64 a), .d (.int .i64 b), .d (.int .i64 c), .d (.int .i64 d), .d (.int .i64 e), .ts [], .ts []]])) = K (i :: rd) (cs ++ [(i, 1)]) (putT T dst (.d (.sl ((qQ t ⟨a, b, c, d, e, [], []⟩).map zB)))) S :=
 zeu (ds := [.sl (t.map zB), zB ⟨a, b, c, d, e, [], []⟩]) rfl rfl rfl (z9e t _ hl)
theorem bd91 {n : Int} : vR Try.prog 91 [(0, .d (.int .i64 n)), (1, .d (.int .i64 1)), (2, .d (.int .i64 1))] = some (.agg [.d (.int .i64 n), .d (.int .i64 1), .d (.int .i64 1), .d (.int .i64 0), .d (.int .i64 0), .ts [], .ts []]) := by kernel_rfl
theorem zpo {e : Int} : vR Try.prog 52 [(1, .d (.int .i64 e))] = some (.agg [.d (.int .i64 0), .d (.int .i64 e), .d (.int .i64 0), .d (.int .i64 0), .d (.int .i64 0), .ts [], .ts []]) := by kernel_rfl
theorem z2b : vR Try.prog 52 [] = some (.agg [.d (.int .i64 0), .d (.int .i64 0), .d (.int .i64 0), .d (.int .i64 0), .d (.int .i64 0), .ts [], .ts []]) := by kernel_rfl
def okN : Ans := ⟨0, 0, 0, 0, 0, [], []⟩
def zY (t : List Node) (o : Opn) : Node := if o.does = 2 then ⟨qZ t, 2, 1, (zJ t o.a).1, 0, [], []⟩ else ⟨qZ t, 1, 1, 0, 0, [], []⟩
def z12 (t : List Node) (o : Opn) : List Node × Ans :=
 if (zJ t o.a).2.2 ≠ 0 then (t, qS (zJ t o.a).2.2)
 else if 0 ≤ qR (getN t (zJ t o.a).1).names (zJ t o.a).2.1 then (t, qS 5)
 else (putN (qQ t (zY t o)) (zJ t o.a).1 (zJ t o.a).2.1 (qZ t), { okN with ino := qZ t })
theorem zr3 (t : List Node) (k0 : Nat) (hk0 : k0 < 200000) (hS : Small k0 t) (o : Opn) (ha : o.a.length < 1000000) : Ev cfg 47 [.sl (t.map zB), encOpn o] (.ret (.tup [.d (.sl ((z12 t o).1.map zB)), .d (qM (z12 t o).2)])) := by
 refine wJ rfl rfl zvo ?_
 show Wp cfg (Try.f47.body.getD .skip) ((.d (.sl (t.map zB))) :: (.d (encOpn o)) :: (.tup []) :: (.tup []) :: (.tup []) :: (.tup []) :: (.tup []) :: (.tup []) :: (.tup []) :: (.tup []) :: (.tup []) :: (.tup []) :: (.tup []) :: (.tup []) :: (.tup []) :: (.tup []) :: (.tup []) :: (.tup []) :: (.tup []) :: (.tup []) :: (.tup []) :: (.tup []) :: (.tup []) :: (.tup []) :: (.tup []) :: (.tup []) :: (.tup []) :: (.tup []) :: (.tup []) :: (.tup []) :: (.tup []) :: (.tup []) :: (.tup []) :: (.tup []) :: (.tup []) :: (.tup []) :: (.tup []) :: (.tup []) :: (.tup []) :: (.tup []) :: (.tup []) :: (.tup []) :: (.tup []) :: (.tup []) :: (.tup []) :: (.tup []) :: (.tup []) :: (.tup []) :: (.tup []) :: (.tup []) :: (.tup []) :: []) [] [] _
 conv => arg 2; whnf
 have hk1 : k0 < 300000 := by omega
 have hlt : t.length < 400000 := Nat.lt_of_le_of_lt hS.len (by omega)
 have hlt' : t.length < 1000000 := by omega
 have hgn : (getN t (zJ t o.a).1).names.length < 1000000 := Nat.lt_of_le_of_lt (hS.gnms _) (by omega)
 by_cases h1 : (zJ t o.a).2.2 = 0
 ·by_cases h2 : 0 ≤ qR (getN t (zJ t o.a).1).names (zJ t o.a).2.1
  ·have h2' : qR (getN t (zJ t o.a).1).names (zJ t o.a).2.1 ≥ 0 := h2
   have e : z12 t o = (t, qS 5) := by unfold z12; rw [if_neg (by simp [h1]), if_pos h2]
   simp (maxSteps := 1000000) (disch := first | assumption | omega | rfl) only [↓vmp, gb, strOf_mk, Nat.reduceAdd, wZ hS hk1, jP, z10, qP]
   rw [e]
   exact qI rfl rfl (x := .d (qM (qS 5))) (by kernel_rfl) rfl rfl rfl rfl
  ·have h2' : ¬ qR (getN t (zJ t o.a).1).names (zJ t o.a).2.1 ≥ 0 := h2
   have e : z12 t o = (putN (qQ t (zY t o)) (zJ t o.a).1 (zJ t o.a).2.1 (qZ t), { okN with ino := qZ t }) := by unfold z12; rw [if_neg (by simp [h1]), if_neg h2]
   have hwn : (qQ t (zY t o)).length < 400000 := Nat.lt_of_le_of_lt zdq (by have := hS.len; omega)
   have hnl := z1r t o.a
   have hnl' : (zJ t o.a).2.1.length < 1000000 := by omega
   have hmk : SmallN (k0 + 1) (zY t o) := by unfold zY; split <;> exact ⟨Nat.zero_le _, fun e he => by simp at he, ⟨by simp; omega, by simp; omega⟩, by simp⟩
   have hS2 := hS.with hmk
   have hgn2 : (getN (qQ t (zY t o)) (zJ t o.a).1).names.length < 400000 := Nat.lt_of_le_of_lt (hS2.gnms _) (by omega)
   have hgm2 : ∀ e ∈ (getN (qQ t (zY t o)) (zJ t o.a).1).names, e.name.length < 1000000 := fun e he => Nat.lt_of_le_of_lt (hS2.gnam _ e he) (by omega)
   by_cases h3 : o.does = 2
   ·have em : zY t o = ⟨qZ t, 2, 1, (zJ t o.a).1, 0, [], []⟩ := by unfold zY; rw [if_pos h3]
    rw [em] at hwn hgn2 hgm2 e
    simp (maxSteps := 1000000) (disch := first | assumption | omega | rfl) only [↓vmp, gb, strOf_mk, Nat.reduceAdd, wZ hS hk1, jP, z10, zcw, bd91]
    refine jE (is := [0, 1, 3, 4, 5, 6, 8, 9, 10, 2, 7, 11, 12]) (h := 0) (by kernel_rfl) (by kernel_rfl) ?_
    simp (maxSteps := 1000000) (disch := first | assumption | omega | rfl) only [List.replicate_zero, eq_self, vmd, vmk, vmo, vmg, ga, Nat.reduceAdd, zpo, zi1, zpm]
    refine ⟨fun _ => by kernel_rfl, ?_⟩
    refine ⟨by kernel_rfl, ?_⟩
    simp (maxSteps := 1000000) (disch := first | assumption | omega | rfl) only [↓vmp, gb, strOf_mk, Nat.reduceAdd]
    rw [e]
    exact qI rfl rfl (x := .agg [.d (.int .i64 0), .d (.int .i64 (qZ t)), .d (.int .i64 0), .d (.int .i64 0), .d (.int .i64 0), .ts [], .ts []]) (by kernel_rfl) rfl rfl rfl rfl
   ·have em : zY t o = ⟨qZ t, 1, 1, 0, 0, [], []⟩ := by unfold zY; rw [if_neg h3]
    rw [em] at hwn hgn2 hgm2 e
    simp (maxSteps := 1000000) (disch := first | assumption | omega | rfl) only [↓vmp, gb, strOf_mk, Nat.reduceAdd, wZ hS hk1, jP, z10, zcw, bd91]
    refine jE (is := [0, 1, 3, 4, 5, 6, 8, 9, 10, 2, 7, 11, 12]) (h := 0) (by kernel_rfl) (by kernel_rfl) ?_
    simp (maxSteps := 1000000) (disch := first | assumption | omega | rfl) only [List.replicate_zero, eq_self, vmd, vmk, vmo, vmg, ga, Nat.reduceAdd, zpo, zi1, zpm]
    refine ⟨fun _ => by kernel_rfl, ?_⟩
    refine ⟨by kernel_rfl, ?_⟩
    simp (maxSteps := 1000000) (disch := first | assumption | omega | rfl) only [↓vmp, gb, strOf_mk, Nat.reduceAdd]
    rw [e]
    exact qI rfl rfl (x := .agg [.d (.int .i64 0), .d (.int .i64 (qZ t)), .d (.int .i64 0), .d (.int .i64 0), .d (.int .i64 0), .ts [], .ts []]) (by kernel_rfl) rfl rfl rfl rfl
 ·have e : z12 t o = (t, qS (zJ t o.a).2.2) := by unfold z12; rw [if_pos h1]
  simp (maxSteps := 1000000) (disch := first | assumption | omega | rfl) only [↓vmp, gb, strOf_mk, Nat.reduceAdd, wZ hS hk1, qP]
  rw [e]
  exact qI rfl rfl (x := .d (qM (qS (zJ t o.a).2.2))) (by kernel_rfl) rfl rfl rfl rfl
end Go.Proofs.Ytghllhghboaagaa
end
section
namespace Go.Proofs.Ytghllhghboaagaa
open Go.Vm
theorem zl4 {ops : Array Oper} {dst : Option Tmp} {l : List Oper} {T : List V} {S : zA} {F : Dfs} {Q : Post} {t : List Node} {o : Opn} {k0 : Nat} (hS : Small k0 t) (hk0 : k0 < 200000) (ha : o.a.length < 1000000) :
  WpR cfg ops dst l T S F Q (some (.enter 47 [.d (.sl (t.map zB)), .d (encOpn o)])) = WpL cfg ops l (putT T dst (.tup [.d (.sl ((z12 t o).1.map zB)), .d (qM (z12 t o).2)])) S F Q :=
 qA (ds := [.sl (t.map zB), encOpn o]) rfl (zr3 t k0 hk0 hS o ha)
def more (n : Node) : Node := ⟨n.ino, n.kind, n.links + 1, n.parent, n.size, n.data, n.names⟩
def z07 (t : List Node) (o : Opn) : List Node × Ans :=
 if (zF t o.a).2 ≠ 0 then (t, qS (zF t o.a).2)
 else if (getN t (zF t o.a).1).kind = 2 then (t, qS 7)
 else if (zJ t o.b).2.2 ≠ 0 then (t, qS (zJ t o.b).2.2)
 else if 0 ≤ qR (getN t (zJ t o.b).1).names (zJ t o.b).2.1 then (t, qS 5)
 else (putN (qQ t (more (getN t (zF t o.a).1))) (zJ t o.b).1 (zJ t o.b).2.1 (zF t o.a).1, okN)
theorem zsp (t : List Node) (k0 : Nat) (hk0 : k0 < 200000) (hS : Small k0 t) (o : Opn) (ha : o.a.length < 1000000) (hb : o.b.length < 1000000) : Ev cfg 48 [.sl (t.map zB), encOpn o] (.ret (.tup [.d (.sl ((z07 t o).1.map zB)), .d (qM (z07 t o).2)])) := by
 refine wJ rfl rfl zwb ?_
 show Wp cfg (Try.f48.body.getD .skip) ((.d (.sl (t.map zB))) :: (.d (encOpn o)) :: (.tup []) :: (.tup []) :: (.tup []) :: (.tup []) :: (.tup []) :: (.tup []) :: (.tup []) :: (.tup []) :: (.tup []) :: (.tup []) :: (.tup []) :: (.tup []) :: (.tup []) :: (.tup []) :: (.tup []) :: (.tup []) :: (.tup []) :: (.tup []) :: (.tup []) :: (.tup []) :: (.tup []) :: (.tup []) :: (.tup []) :: (.tup []) :: (.tup []) :: (.tup []) :: (.tup []) :: (.tup []) :: (.tup []) :: (.tup []) :: (.tup []) :: (.tup []) :: (.tup []) :: (.tup []) :: (.tup []) :: (.tup []) :: (.tup []) :: (.tup []) :: (.tup []) :: (.tup []) :: (.tup []) :: (.tup []) :: (.tup []) :: (.tup []) :: (.tup []) :: (.tup []) :: (.tup []) :: (.tup []) :: (.tup []) :: (.tup []) :: (.tup []) :: (.tup []) :: (.tup []) :: (.tup []) :: (.tup []) :: (.tup []) :: (.tup []) :: (.tup []) :: (.tup []) :: (.tup []) :: (.tup []) :: (.tup []) :: (.tup []) :: []) [] [] _
 conv => arg 2; whnf
 have hk1 : k0 < 300000 := by omega
 have hlt : t.length < 400000 := Nat.lt_of_le_of_lt hS.len (by omega)
 have hlt' : t.length < 1000000 := by omega
 have hgn : (getN t (zJ t o.b).1).names.length < 1000000 := Nat.lt_of_le_of_lt (hS.gnms _) (by omega)
 by_cases h1 : (zF t o.a).2 = 0
 ·by_cases h2 : (getN t (zF t o.a).1).kind = 2
  ·have e : z07 t o = (t, qS 7) := by unfold z07; rw [if_neg (by simp [h1]), if_pos h2]
   simp (maxSteps := 1000000) (disch := first | assumption | omega | rfl) only [↓vmp, gb, strOf_mk, Nat.reduceAdd, vN hS hk1, jP, qP]
   rw [e]
   exact qI rfl rfl (x := .d (qM (qS 7))) (by kernel_rfl) rfl rfl rfl rfl
  ·by_cases h3 : (zJ t o.b).2.2 = 0
   ·by_cases h4 : 0 ≤ qR (getN t (zJ t o.b).1).names (zJ t o.b).2.1
    ·have h4' : qR (getN t (zJ t o.b).1).names (zJ t o.b).2.1 ≥ 0 := h4
     have e : z07 t o = (t, qS 5) := by unfold z07; rw [if_neg (by simp [h1]), if_neg h2, if_neg (by simp [h3]), if_pos h4]
     simp (maxSteps := 1000000) (disch := first | assumption | omega | rfl) only [↓vmp, gb, strOf_mk, Nat.reduceAdd, vN hS hk1, wZ hS hk1, jP, z10, qP]
     rw [e]
     exact qI rfl rfl (x := .d (qM (qS 5))) (by kernel_rfl) rfl rfl rfl rfl
    ·have h4' : ¬ qR (getN t (zJ t o.b).1).names (zJ t o.b).2.1 ≥ 0 := h4
     have e : z07 t o = (putN (qQ t (more (getN t (zF t o.a).1))) (zJ t o.b).1 (zJ t o.b).2.1 (zF t o.a).1, okN) := by unfold z07; rw [if_neg (by simp [h1]), if_neg h2, if_neg (by simp [h3]), if_neg h4]
     have hg := hS.get (zF t o.a).1
     have hmk : SmallN (k0 + 1) (more (getN t (zF t o.a).1)) := ⟨Nat.le_succ_of_le hg.nms, hg.nam, ⟨by have := hg.lnk.1; simp only [more]; omega, by have := hg.lnk.2; simp only [more]; omega⟩, hg.siz⟩
     have hS2 := hS.with hmk
     have hwn : (qQ t (more (getN t (zF t o.a).1))).length < 400000 := Nat.lt_of_le_of_lt hS2.len (by omega)
     have hnl := z1r t o.b
     have hnl' : (zJ t o.b).2.1.length < 1000000 := by omega
     have hgn2 : (getN (qQ t (more (getN t (zF t o.a).1))) (zJ t o.b).1).names.length < 400000 := Nat.lt_of_le_of_lt (hS2.gnms _) (by omega)
     have hgm2 : ∀ e ∈ (getN (qQ t (more (getN t (zF t o.a).1))) (zJ t o.b).1).names, e.name.length < 1000000 := fun e he => Nat.lt_of_le_of_lt (hS2.gnam _ e he) (by omega)
     have hl1 := hg.lnk.1
     have hl2 := hg.lnk.2
     unfold more at hwn hgn2 hgm2 e
     simp (maxSteps := 1000000) (disch := first | assumption | omega | rfl) only [↓vmp, gb, strOf_mk, Nat.reduceAdd, vN hS hk1, wZ hS hk1, jP, z10, z1p, z8e, z2b]
     rw [e]
     exact qI rfl rfl (x := .agg [.d (.int .i64 0), .d (.int .i64 0), .d (.int .i64 0), .d (.int .i64 0), .d (.int .i64 0), .ts [], .ts []]) (by kernel_rfl) rfl rfl rfl rfl
   ·have e : z07 t o = (t, qS (zJ t o.b).2.2) := by unfold z07; rw [if_neg (by simp [h1]), if_neg h2, if_pos h3]
    simp (maxSteps := 1000000) (disch := first | assumption | omega | rfl) only [↓vmp, gb, strOf_mk, Nat.reduceAdd, vN hS hk1, wZ hS hk1, jP, qP]
    rw [e]
    exact qI rfl rfl (x := .d (qM (qS (zJ t o.b).2.2))) (by kernel_rfl) rfl rfl rfl rfl
 ·have e : z07 t o = (t, qS (zF t o.a).2) := by unfold z07; rw [if_pos h1]
  simp (maxSteps := 1000000) (disch := first | assumption | omega | rfl) only [↓vmp, gb, strOf_mk, Nat.reduceAdd, vN hS hk1, qP]
  rw [e]
  exact qI rfl rfl (x := .d (qM (qS (zF t o.a).2))) (by kernel_rfl) rfl rfl rfl rfl
theorem zmc {ops : Array Oper} {dst : Option Tmp} {l : List Oper} {T : List V} {S : zA} {F : Dfs} {Q : Post} {t : List Node} {o : Opn} {k0 : Nat} (hS : Small k0 t) (hk0 : k0 < 200000) (ha : o.a.length < 1000000) (hb : o.b.length < 1000000) :
  WpR cfg ops dst l T S F Q (some (.enter 48 [.d (.sl (t.map zB)), .d (encOpn o)])) = WpL cfg ops l (putT T dst (.tup [.d (.sl ((z07 t o).1.map zB)), .d (qM (z07 t o).2)])) S F Q :=
 qA (ds := [.sl (t.map zB), encOpn o]) rfl (zsp t k0 hk0 hS o ha hb)
end Go.Proofs.Ytghllhghboaagaa
end
section
namespace Go.Vm
theorem vgd :
 (∀ {a x : V} {r : List V}, (a :: r).getD 0 x = a) ∧
 (∀ {a b x : V} {r : List V}, (a :: b :: r).getD 1 x = b) ∧
 (∀ {a b c x : V} {r : List V}, (a :: b :: c :: r).getD 2 x = c) ∧
 (∀ {a b c d x : V} {r : List V}, (a :: b :: c :: d :: r).getD 3 x = d) ∧
 (∀ {a b c d e x : V} {r : List V}, (a :: b :: c :: d :: e :: r).getD 4 x = e) ∧
 (∀ {a b c d e f x : V} {r : List V}, (a :: b :: c :: d :: e :: f :: r).getD 5 x = f) ∧
 (∀ {a b c d e f g x : V} {r : List V}, (a :: b :: c :: d :: e :: f :: g :: r).getD 6 x = g) ∧
 (∀ {a b c d e f g h x : V} {r : List V}, (a :: b :: c :: d :: e :: f :: g :: h :: r).getD 7 x = h) ∧
 (∀ {a b c d e f g h x : V} {r : List V} {n : Nat}, (a :: b :: c :: d :: e :: f :: g :: h :: r).getD (n + 8) x = r.getD n x) ∧
 (∀ {a b c d e f g h a1 b1 c1 d1 e1 f1 g1 h1 x : V} {r : List V} {n : Nat}, (a :: b :: c :: d :: e :: f :: g :: h :: a1 :: b1 :: c1 :: d1 :: e1 :: f1 :: g1 :: h1 :: r).getD (n + 16) x = r.getD n x) ∧
 (∀ {a b c d e f g h a1 b1 c1 d1 e1 f1 g1 h1 a2 b2 c2 d2 e2 f2 g2 h2 a3 b3 c3 d3 e3 f3 g3 h3 x : V} {r : List V} {n : Nat}, (a :: b :: c :: d :: e :: f :: g :: h :: a1 :: b1 :: c1 :: d1 :: e1 :: f1 :: g1 :: h1 :: a2 :: b2 :: c2 :: d2 :: e2 :: f2 :: g2 :: h2 :: a3 :: b3 :: c3 :: d3 :: e3 :: f3 :: g3 :: h3 :: r).getD (n + 32) x = r.getD n x) ∧
 (∀ {a b c d e f g h a1 b1 c1 d1 e1 f1 g1 h1 a2 b2 c2 d2 e2 f2 g2 h2 a3 b3 c3 d3 e3 f3 g3 h3 a4 b4 c4 d4 e4 f4 g4 h4 a5 b5 c5 d5 e5 f5 g5 h5 a6 b6 c6 d6 e6 f6 g6 h6 a7 b7 c7 d7 e7 f7 g7 h7 x : V} {r : List V} {n : Nat}, (a :: b :: c :: d :: e :: f :: g :: h :: a1 :: b1 :: c1 :: d1 :: e1 :: f1 :: g1 :: h1 :: a2 :: b2 :: c2 :: d2 :: e2 :: f2 :: g2 :: h2 :: a3 :: b3 :: c3 :: d3 :: e3 :: f3 :: g3 :: h3 :: a4 :: b4 :: c4 :: d4 :: e4 :: f4 :: g4 :: h4 :: a5 :: b5 :: c5 :: d5 :: e5 :: f5 :: g5 :: h5 :: a6 :: b6 :: c6 :: d6 :: e6 :: f6 :: g6 :: h6 :: a7 :: b7 :: c7 :: d7 :: e7 :: f7 :: g7 :: h7 :: r).getD (n + 64) x = r.getD n x) :=
 ⟨rfl, rfl, rfl, rfl, rfl, rfl, rfl, rfl, rfl, rfl, rfl, rfl⟩
theorem vst :
 (∀ {a x : V} {r : List V}, (a :: r).set 0 x = x :: r) ∧
 (∀ {a b x : V} {r : List V}, (a :: b :: r).set 1 x = a :: x :: r) ∧
 (∀ {a b c x : V} {r : List V}, (a :: b :: c :: r).set 2 x = a :: b :: x :: r) ∧
 (∀ {a b c d x : V} {r : List V}, (a :: b :: c :: d :: r).set 3 x = a :: b :: c :: x :: r) ∧
 (∀ {a b c d e x : V} {r : List V}, (a :: b :: c :: d :: e :: r).set 4 x = a :: b :: c :: d :: x :: r) ∧
 (∀ {a b c d e f x : V} {r : List V}, (a :: b :: c :: d :: e :: f :: r).set 5 x = a :: b :: c :: d :: e :: x :: r) ∧
 (∀ {a b c d e f g x : V} {r : List V}, (a :: b :: c :: d :: e :: f :: g :: r).set 6 x = a :: b :: c :: d :: e :: f :: x :: r) ∧
 (∀ {a b c d e f g h x : V} {r : List V}, (a :: b :: c :: d :: e :: f :: g :: h :: r).set 7 x = a :: b :: c :: d :: e :: f :: g :: x :: r) ∧
 (∀ {a b c d e f g h x : V} {r : List V} {n : Nat}, (a :: b :: c :: d :: e :: f :: g :: h :: r).set (n + 8) x = a :: b :: c :: d :: e :: f :: g :: h :: r.set n x) ∧
 (∀ {a b c d e f g h a1 b1 c1 d1 e1 f1 g1 h1 x : V} {r : List V} {n : Nat}, (a :: b :: c :: d :: e :: f :: g :: h :: a1 :: b1 :: c1 :: d1 :: e1 :: f1 :: g1 :: h1 :: r).set (n + 16) x = a :: b :: c :: d :: e :: f :: g :: h :: a1 :: b1 :: c1 :: d1 :: e1 :: f1 :: g1 :: h1 :: r.set n x) ∧
 (∀ {a b c d e f g h a1 b1 c1 d1 e1 f1 g1 h1 a2 b2 c2 d2 e2 f2 g2 h2 a3 b3 c3 d3 e3 f3 g3 h3 x : V} {r : List V} {n : Nat}, (a :: b :: c :: d :: e :: f :: g :: h :: a1 :: b1 :: c1 :: d1 :: e1 :: f1 :: g1 :: h1 :: a2 :: b2 :: c2 :: d2 :: e2 :: f2 :: g2 :: h2 :: a3 :: b3 :: c3 :: d3 :: e3 :: f3 :: g3 :: h3 :: r).set (n + 32) x = a :: b :: c :: d :: e :: f :: g :: h :: a1 :: b1 :: c1 :: d1 :: e1 :: f1 :: g1 :: h1 :: a2 :: b2 :: c2 :: d2 :: e2 :: f2 :: g2 :: h2 :: a3 :: b3 :: c3 :: d3 :: e3 :: f3 :: g3 :: h3 :: r.set n x) ∧
 (∀ {a b c d e f g h a1 b1 c1 d1 e1 f1 g1 h1 a2 b2 c2 d2 e2 f2 g2 h2 a3 b3 c3 d3 e3 f3 g3 h3 a4 b4 c4 d4 e4 f4 g4 h4 a5 b5 c5 d5 e5 f5 g5 h5 a6 b6 c6 d6 e6 f6 g6 h6 a7 b7 c7 d7 e7 f7 g7 h7 x : V} {r : List V} {n : Nat}, (a :: b :: c :: d :: e :: f :: g :: h :: a1 :: b1 :: c1 :: d1 :: e1 :: f1 :: g1 :: h1 :: a2 :: b2 :: c2 :: d2 :: e2 :: f2 :: g2 :: h2 :: a3 :: b3 :: c3 :: d3 :: e3 :: f3 :: g3 :: h3 :: a4 :: b4 :: c4 :: d4 :: e4 :: f4 :: g4 :: h4 :: a5 :: b5 :: c5 :: d5 :: e5 :: f5 :: g5 :: h5 :: a6 :: b6 :: c6 :: d6 :: e6 :: f6 :: g6 :: h6 :: a7 :: b7 :: c7 :: d7 :: e7 :: f7 :: g7 :: h7 :: r).set (n + 64) x = a :: b :: c :: d :: e :: f :: g :: h :: a1 :: b1 :: c1 :: d1 :: e1 :: f1 :: g1 :: h1 :: a2 :: b2 :: c2 :: d2 :: e2 :: f2 :: g2 :: h2 :: a3 :: b3 :: c3 :: d3 :: e3 :: f3 :: g3 :: h3 :: a4 :: b4 :: c4 :: d4 :: e4 :: f4 :: g4 :: h4 :: a5 :: b5 :: c5 :: d5 :: e5 :: f5 :: g5 :: h5 :: a6 :: b6 :: c6 :: d6 :: e6 :: f6 :: g6 :: h6 :: a7 :: b7 :: c7 :: d7 :: e7 :: f7 :: g7 :: h7 :: r.set n x) :=
 ⟨rfl, rfl, rfl, rfl, rfl, rfl, rfl, rfl, rfl, rfl, rfl, rfl⟩
theorem vix :
 (∀ {a : V} {r : List V}, (a :: r)[0]? = some a) ∧
 (∀ {a b : V} {r : List V}, (a :: b :: r)[1]? = some b) ∧
 (∀ {a b c : V} {r : List V}, (a :: b :: c :: r)[2]? = some c) ∧
 (∀ {a b c d : V} {r : List V}, (a :: b :: c :: d :: r)[3]? = some d) ∧
 (∀ {a b c d e : V} {r : List V}, (a :: b :: c :: d :: e :: r)[4]? = some e) ∧
 (∀ {a b c d e f : V} {r : List V}, (a :: b :: c :: d :: e :: f :: r)[5]? = some f) ∧
 (∀ {a b c d e f g : V} {r : List V}, (a :: b :: c :: d :: e :: f :: g :: r)[6]? = some g) ∧
 (∀ {a b c d e f g h : V} {r : List V}, (a :: b :: c :: d :: e :: f :: g :: h :: r)[7]? = some h) ∧
 (∀ {a b c d e f g h : V} {r : List V} {n : Nat}, (a :: b :: c :: d :: e :: f :: g :: h :: r)[n + 8]? = r[n]?) ∧
 (∀ {a b c d e f g h a1 b1 c1 d1 e1 f1 g1 h1 : V} {r : List V} {n : Nat}, (a :: b :: c :: d :: e :: f :: g :: h :: a1 :: b1 :: c1 :: d1 :: e1 :: f1 :: g1 :: h1 :: r)[n + 16]? = r[n]?) ∧
 (∀ {a b c d e f g h a1 b1 c1 d1 e1 f1 g1 h1 a2 b2 c2 d2 e2 f2 g2 h2 a3 b3 c3 d3 e3 f3 g3 h3 : V} {r : List V} {n : Nat}, (a :: b :: c :: d :: e :: f :: g :: h :: a1 :: b1 :: c1 :: d1 :: e1 :: f1 :: g1 :: h1 :: a2 :: b2 :: c2 :: d2 :: e2 :: f2 :: g2 :: h2 :: a3 :: b3 :: c3 :: d3 :: e3 :: f3 :: g3 :: h3 :: r)[n + 32]? = r[n]?) ∧
 (∀ {a b c d e f g h a1 b1 c1 d1 e1 f1 g1 h1 a2 b2 c2 d2 e2 f2 g2 h2 a3 b3 c3 d3 e3 f3 g3 h3 a4 b4 c4 d4 e4 f4 g4 h4 a5 b5 c5 d5 e5 f5 g5 h5 a6 b6 c6 d6 e6 f6 g6 h6 a7 b7 c7 d7 e7 f7 g7 h7 : V} {r : List V} {n : Nat}, (a :: b :: c :: d :: e :: f :: g :: h :: a1 :: b1 :: c1 :: d1 :: e1 :: f1 :: g1 :: h1 :: a2 :: b2 :: c2 :: d2 :: e2 :: f2 :: g2 :: h2 :: a3 :: b3 :: c3 :: d3 :: e3 :: f3 :: g3 :: h3 :: a4 :: b4 :: c4 :: d4 :: e4 :: f4 :: g4 :: h4 :: a5 :: b5 :: c5 :: d5 :: e5 :: f5 :: g5 :: h5 :: a6 :: b6 :: c6 :: d6 :: e6 :: f6 :: g6 :: h6 :: a7 :: b7 :: c7 :: d7 :: e7 :: f7 :: g7 :: h7 :: r)[n + 64]? = r[n]?) :=
 ⟨rfl, rfl, rfl, rfl, rfl, rfl, rfl, rfl, rfl, rfl, rfl, rfl⟩
end Go.Vm
end
section
namespace Go.Proofs.Ytghllhghboaagaa
open Go.Vm
def gc := And.intro gb @strOf_mk
def gq := And.intro @vgd <| And.intro @vst @vix
def gp := And.intro @vmp gq
def gd := And.intro @vmd <| And.intro @vmk <| And.intro @vmo vmg
def wA (t : List Node) (o : Opn) : List Node × Ans :=
 if (zJ t o.a).2.2 ≠ 0 then (t, qS (zJ t o.a).2.2)
 else if qR (getN t (zJ t o.a).1).names (zJ t o.a).2.1 < 0 then (t, qS 4)
 else if o.does = 4 ∧ (getN t (qR (getN t (zJ t o.a).1).names (zJ t o.a).2.1)).kind = 2 then (t, qS 7)
 else if o.does = 5 ∧ (getN t (qR (getN t (zJ t o.a).1).names (zJ t o.a).2.1)).kind ≠ 2 then (t, qS 6)
 else if o.does = 5 ∧ 0 < (getN t (qR (getN t (zJ t o.a).1).names (zJ t o.a).2.1)).names.length then (t, qS 8)
 else (jM (zT t (zJ t o.a).1 (zJ t o.a).2.1) (qR (getN t (zJ t o.a).1).names (zJ t o.a).2.1), okN)
theorem zkz (t : List Node) (k0 : Nat) (hk0 : k0 < 200000) (hS : Small k0 t) (o : Opn) (ha : o.a.length < 1000000) : Ev cfg 49 [.sl (t.map zB), encOpn o] (.ret (.tup [.d (.sl ((wA t o).1.map zB)), .d (qM (wA t o).2)])) := by
 refine wJ rfl rfl zvb ?_
 show Wp cfg (Try.f49.body.getD .skip) ((.d (.sl (t.map zB))) :: (.d (encOpn o)) :: (.tup []) :: (.tup []) :: (.tup []) :: (.tup []) :: (.tup []) :: (.tup []) :: (.tup []) :: (.tup []) :: (.tup []) :: (.tup []) :: (.tup []) :: (.tup []) :: (.tup []) :: (.tup []) :: (.tup []) :: (.tup []) :: (.tup []) :: (.tup []) :: (.tup []) :: (.tup []) :: (.tup []) :: (.tup []) :: (.tup []) :: (.tup []) :: (.tup []) :: (.tup []) :: (.tup []) :: (.tup []) :: (.tup []) :: (.tup []) :: (.tup []) :: (.tup []) :: (.tup []) :: (.tup []) :: (.tup []) :: (.tup []) :: (.tup []) :: (.tup []) :: (.tup []) :: (.tup []) :: (.tup []) :: (.tup []) :: (.tup []) :: (.tup []) :: (.tup []) :: (.tup []) :: (.tup []) :: (.tup []) :: (.tup []) :: (.tup []) :: (.tup []) :: (.tup []) :: (.tup []) :: (.tup []) :: (.tup []) :: (.tup []) :: (.tup []) :: (.tup []) :: (.tup []) :: (.tup []) :: (.tup []) :: (.tup []) :: (.tup []) :: (.tup []) :: (.tup []) :: (.tup []) :: (.tup []) :: (.tup []) :: (.tup []) :: (.tup []) :: (.tup []) :: (.tup []) :: []) [] [] _
 conv => arg 2; whnf
 have hk1 : k0 < 300000 := by omega
 have hlt : t.length < 400000 := Nat.lt_of_le_of_lt hS.len (by omega)
 have hlt' : t.length < 1000000 := by omega
 simp (maxSteps := 1000000) (disch := first | assumption | omega | rfl) only [↓gp, gc, Nat.reduceAdd, wZ hS hk1]
 generalize hr : wA t o = r
 unfold wA at hr
 generalize zJ t o.a = w at hr ⊢
 obtain ⟨d, s, e⟩ := w
 simp only at hr
 have hgn : (getN t d).names.length < 1000000 := Nat.lt_of_le_of_lt (hS.gnms _) (by omega)
 have hgn' : (getN t d).names.length < 400000 := Nat.lt_of_le_of_lt (hS.gnms _) (by omega)
 by_cases h1 : e = 0
 ·simp (maxSteps := 1000000) (disch := first | assumption | omega | rfl) only [↓gp, gc, Nat.reduceAdd, jP, z10]
  rw [if_neg (by simp [h1])] at hr
  generalize qR (getN t d).names s = ino at hr ⊢
  have hS2 := hS.drop (dir := d) (s := s)
  have hdl : (zT t d s).length < 400000 := Nat.lt_of_le_of_lt hS2.len (by omega)
  have hl1 : -1000000 ≤ (getN (zT t d s) ino).links := by have := (hS2.glnk ino).1; omega
  have hl2 : (getN (zT t d s) ino).links ≤ 1000000 := by have := (hS2.glnk ino).2; omega
  by_cases h2 : ino < 0
  ·skip
   simp (maxSteps := 1000000) (disch := first | assumption | omega | rfl) only [↓gp, gc, Nat.reduceAdd, qP]
   rw [if_pos h2] at hr
   subst hr
   exact qI rfl rfl (x := .d (qM (qS 4))) (by kernel_rfl) rfl rfl rfl rfl
  ·simp (maxSteps := 1000000) (disch := first | assumption | omega | rfl) only [↓gp, gc, Nat.reduceAdd, jP]
   rw [if_neg h2] at hr
   by_cases d4 : o.does = 4
   ·have d5 : ¬ o.does = 5 := by omega
    by_cases k2 : (getN t ino).kind = 2
    ·skip
     simp (maxSteps := 1000000) (disch := first | assumption | omega | rfl) only [↓gp, gc, Nat.reduceAdd, qP]
     rw [if_pos ⟨d4, k2⟩] at hr
     subst hr
     exact qI rfl rfl (x := .d (qM (qS 7))) (by kernel_rfl) rfl rfl rfl rfl
    ·skip
     simp (maxSteps := 1000000) (disch := first | assumption | omega | rfl) only [↓gp, gc, Nat.reduceAdd, z2y, z4s, z2b]
     rw [if_neg (fun h => k2 h.2), if_neg (fun h => d5 h.1), if_neg (fun h => d5 h.1)] at hr
     subst hr
     exact qI rfl rfl (x := .agg [.d (.int .i64 0), .d (.int .i64 0), .d (.int .i64 0), .d (.int .i64 0), .d (.int .i64 0), .ts [], .ts []]) (by kernel_rfl) rfl rfl rfl rfl
   ·by_cases d5 : o.does = 5
    ·simp (maxSteps := 1000000) (disch := first | assumption | omega | rfl) only [↓gp, gc, Nat.reduceAdd]
     rw [if_neg (fun h => d4 h.1)] at hr
     by_cases k2 : (getN t ino).kind = 2
     ·simp (maxSteps := 1000000) (disch := first | assumption | omega | rfl) only [↓gp, gc, Nat.reduceAdd]
      rw [if_neg (fun h => h.2 k2)] at hr
      by_cases z : (getN t ino).names.length > 0
      ·skip
       simp (maxSteps := 1000000) (disch := first | assumption | omega | rfl) only [↓gp, gc, Nat.reduceAdd, qP]
       rw [if_pos ⟨d5, z⟩] at hr
       subst hr
       exact qI rfl rfl (x := .d (qM (qS 8))) (by kernel_rfl) rfl rfl rfl rfl
      ·skip
       simp (maxSteps := 1000000) (disch := first | assumption | omega | rfl) only [↓gp, gc, Nat.reduceAdd, z2y, z4s, z2b]
       rw [if_neg (fun h => z h.2)] at hr
       subst hr
       exact qI rfl rfl (x := .agg [.d (.int .i64 0), .d (.int .i64 0), .d (.int .i64 0), .d (.int .i64 0), .d (.int .i64 0), .ts [], .ts []]) (by kernel_rfl) rfl rfl rfl rfl
     ·skip
      simp (maxSteps := 1000000) (disch := first | assumption | omega | rfl) only [↓gp, gc, Nat.reduceAdd, qP]
      rw [if_pos ⟨d5, k2⟩] at hr
      subst hr
      exact qI rfl rfl (x := .d (qM (qS 6))) (by kernel_rfl) rfl rfl rfl rfl
    ·skip
     simp (maxSteps := 1000000) (disch := first | assumption | omega | rfl) only [↓gp, gc, Nat.reduceAdd, z2y, z4s, z2b]
     rw [if_neg (fun h => d4 h.1), if_neg (fun h => d5 h.1), if_neg (fun h => d5 h.1)] at hr
     subst hr
     exact qI rfl rfl (x := .agg [.d (.int .i64 0), .d (.int .i64 0), .d (.int .i64 0), .d (.int .i64 0), .d (.int .i64 0), .ts [], .ts []]) (by kernel_rfl) rfl rfl rfl rfl
 ·skip
  simp (maxSteps := 1000000) (disch := first | assumption | omega | rfl) only [↓gp, gc, Nat.reduceAdd, qP]
  rw [if_pos h1] at hr
  subst hr
  exact qI rfl rfl (x := .d (qM (qS e))) (by kernel_rfl) rfl rfl rfl rfl
theorem zfl {ops : Array Oper} {dst : Option Tmp} {l : List Oper} {T : List V} {S : zA} {F : Dfs} {Q : Post} {t : List Node} {o : Opn} {k0 : Nat} (hS : Small k0 t) (hk0 : k0 < 200000) (ha : o.a.length < 1000000) :
  WpR cfg ops dst l T S F Q (some (.enter 49 [.d (.sl (t.map zB)), .d (encOpn o)])) = WpL cfg ops l (putT T dst (.tup [.d (.sl ((wA t o).1.map zB)), .d (qM (wA t o).2)])) S F Q :=
 qA (ds := [.sl (t.map zB), encOpn o]) rfl (zkz t k0 hk0 hS o ha)
end Go.Proofs.Ytghllhghboaagaa
end
section
namespace Go.Proofs.Ytghllhghboaagaa
open Go.Vm
def moved (n : Node) (p : Int) : Node := ⟨n.ino, n.kind, n.links, p, n.size, n.data, n.names⟩
def renamed (t : List Node) (f : Int) (old : List UInt8) (d : Int) (s : List UInt8) (ino was kind : Int) : List Node :=
 let t1 := if 0 ≤ was then jM (zT t d s) was else t
 let t2 := putN (zT t1 f old) d s ino
 if kind = 2 then qQ t2 (moved (getN t2 ino) d) else t2
def z46 (t : List Node) (f : Int) (old : List UInt8) (ino : Int) (d : Int) (s : List UInt8) (was : Int) : List Node × Ans :=
 if was = ino then (t, okN)
 else if (getN t ino).kind = 2 ∧ wL t ino (t.length + 1) d = true then (t, qS 9)
 else if 0 ≤ was ∧ (getN t ino).kind = 2 then (t, qS 5)
 else if 0 ≤ was ∧ (getN t was).kind = 2 then (t, qS 7)
 else (renamed t f old d s ino was (getN t ino).kind, okN)
def kZ (t : List Node) (o : Opn) : List Node × Ans :=
 if (zJ t o.a).2.2 ≠ 0 then (t, qS (zJ t o.a).2.2)
 else if qR (getN t (zJ t o.a).1).names (zJ t o.a).2.1 < 0 then (t, qS 4)
 else if (zJ t o.b).2.2 ≠ 0 then (t, qS (zJ t o.b).2.2)
 else z46 t (zJ t o.a).1 (zJ t o.a).2.1 (qR (getN t (zJ t o.a).1).names (zJ t o.a).2.1) (zJ t o.b).1 (zJ t o.b).2.1 (qR (getN t (zJ t o.b).1).names (zJ t o.b).2.1)
theorem zkv (t : List Node) (k0 : Nat) (hk0 : k0 < 200000) (hS : Small k0 t) (o : Opn) (ha : o.a.length < 1000000) (hb : o.b.length < 1000000) : Ev cfg 50 [.sl (t.map zB), encOpn o] (.ret (.tup [.d (.sl ((kZ t o).1.map zB)), .d (qM (kZ t o).2)])) := by
 refine wJ rfl rfl zw7 ?_
 show Wp cfg (Try.f50.body.getD .skip) ((.d (.sl (t.map zB))) :: (.d (encOpn o)) :: (.tup []) :: (.tup []) :: (.tup []) :: (.tup []) :: (.tup []) :: (.tup []) :: (.tup []) :: (.tup []) :: (.tup []) :: (.tup []) :: (.tup []) :: (.tup []) :: (.tup []) :: (.tup []) :: (.tup []) :: (.tup []) :: (.tup []) :: (.tup []) :: (.tup []) :: (.tup []) :: (.tup []) :: (.tup []) :: (.tup []) :: (.tup []) :: (.tup []) :: (.tup []) :: (.tup []) :: (.tup []) :: (.tup []) :: (.tup []) :: (.tup []) :: (.tup []) :: (.tup []) :: (.tup []) :: (.tup []) :: (.tup []) :: (.tup []) :: (.tup []) :: (.tup []) :: (.tup []) :: (.tup []) :: (.tup []) :: (.tup []) :: (.tup []) :: (.tup []) :: (.tup []) :: (.tup []) :: (.tup []) :: (.tup []) :: (.tup []) :: (.tup []) :: (.tup []) :: (.tup []) :: (.tup []) :: (.tup []) :: (.tup []) :: (.tup []) :: (.tup []) :: (.tup []) :: (.tup []) :: (.tup []) :: (.tup []) :: (.tup []) :: (.tup []) :: (.tup []) :: (.tup []) :: (.tup []) :: (.tup []) :: (.tup []) :: (.tup []) :: (.tup []) :: (.tup []) :: (.tup []) :: (.tup []) :: (.tup []) :: (.tup []) :: (.tup []) :: (.tup []) :: (.tup []) :: (.tup []) :: (.tup []) :: (.tup []) :: (.tup []) :: (.tup []) :: (.tup []) :: (.tup []) :: (.tup []) :: (.tup []) :: (.tup []) :: (.tup []) :: (.tup []) :: (.tup []) :: (.tup []) :: (.tup []) :: (.tup []) :: (.tup []) :: (.tup []) :: (.tup []) :: (.tup []) :: (.tup []) :: (.tup []) :: (.tup []) :: (.tup []) :: (.tup []) :: (.tup []) :: (.tup []) :: (.tup []) :: (.tup []) :: (.tup []) :: (.tup []) :: (.tup []) :: (.tup []) :: (.tup []) :: (.tup []) :: (.tup []) :: (.tup []) :: (.tup []) :: (.tup []) :: (.tup []) :: (.tup []) :: (.tup []) :: (.tup []) :: (.tup []) :: (.tup []) :: []) [] [] _
 conv => arg 2; whnf
 have hk1 : k0 < 300000 := by omega
 have hlt : t.length < 400000 := Nat.lt_of_le_of_lt hS.len (by omega)
 have hlt' : t.length < 1000000 := by omega
 have hln := z1r t o.b
 simp (maxSteps := 1000000) (disch := first | assumption | omega | rfl) only [↓gp, gc, Nat.reduceAdd, wZ hS hk1]
 generalize hr : kZ t o = r
 unfold kZ at hr
 generalize zJ t o.a = w at hr ⊢
 obtain ⟨f, old, e⟩ := w
 simp only at hr
 have hgf : (getN t f).names.length < 1000000 := Nat.lt_of_le_of_lt (hS.gnms _) (by omega)
 by_cases h1 : e = 0
 ·simp (maxSteps := 1000000) (disch := first | assumption | omega | rfl) only [↓gp, gc, Nat.reduceAdd, jP, z10]
  rw [if_neg (by simp [h1])] at hr
  generalize qR (getN t f).names old = ino at hr ⊢
  by_cases h2 : ino < 0
  ·skip
   simp (maxSteps := 1000000) (disch := first | assumption | omega | rfl) only [↓gp, gc, Nat.reduceAdd, qP]
   rw [if_pos h2] at hr
   subst hr
   exact qI rfl rfl (x := .d (qM (qS 4))) (by kernel_rfl) rfl rfl rfl rfl
  ·simp (maxSteps := 1000000) (disch := first | assumption | omega | rfl) only [↓gp, gc, Nat.reduceAdd, wZ hS hk1]
   rw [if_neg h2] at hr
   generalize zJ t o.b = w at hr hln ⊢
   obtain ⟨d, s, e2⟩ := w
   simp only at hr hln
   have hgd : (getN t d).names.length < 1000000 := Nat.lt_of_le_of_lt (hS.gnms _) (by omega)
   by_cases h3 : e2 = 0
   ·simp (maxSteps := 1000000) (disch := first | assumption | omega | rfl) only [↓gp, gc, Nat.reduceAdd, jP, z10]
    rw [if_neg (by simp [h3])] at hr
    generalize qR (getN t d).names s = was at hr ⊢
    unfold z46 at hr
    by_cases h4 : was = ino
    ·simp (maxSteps := 1000000) (disch := first | assumption | omega | rfl) only [↓gp, gc, Nat.reduceAdd, z2b]
     rw [if_pos h4] at hr
     subst hr
     exact qI rfl rfl (x := .agg [.d (.int .i64 0), .d (.int .i64 0), .d (.int .i64 0), .d (.int .i64 0), .d (.int .i64 0), .ts [], .ts []]) (by kernel_rfl) rfl rfl rfl rfl
    ·simp (maxSteps := 1000000) (disch := first | assumption | omega | rfl) only [↓gp, gc, Nat.reduceAdd, jP]
     rw [if_neg h4] at hr
     have hsl : s.length < 1000000 := by omega
     have hgd4 : (getN t d).names.length < 400000 := Nat.lt_of_le_of_lt (hS.gnms _) (by omega)
     have hgf4 : (getN t f).names.length < 400000 := Nat.lt_of_le_of_lt (hS.gnms _) (by omega)
     by_cases k : (getN t ino).kind = 2
     ·simp (maxSteps := 1000000) (disch := first | assumption | omega | rfl) only [↓gp, gc, Nat.reduceAdd, zj8]
      cases hbl : wL t ino (t.length + 1) d with
      | true =>
       simp (maxSteps := 1000000) (disch := first | assumption | omega | rfl) only [↓gp, gc, Nat.reduceAdd, qP]
       rw [if_pos ⟨k, hbl⟩] at hr
       subst hr
       exact qI rfl rfl (x := .d (qM (qS 9))) (by kernel_rfl) rfl rfl rfl rfl
      | false =>
       simp (maxSteps := 1000000) (disch := first | assumption | omega | rfl) only [↓gp, gc, Nat.reduceAdd]
       rw [if_neg (fun h => by rw [hbl] at h; exact Bool.noConfusion h.2)] at hr
       by_cases w : was ≥ 0
       ·skip
        simp (maxSteps := 1000000) (disch := first | assumption | omega | rfl) only [↓gp, gc, Nat.reduceAdd, qP]
        rw [if_pos ⟨w, k⟩] at hr
        subst hr
        exact qI rfl rfl (x := .d (qM (qS 5))) (by kernel_rfl) rfl rfl rfl rfl
       ·rw [if_neg (fun h => w h.1), if_neg (fun h => w h.1)] at hr
        simp only [renamed, if_neg w, if_pos k] at hr
        have hS2 := hS.drop (dir := f) (s := old)
        have hl2 : (zT t f old).length < 400000 := Nat.lt_of_le_of_lt hS2.len (by omega)
        have hn2 : (getN (zT t f old) d).names.length < 400000 := Nat.lt_of_le_of_lt (hS2.gnms _) (by omega)
        have hm2 : ∀ e ∈ (getN (zT t f old) d).names, e.name.length < 1000000 := fun e he => Nat.lt_of_le_of_lt (hS2.gnam _ e he) (by omega)
        have hS3 := hS2.put (dir := d) (s := s) (ino := ino) (by omega)
        have hl3 : (putN (zT t f old) d s ino).length < 400000 := Nat.lt_of_le_of_lt hS3.len (by omega)
        have hl3' : (putN (zT t f old) d s ino).length < 1000000 := by omega
        simp (maxSteps := 1000000) (disch := first | assumption | omega | rfl) only [↓gp, gc, Nat.reduceAdd, z2y, z8e, jP, z1p, z2b]
        subst hr
        exact qI rfl rfl (x := .agg [.d (.int .i64 0), .d (.int .i64 0), .d (.int .i64 0), .d (.int .i64 0), .d (.int .i64 0), .ts [], .ts []]) (by kernel_rfl) rfl rfl rfl rfl
     ·simp (maxSteps := 1000000) (disch := first | assumption | omega | rfl) only [↓gp, gc, Nat.reduceAdd]
      rw [if_neg (fun h => k h.1), if_neg (fun h => k h.2)] at hr
      by_cases w : was ≥ 0
      ·simp (maxSteps := 1000000) (disch := first | assumption | omega | rfl) only [↓gp, gc, Nat.reduceAdd]
       by_cases m : (getN t was).kind = 2
       ·skip
        simp (maxSteps := 1000000) (disch := first | assumption | omega | rfl) only [↓gp, gc, Nat.reduceAdd, qP]
        rw [if_pos ⟨w, m⟩] at hr
        subst hr
        exact qI rfl rfl (x := .d (qM (qS 7))) (by kernel_rfl) rfl rfl rfl rfl
       ·rw [if_neg (fun h => m h.2)] at hr
        simp only [renamed, if_pos w, if_neg k] at hr
        have hS0 := hS.drop (dir := d) (s := s)
        have hl0 : (zT t d s).length < 400000 := Nat.lt_of_le_of_lt hS0.len (by omega)
        have hk1' : -1000000 ≤ (getN (zT t d s) was).links := by have := (hS0.glnk was).1; omega
        have hk2' : (getN (zT t d s) was).links ≤ 1000000 := by have := (hS0.glnk was).2; omega
        have hS1 := hS0.loses (ino := was)
        have hl1 : (jM (zT t d s) was).length < 400000 := Nat.lt_of_le_of_lt hS1.len (by omega)
        have hn1 : (getN (jM (zT t d s) was) f).names.length < 400000 := Nat.lt_of_le_of_lt (hS1.gnms _) (by omega)
        have hS2 := hS1.drop (dir := f) (s := old)
        have hl2 : (zT (jM (zT t d s) was) f old).length < 400000 := Nat.lt_of_le_of_lt hS2.len (by omega)
        have hn2 : (getN (zT (jM (zT t d s) was) f old) d).names.length < 400000 := Nat.lt_of_le_of_lt (hS2.gnms _) (by omega)
        have hm2 : ∀ e ∈ (getN (zT (jM (zT t d s) was) f old) d).names, e.name.length < 1000000 := fun e he => Nat.lt_of_le_of_lt (hS2.gnam _ e he) (by omega)
        simp (maxSteps := 1000000) (disch := first | assumption | omega | rfl) only [↓gp, gc, Nat.reduceAdd, z2y, z8e, z4s, z2b]
        subst hr
        exact qI rfl rfl (x := .agg [.d (.int .i64 0), .d (.int .i64 0), .d (.int .i64 0), .d (.int .i64 0), .d (.int .i64 0), .ts [], .ts []]) (by kernel_rfl) rfl rfl rfl rfl
      ·rw [if_neg (fun h => w h.1)] at hr
       simp only [renamed, if_neg w, if_neg k] at hr
       have hS2 := hS.drop (dir := f) (s := old)
       have hl2 : (zT t f old).length < 400000 := Nat.lt_of_le_of_lt hS2.len (by omega)
       have hn2 : (getN (zT t f old) d).names.length < 400000 := Nat.lt_of_le_of_lt (hS2.gnms _) (by omega)
       have hm2 : ∀ e ∈ (getN (zT t f old) d).names, e.name.length < 1000000 := fun e he => Nat.lt_of_le_of_lt (hS2.gnam _ e he) (by omega)
       simp (maxSteps := 1000000) (disch := first | assumption | omega | rfl) only [↓gp, gc, Nat.reduceAdd, z2y, z8e, z2b]
       subst hr
       exact qI rfl rfl (x := .agg [.d (.int .i64 0), .d (.int .i64 0), .d (.int .i64 0), .d (.int .i64 0), .d (.int .i64 0), .ts [], .ts []]) (by kernel_rfl) rfl rfl rfl rfl
   ·skip
    simp (maxSteps := 1000000) (disch := first | assumption | omega | rfl) only [↓gp, gc, Nat.reduceAdd, qP]
    rw [if_pos h3] at hr
    subst hr
    exact qI rfl rfl (x := .d (qM (qS e2))) (by kernel_rfl) rfl rfl rfl rfl
 ·skip
  simp (maxSteps := 1000000) (disch := first | assumption | omega | rfl) only [↓gp, gc, Nat.reduceAdd, qP]
  rw [if_pos h1] at hr
  subst hr
  exact qI rfl rfl (x := .d (qM (qS e))) (by kernel_rfl) rfl rfl rfl rfl
theorem zfu {ops : Array Oper} {dst : Option Tmp} {l : List Oper} {T : List V} {S : zA} {F : Dfs} {Q : Post} {t : List Node} {o : Opn} {k0 : Nat} (hS : Small k0 t) (hk0 : k0 < 200000) (ha : o.a.length < 1000000) (hb : o.b.length < 1000000) :
  WpR cfg ops dst l T S F Q (some (.enter 50 [.d (.sl (t.map zB)), .d (encOpn o)])) = WpL cfg ops l (putT T dst (.tup [.d (.sl ((kZ t o).1.map zB)), .d (qM (kZ t o).2)])) S F Q :=
 qA (ds := [.sl (t.map zB), encOpn o]) rfl (zkv t k0 hk0 hS o ha hb)
end Go.Proofs.Ytghllhghboaagaa
end
section
namespace Go.Vm
open Go
theorem vso :
 (∀ {a : Ob} {l : zA}, (a :: l)[0]? = some a) ∧
 (∀ {a : Ob} {l : zA} {n : Nat}, (a :: l)[n + 1]? = l[n]?) ∧
 (∀ {a b : Ob} {l : zA}, (a :: l).set 0 b = b :: l) ∧
 (∀ {a b : Ob} {l : zA} {n : Nat}, (a :: l).set (n + 1) b = a :: l.set n b) ∧
 (∀ {n : Nat}, List.replicate (n + 1) Ob.hole = .hole :: List.replicate n .hole) ∧
 (List.replicate 0 Ob.hole = []) :=
 ⟨rfl, rfl, rfl, rfl, rfl, rfl⟩
def mkO (P : Program) (e : TypeId) (z : V) : V → V → Option (Ob × (Nat → V))
 | .d (.int .i64 l), .d (.int .i64 c) => if 0 ≤ l ∧ l ≤ c ∧ c ≤ 9223372036854775807 then if room P e c.toNat && qH P e z then
     some (.row (List.replicate c.toNat z) e, fun id => .rs id 0 l.toNat) else none else none
 | _, _ => none
theorem zqi {P : Program} {e : TypeId} {z : V} {n : Int} (hr : room P e n.toNat = true) (hf : qH P e z = true) (h0 : 0 ≤ n) (h1 : n ≤ 1000000) : mkO P e z (.d (.int .i64 n)) (.d (.int .i64 n)) = some (.row (List.replicate n.toNat z) e, fun id => .rs id 0 n.toNat) := by
 simp only [mkO]
 rw [if_pos ⟨h0, Int.le_refl _, by omega⟩, if_pos (by rw [hr, hf]; rfl)]
section
variable {C : Cfg} {S : zA} {T : List V} {dst : Option Tmp} {ops : Array Oper} {F : Dfs} {Q : Post} {K : List Nat → List (Nat × Nat) → List V → zA → Prop} {rd : List Nat} {cs : List (Nat × Nat)} {i : Nat}
theorem z5s {base : Nat} {K : List (Nat × Nat) → List V → zA → Prop} {ob : Ob} {f : Nat → V} : WpA base K cs i dst T S (some (ob, f)) = (S[base + i]? = some .hole ∧ K (cs ++ [(i, 2)]) (putT T dst (f (base + i))) (S.set (base + i) ob)) := rfl
theorem zgk {ty : TypeId} {pos : String} {after : Array Edge} {g : Option (Nat × Bool)} {t : TypeId} {l c : Operand} : kP ⟨dst, .makeSlice t l c, ty, pos, after, g⟩ = true := rfl
theorem zgu {P : Program} {ty : TypeId} {pos : String} {after : Array Edge} {g : Option (Nat × Bool)} {t e : TypeId} {l c : Operand} {z : V} (hu : P.underlying t = some (.slice e)) (hz : zeroV P e = some z) : addO P T ⟨dst, .makeSlice t l c, ty, pos, after, g⟩ = mkO P e z (zG T l) (zG T c) := by
 simp only [addO, hu, hz]
 unfold mkO
 split
 ·rename_i heq; simp only [Option.some.injEq] at heq; obtain ⟨h1, h2, h3⟩ := And.intro ‹_› (And.intro ‹_› heq); subst h3; simp_all
 ·rename_i h; split
  ·exfalso; simp_all
  ·rfl
theorem zn5 {id : Nat} {xs : List D} {e : TypeId} (hr : S[id]? = some (.row (xs.map .d) e)) : mark S [id] S [id] = some (S.set id (.fz xs e)) := by
 have h3 : allO (frz S zO) (xs.map V.d) = some xs := zbp (n := 11) xs
 have h4 : (xs.map V.d).flatMap (zZ S zO) = [] := zbr xs
 simp only [mark, hr, z4g, h3, Option.map_some, z90, h4, List.all_nil, if_true]
theorem zo3 {n : Nat} {f : FuncId} {args : List V} {ds : List D} {v : V} {id : Nat} {xs : List D} {e : TypeId} (hs : C.shared f = false) (hf : allO (frz S zO) args = some ds) (hi : args.flatMap (zZ S zO) = [id]) (hr : S[id]? = some (.row (xs.map .d) e)) (hp : z3f (.ret v) = false) (hn : answer C (run C n) f ds = some (.ret v)) : kD C (run C n) f args S = some (.ret v, S.set id (.fz xs e), 3) := by
 unfold kD
 simp only [hs, Bool.false_eq_true, if_false, hf, hn, hi, List.isEmpty_cons, hp, zn5 hr]
theorem zfw {f : FuncId} {args : List V} {ds : List D} {v : V} {id : Nat} {xs : List D} {e : TypeId} (hs : C.shared f = false) (hf : allO (frz S zO) args = some ds) (hi : args.flatMap (zZ S zO) = [id]) (hr : S[id]? = some (.row (xs.map .d) e)) (hp : z3f (.ret v) = false) (he : Ev C f ds (.ret v)) :
  WpE C ops F Q K rd cs i dst T S (some (.enter f args)) = (z6t ops rd i 3 ∧ K rd (cs ++ [(i, 3)]) (putT T dst v) (S.set id (.fz xs e))) := by
 obtain ⟨n, hn⟩ := he
 have hc : kD C (run C n) f args S = some (.ret v, S.set id (.fz xs e), 3) := zo3 hs hf hi hr hp hn
 apply propext
 constructor
 ·rintro ⟨m, v', S', c, h1, h2, h3⟩
  have := z2s h1 hc
  simp only [Prod.mk.injEq] at this
  obtain ⟨h4, rfl, rfl⟩ := this
  cases h4
  exact ⟨h2, h3⟩
 ·exact fun h => ⟨n, _, _, _, hc, h.1, h.2⟩
theorem zqr {n : Nat} {x : D} : List.replicate n (V.d x) = (List.replicate n x).map .d := by simp
end
section
variable {C : Cfg} {ops : Array Oper} {dst : Option Tmp} {ty : TypeId} {pos : String} {after : Array Edge} {l : List Oper} {T : List V} {S : zA} {F : Dfs} {Q : Post} {t : TypeId} {n : Nat} {ps : Array (Nat × Operand)} {d2 : Option Tmp} {ty2 : TypeId} {pos2 : String} {after2 : Array Edge} {g2 : Option (Nat × Bool)}
theorem zds {x : Operand} : WpL C ops (⟨dst, .buildSlice t n ps, ty, pos, after, none⟩ :: ⟨d2, .assign x, ty2, pos2, after2, g2⟩ :: l) T S F Q = WpR C ops dst (⟨d2, .assign x, ty2, pos2, after2, g2⟩ :: l) T S F Q (opV C.P S T ⟨dst, .buildSlice t n ps, ty, pos, after, none⟩) := za3 rfl
theorem zia {x : Operand} : WpL C ops (⟨dst, .buildSlice t n ps, ty, pos, after, none⟩ :: ⟨d2, .move x, ty2, pos2, after2, g2⟩ :: l) T S F Q = WpR C ops dst (⟨d2, .move x, ty2, pos2, after2, g2⟩ :: l) T S F Q (opV C.P S T ⟨dst, .buildSlice t n ps, ty, pos, after, none⟩) := za3 rfl
theorem z9u {s : TypeId} {x : Operand} {f : Nat} : WpL C ops (⟨dst, .buildSlice t n ps, ty, pos, after, none⟩ :: ⟨d2, .fieldAddr s x f, ty2, pos2, after2, g2⟩ :: l) T S F Q = WpR C ops dst (⟨d2, .fieldAddr s x f, ty2, pos2, after2, g2⟩ :: l) T S F Q (opV C.P S T ⟨dst, .buildSlice t n ps, ty, pos, after, none⟩) := za3 rfl
theorem zg4 {s : TypeId} {qs : Array (Nat × Operand)} : WpL C ops (⟨dst, .buildSlice t n ps, ty, pos, after, none⟩ :: ⟨d2, .build s qs, ty2, pos2, after2, g2⟩ :: l) T S F Q = WpR C ops dst (⟨d2, .build s qs, ty2, pos2, after2, g2⟩ :: l) T S F Q (opV C.P S T ⟨dst, .buildSlice t n ps, ty, pos, after, none⟩) := za3 rfl
theorem znl {s : TypeId} {m : Nat} {qs : Array (Nat × Operand)} : WpL C ops (⟨dst, .buildSlice t n ps, ty, pos, after, none⟩ :: ⟨d2, .buildSlice s m qs, ty2, pos2, after2, g2⟩ :: l) T S F Q = WpR C ops dst (⟨d2, .buildSlice s m qs, ty2, pos2, after2, g2⟩ :: l) T S F Q (opV C.P S T ⟨dst, .buildSlice t n ps, ty, pos, after, none⟩) := za3 rfl
theorem vbs :
 (∀ {C : Cfg} {ops : Array Oper} {dst : Option Tmp} {ty : TypeId} {pos : String} {after : Array Edge} {l : List Oper} {T : List V} {S : zA} {F : Dfs} {Q : Post} {t : TypeId} {n : Nat} {ps : Array (Nat × Operand)} {d2 : Option Tmp} {ty2 : TypeId} {pos2 : String} {after2 : Array Edge} {g2 : Option (Nat × Bool)} {x : Operand}, WpL C ops (⟨dst, .buildSlice t n ps, ty, pos, after, none⟩ :: ⟨d2, .assign x, ty2, pos2, after2, g2⟩ :: l) T S F Q = WpR C ops dst (⟨d2, .assign x, ty2, pos2, after2, g2⟩ :: l) T S F Q (opV C.P S T ⟨dst, .buildSlice t n ps, ty, pos, after, none⟩)) ∧
 (∀ {C : Cfg} {ops : Array Oper} {dst : Option Tmp} {ty : TypeId} {pos : String} {after : Array Edge} {l : List Oper} {T : List V} {S : zA} {F : Dfs} {Q : Post} {t : TypeId} {n : Nat} {ps : Array (Nat × Operand)} {d2 : Option Tmp} {ty2 : TypeId} {pos2 : String} {after2 : Array Edge} {g2 : Option (Nat × Bool)} {x : Operand}, WpL C ops (⟨dst, .buildSlice t n ps, ty, pos, after, none⟩ :: ⟨d2, .move x, ty2, pos2, after2, g2⟩ :: l) T S F Q = WpR C ops dst (⟨d2, .move x, ty2, pos2, after2, g2⟩ :: l) T S F Q (opV C.P S T ⟨dst, .buildSlice t n ps, ty, pos, after, none⟩)) ∧
 (∀ {C : Cfg} {ops : Array Oper} {dst : Option Tmp} {ty : TypeId} {pos : String} {after : Array Edge} {l : List Oper} {T : List V} {S : zA} {F : Dfs} {Q : Post} {t : TypeId} {n : Nat} {ps : Array (Nat × Operand)} {d2 : Option Tmp} {ty2 : TypeId} {pos2 : String} {after2 : Array Edge} {g2 : Option (Nat × Bool)} {s : TypeId} {x : Operand} {f : Nat}, WpL C ops (⟨dst, .buildSlice t n ps, ty, pos, after, none⟩ :: ⟨d2, .fieldAddr s x f, ty2, pos2, after2, g2⟩ :: l) T S F Q = WpR C ops dst (⟨d2, .fieldAddr s x f, ty2, pos2, after2, g2⟩ :: l) T S F Q (opV C.P S T ⟨dst, .buildSlice t n ps, ty, pos, after, none⟩)) ∧
 (∀ {C : Cfg} {ops : Array Oper} {dst : Option Tmp} {ty : TypeId} {pos : String} {after : Array Edge} {l : List Oper} {T : List V} {S : zA} {F : Dfs} {Q : Post} {t : TypeId} {n : Nat} {ps : Array (Nat × Operand)} {d2 : Option Tmp} {ty2 : TypeId} {pos2 : String} {after2 : Array Edge} {g2 : Option (Nat × Bool)} {s : TypeId} {qs : Array (Nat × Operand)}, WpL C ops (⟨dst, .buildSlice t n ps, ty, pos, after, none⟩ :: ⟨d2, .build s qs, ty2, pos2, after2, g2⟩ :: l) T S F Q = WpR C ops dst (⟨d2, .build s qs, ty2, pos2, after2, g2⟩ :: l) T S F Q (opV C.P S T ⟨dst, .buildSlice t n ps, ty, pos, after, none⟩)) ∧
 (∀ {C : Cfg} {ops : Array Oper} {dst : Option Tmp} {ty : TypeId} {pos : String} {after : Array Edge} {l : List Oper} {T : List V} {S : zA} {F : Dfs} {Q : Post} {t : TypeId} {n : Nat} {ps : Array (Nat × Operand)} {d2 : Option Tmp} {ty2 : TypeId} {pos2 : String} {after2 : Array Edge} {g2 : Option (Nat × Bool)} {s : TypeId} {m : Nat} {qs : Array (Nat × Operand)}, WpL C ops (⟨dst, .buildSlice t n ps, ty, pos, after, none⟩ :: ⟨d2, .buildSlice s m qs, ty2, pos2, after2, g2⟩ :: l) T S F Q = WpR C ops dst (⟨d2, .buildSlice s m qs, ty2, pos2, after2, g2⟩ :: l) T S F Q (opV C.P S T ⟨dst, .buildSlice t n ps, ty, pos, after, none⟩)) :=
 ⟨zds, zia, z9u, zg4, znl⟩
end
theorem zau {P : Program} {S : zA} {t e : TypeId} {xs : List D} (hu : P.underlying t = some (.slice e)) (hz : zOk P e = true) (hs : (sz P e).isSome = true) (hf : ∀ x ∈ xs, z06 P e x = true) (hr : room P e xs.length = true) :
  ∃ v' S' c, qG P S t t (.ts []) (.d (.sl xs)) = some (v', S', c) ∧ OwnS S' v' e (xs.map .d) ∧ (∀ j o, S[j]? = some o → S'[j]? = some o ∧ NotAt v' j) ∧ S.length ≤ S'.length := by
 have hft : (xs.map V.d).all (qH P e) = true := by
  rw [List.all_map, List.all_eq_true]
  intro x hx
  have h := hf x hx
  unfold z06 at h
  show qH P e (.d x) = true
  unfold qH
  simp only [Bool.and_eq_true] at h ⊢
  refine ⟨⟨rfl, h.1⟩, ?_⟩
  simpa [V.cells] using h.2
 have hsrc : srcV P S e t (.d (.sl xs)) = some (xs.map .d) := by
  simp only [srcV, hu, wI, hft, hs, Bool.and_self, if_true]
 cases xs with
 | nil => exact ⟨.ts [], S, 1, by simp only [qG, hu, hsrc, List.map_nil], .inl ⟨rfl, rfl⟩, fun j o hj => ⟨hj, fun off l h => by cases h⟩, Nat.le_refl _⟩
 | cons y r =>
  refine ⟨.rs S.length 0 (r.length + 1), S ++ [.row ((y :: r).map .d) e], 2, ?_, .inr ⟨S.length, by simp, by simp⟩, fun j o hj => ⟨?_, ?_⟩, by simp⟩
  ·have hr1 : room P e (0 + (r.length + 1)) = true := by simpa using hr
   simp only [qG, hu, hsrc, hz, if_true, List.map_cons, List.all_nil, Bool.true_and, List.length_nil, List.length_map, List.map_nil, List.nil_append]
   rw [if_pos hr1, Nat.zero_add]
  ·rw [List.getElem?_append_left (qL hj)]; exact hj
  ·intro off l h
   have := qL hj
   cases h; omega
theorem zR {S : zA} {x : V} {e : TypeId} : rowE (S ++ [.row [x] e]) S.length 0 = some x := zE (e := e) (by simp)
theorem zQ {S : zA} {x y : V} {e : TypeId} : z1y (S ++ [.row [x] e]) S.length 0 y = some (S ++ [.row [y] e]) := by
 rw [qC (x := x) (e := e) (by simp)]
 simp
end Go.Vm
end
section
namespace Go.Proofs.Ytghllhghboaagaa
open Go.Vm
theorem ffB {l : List UInt8} : qH Try.prog 29 (.d (encB l)) = true := by kernel_rfl
theorem ldB {S : zA} {l : List UInt8} : jZ Try.prog S 29 (.d (.ptr (encB l))) = some (.d (encB l)) := by kernel_rfl
theorem lenB {S : zA} {l : List UInt8} : qD Try.prog S .len [29] [.d (encB l)] = some (.val (.d (.int .i64 l.length)) S 0) := by
 unfold encB; rw [zzm, List.length_map]
theorem ixB {S : zA} {l : List UInt8} {i : Nat} (h : i < l.length) : qJ Try.prog S 29 (.d (encB l)) (.d (.int .i64 i)) = some (.d (.ptr (.int .u8 (l[i].toNat : Int)))) := ix29 h
def layA (at_ : Int) (data : List UInt8) : Nat → List UInt8 → List UInt8
 | _, [] => []
 | i, x :: r => (if 0 ≤ at_ ∧ at_ ≤ i ∧ (i : Int) - at_ < data.length then data.getD ((i : Int) - at_).toNat 0 else x) :: layA at_ data (i + 1) r
def layN (b : List UInt8) (at_ : Int) (data : List UInt8) : List UInt8 := layA at_ data 0 b
theorem zh5 {a : Int} {d : List UInt8} : ∀ {i : Nat} {l : List UInt8}, (layA a d i l).length = l.length
 | _, [] => rfl
 | i, x :: r => by simp [layA, zh5]
theorem z1j {b d : List UInt8} {a : Int} : (layN b a d).length = b.length := zh5
theorem q0d (b data : List UInt8) (at_ : Int) (hl : b.length < 1000000) (hd : data.length < 1000000) (h1 : 0 ≤ at_) (h2 : at_ ≤ 1000000) (R : Post) (g6 : V) : ∀ (k i : Nat) (xs : List UInt8) (S : zA) (v7 g9 g10 g11 g12 g13 g14 g15 g16 g17 g18 g19 g20 g21 g22 g23 g24 g25 g26 g27 g28 g29 g30 g31 g32 g33 g34 g35 g36 g37 g38 g39 g40 g41 g42 g43 g44 g45 : V),
 b.length - i = k → i ≤ b.length → xs.length = i → OwnS S v7 5 (xs.map fun x => .d (.int .u8 x.toNat)) →
 (∀ S v7 i' ys g9 g10 g11 g12 g13 g14 g15 g16 g17 g18 g19 g20 g21 g22 g23 g24 g25 g26 g27 g28 g29 g30 g31 g32 g33 g34 g35 g36 g37 g38 g39 g40 g41 g42 g43 g44 g45, ys = xs ++ layA at_ data i (b.drop i) → OwnS S v7 5 (ys.map fun x => .d (.int .u8 x.toNat)) → R (.exit 0) ((.d (encB b)) :: (.d (.int .i64 at_)) :: (.d (encB data)) :: (.tup []) :: (.tup []) :: (.tup []) :: g6 :: v7 :: i' :: g9 :: g10 :: g11 :: g12 :: g13 :: g14 :: g15 :: g16 :: g17 :: g18 :: g19 :: g20 :: g21 :: g22 :: g23 :: g24 :: g25 :: g26 :: g27 :: g28 :: g29 :: g30 :: g31 :: g32 :: g33 :: g34 :: g35 :: g36 :: g37 :: g38 :: g39 :: g40 :: g41 :: g42 :: g43 :: g44 :: g45 :: []) S []) →
 Wp cfg (.loop (lpOf (Try.f94.body.getD .skip) 0)) ((.d (encB b)) :: (.d (.int .i64 at_)) :: (.d (encB data)) :: (.tup []) :: (.tup []) :: (.tup []) :: g6 :: v7 :: (.d (.int .i64 i)) :: g9 :: g10 :: g11 :: g12 :: g13 :: g14 :: g15 :: g16 :: g17 :: g18 :: g19 :: g20 :: g21 :: g22 :: g23 :: g24 :: g25 :: g26 :: g27 :: g28 :: g29 :: g30 :: g31 :: g32 :: g33 :: g34 :: g35 :: g36 :: g37 :: g38 :: g39 :: g40 :: g41 :: g42 :: g43 :: g44 :: g45 :: []) S [] R := by
 intro k
 induction k with
 | zero =>
  intro i xs S v7 g9 g10 g11 g12 g13 g14 g15 g16 g17 g18 g19 g20 g21 g22 g23 g24 g25 g26 g27 g28 g29 g30 g31 g32 g33 g34 g35 g36 g37 g38 g39 g40 g41 g42 g43 g44 g45 hk hi hxl ho hR
  have hie : i = b.length := by omega
  rw [qO]
  refine zV ?_
  conv => arg 2; whnf
  simp (maxSteps := 1000000) (disch := first | assumption | omega | rfl) only [↓gp, gc, Nat.reduceAdd, lenB]
  exact hR _ _ _ xs _ _ _ _ _ _ _ _ _ _ _ _ _ _ _ _ _ _ _ _ _ _ _ _ _ _ _ _ _ _ _ _ _ _ _ _ _ (by rw [hie, List.drop_length]; simp [layA]) ho
 | succ k ih =>
  intro i xs S v7 g9 g10 g11 g12 g13 g14 g15 g16 g17 g18 g19 g20 g21 g22 g23 g24 g25 g26 g27 g28 g29 g30 g31 g32 g33 g34 g35 g36 g37 g38 g39 g40 g41 g42 g43 g44 g45 hk hi hxl ho hR
  have hlt : i < b.length := by omega
  have hdr : b.drop i = b[i] :: b.drop (i + 1) := List.drop_eq_getElem_cons hlt
  rw [hdr] at hR
  rw [qO]
  refine zV ?_
  conv => arg 2; whnf
  by_cases c1 : (i : Int) ≥ at_
  ·by_cases c2 : (i : Int) - at_ < data.length
   ·obtain ⟨j, hj⟩ : ∃ j : Nat, (i : Int) - at_ = j := ⟨((i : Int) - at_).toNat, by omega⟩
    have hjl : j < data.length := by omega
    have hix := ixB (S := S) hjl
    rw [← hj] at hix
    obtain ⟨v', S', c, ha, ho', hfr, hlen⟩ := ap29 data[j] ho (by omega)
    simp (maxSteps := 1000000) (disch := first | assumption | omega | rfl) only [↓gp, gc, Nat.reduceAdd, lenB, ixB, hix, ld5, ha]
    exact ih (i + 1) (xs ++ [data[j]]) S' v' _ _ _ _ _ _ _ _ _ _ _ _ _ _ _ _ _ _ _ _ _ _ _ _ _ _ _ _ _ _ _ _ _ _ _ _ _ (by omega) (by omega) (by simp; omega) ho' (fun S v7 i' ys g9 g10 g11 g12 g13 g14 g15 g16 g17 g18 g19 g20 g21 g22 g23 g24 g25 g26 g27 g28 g29 g30 g31 g32 g33 g34 g35 g36 g37 g38 g39 g40 g41 g42 g43 g44 g45 hy => hR S v7 i' ys g9 g10 g11 g12 g13 g14 g15 g16 g17 g18 g19 g20 g21 g22 g23 g24 g25 g26 g27 g28 g29 g30 g31 g32 g33 g34 g35 g36 g37 g38 g39 g40 g41 g42 g43 g44 g45 (by
     rw [hy]; simp only [layA]; rw [if_pos ⟨h1, c1, c2⟩, hj, Int.toNat_natCast, List.getD_eq_getElem?_getD, List.getElem?_eq_getElem hjl]; simp))
   ·obtain ⟨v', S', c, ha, ho', hfr, hlen⟩ := ap29 b[i] ho (by omega)
    simp (maxSteps := 1000000) (disch := first | assumption | omega | rfl) only [↓gp, gc, Nat.reduceAdd, lenB, ixB, ld5, ha]
    exact ih (i + 1) (xs ++ [b[i]]) S' v' _ _ _ _ _ _ _ _ _ _ _ _ _ _ _ _ _ _ _ _ _ _ _ _ _ _ _ _ _ _ _ _ _ _ _ _ _ (by omega) (by omega) (by simp; omega) ho' (fun S v7 i' ys g9 g10 g11 g12 g13 g14 g15 g16 g17 g18 g19 g20 g21 g22 g23 g24 g25 g26 g27 g28 g29 g30 g31 g32 g33 g34 g35 g36 g37 g38 g39 g40 g41 g42 g43 g44 g45 hy => hR S v7 i' ys g9 g10 g11 g12 g13 g14 g15 g16 g17 g18 g19 g20 g21 g22 g23 g24 g25 g26 g27 g28 g29 g30 g31 g32 g33 g34 g35 g36 g37 g38 g39 g40 g41 g42 g43 g44 g45 (by
     rw [hy]; simp only [layA]; rw [if_neg (fun h => c2 h.2.2)]; simp))
  ·obtain ⟨v', S', c, ha, ho', hfr, hlen⟩ := ap29 b[i] ho (by omega)
   simp (maxSteps := 1000000) (disch := first | assumption | omega | rfl) only [↓gp, gc, Nat.reduceAdd, lenB, ixB, ld5, ha]
   exact ih (i + 1) (xs ++ [b[i]]) S' v' _ _ _ _ _ _ _ _ _ _ _ _ _ _ _ _ _ _ _ _ _ _ _ _ _ _ _ _ _ _ _ _ _ _ _ _ _ (by omega) (by omega) (by simp; omega) ho' (fun S v7 i' ys g9 g10 g11 g12 g13 g14 g15 g16 g17 g18 g19 g20 g21 g22 g23 g24 g25 g26 g27 g28 g29 g30 g31 g32 g33 g34 g35 g36 g37 g38 g39 g40 g41 g42 g43 g44 g45 hy => hR S v7 i' ys g9 g10 g11 g12 g13 g14 g15 g16 g17 g18 g19 g20 g21 g22 g23 g24 g25 g26 g27 g28 g29 g30 g31 g32 g33 g34 g35 g36 g37 g38 g39 g40 g41 g42 g43 g44 g45 (by
    rw [hy]; simp only [layA]; rw [if_neg (fun h => c1 h.2.1)]; simp))
theorem zps (b data : List UInt8) (at_ : Int) (hl : b.length < 1000000) (hd : data.length < 1000000) (h1 : 0 ≤ at_) (h2 : at_ ≤ 1000000) : Ev cfg 94 [encB b, .int .i64 at_, encB data] (.ret (.d (encB (layN b at_ data)))) := by
 refine wJ rfl rfl zx1 ?_
 show Wp cfg (Try.f94.body.getD .skip) ((.d (encB b)) :: (.d (.int .i64 at_)) :: (.d (encB data)) :: (.tup []) :: (.tup []) :: (.tup []) :: (.tup []) :: (.tup []) :: (.tup []) :: (.tup []) :: (.tup []) :: (.tup []) :: (.tup []) :: (.tup []) :: (.tup []) :: (.tup []) :: (.tup []) :: (.tup []) :: (.tup []) :: (.tup []) :: (.tup []) :: (.tup []) :: (.tup []) :: (.tup []) :: (.tup []) :: (.tup []) :: (.tup []) :: (.tup []) :: (.tup []) :: (.tup []) :: (.tup []) :: (.tup []) :: (.tup []) :: (.tup []) :: (.tup []) :: (.tup []) :: (.tup []) :: (.tup []) :: (.tup []) :: (.tup []) :: (.tup []) :: (.tup []) :: (.tup []) :: (.tup []) :: (.tup []) :: (.tup []) :: []) [] [] _
 conv => arg 2; whnf
 simp (maxSteps := 1000000) (disch := first | assumption | omega | rfl) only [↓gp, gc, Nat.reduceAdd]
 refine q0d b data at_ hl hd h1 h2 _ _ b.length 0 [] [] _ _ _ _ _ _ _ _ _ _ _ _ _ _ _ _ _ _ _ _ _ _ _ _ _ _ _ _ _ _ _ _ _ _ _ _ _ _ rfl (by omega) rfl OwnS.nil ?_
 intro S v7 i' ys g9 g10 g11 g12 g13 g14 g15 g16 g17 g18 g19 g20 g21 g22 g23 g24 g25 g26 g27 g28 g29 g30 g31 g32 g33 g34 g35 g36 g37 g38 g39 g40 g41 g42 g43 g44 g45 hy ho
 simp (maxSteps := 1000000) (disch := first | assumption | omega | rfl) only [↓gp, gc, Nat.reduceAdd]
 rw [List.nil_append, List.drop_zero] at hy
 change ys = layN b at_ data at hy
 subst hy
 exact zS rfl (z2j ho) (z4u (enc := fun x : UInt8 => D.int .u8 x.toNat) ho)
def z1d (b : List UInt8) (off n : Int) : List UInt8 := if off < 0 ∨ n < 1 ∨ b.length ≤ off then [] else (b.take (if (b.length : Int) - off < n then (b.length : Int) else off + n).toNat).drop off.toNat
theorem zqk (b : List UInt8) (off n : Int) (hl : b.length < 1000000) : Ev cfg 93 [encB b, .int .i64 off, .int .i64 n] (.ret (.d (encB (z1d b off n)))) := by
 refine wJ rfl rfl zub ?_
 show Wp cfg (Try.f93.body.getD .skip) ((.d (encB b)) :: (.d (.int .i64 off)) :: (.d (.int .i64 n)) :: (.tup []) :: (.tup []) :: (.tup []) :: (.tup []) :: (.tup []) :: (.tup []) :: (.tup []) :: (.tup []) :: (.tup []) :: (.tup []) :: (.tup []) :: (.tup []) :: (.tup []) :: (.tup []) :: (.tup []) :: (.tup []) :: (.tup []) :: (.tup []) :: (.tup []) :: (.tup []) :: (.tup []) :: (.tup []) :: (.tup []) :: (.tup []) :: (.tup []) :: (.tup []) :: (.tup []) :: (.tup []) :: (.tup []) :: (.tup []) :: (.tup []) :: (.tup []) :: []) [] [] _
 conv => arg 2; whnf
 generalize hr : z1d b off n = r
 unfold z1d at hr
 by_cases c1 : off < 0
 ·skip
  simp (maxSteps := 1000000) (disch := first | assumption | omega | rfl) only [↓gp, gc, Nat.reduceAdd]
  rw [if_pos (.inl c1)] at hr; subst hr
  exact zS rfl rfl rfl
 ·by_cases c2 : n < 1
  ·skip
   simp (maxSteps := 1000000) (disch := first | assumption | omega | rfl) only [↓gp, gc, Nat.reduceAdd]
   rw [if_pos (.inr (.inl c2))] at hr; subst hr
   exact zS rfl rfl rfl
  ·by_cases c3 : off ≥ b.length
   ·skip
    simp (maxSteps := 1000000) (disch := first | assumption | omega | rfl) only [↓gp, gc, Nat.reduceAdd, lenB]
    rw [if_pos (.inr (.inr c3))] at hr; subst hr
    exact zS rfl rfl rfl
   ·rw [if_neg (by omega)] at hr
    have hsl := fun (hi : Int) (h2 : hi ≤ b.length) (h1 : off ≤ hi) => zx0 (S := []) (P := Try.prog) (t := 29) (e := 5) (xs := b.map fun b => .int .u8 b.toNat) (lo := off) (hi := hi) Try.underlying29 (by simp only [List.all_map, List.all_eq_true]; intro x _; exact zp4 _) zt7 (by omega) h1 (by simp only [List.length_map]; omega)
    by_cases c4 : n > (b.length : Int) - off
    ·have h2 := hsl (off + ((b.length : Int) - off)) (by omega) (by omega)
     change jL _ _ _ (.d (encB b)) _ _ = _ at h2
     simp (maxSteps := 1000000) (disch := first | assumption | omega | rfl) only [↓gp, gc, Nat.reduceAdd, lenB, h2]
     rw [if_pos (by omega)] at hr; subst hr
     rw [show off + ((b.length : Int) - off) = b.length by omega, ← List.map_take, ← List.map_drop]
     exact zS rfl rfl rfl
    ·have h2 := hsl (off + n) (by omega) (by omega)
     change jL _ _ _ (.d (encB b)) _ _ = _ at h2
     simp (maxSteps := 1000000) (disch := first | assumption | omega | rfl) only [↓gp, gc, Nat.reduceAdd, lenB, h2]
     rw [if_neg (by omega)] at hr; subst hr
     rw [← List.map_take, ← List.map_drop]
     exact zS rfl rfl rfl
theorem zh9 {ops : Array Oper} {dst : Option Tmp} {l : List Oper} {T : List V} {S : zA} {F : Dfs} {Q : Post} {b data : List UInt8} {at_ : Int} (hl : b.length < 1000000) (hd : data.length < 1000000) (h1 : 0 ≤ at_) (h2 : at_ ≤ 1000000) :
  WpR cfg ops dst l T S F Q (some (.enter 94 [.d (encB b), .d (.int .i64 at_), .d (encB data)])) = WpL cfg ops l (putT T dst (.d (encB (layN b at_ data)))) S F Q :=
 qA (ds := [encB b, .int .i64 at_, encB data]) rfl (zps b data at_ hl hd h1 h2)
theorem zlf {ops : Array Oper} {dst : Option Tmp} {l : List Oper} {T : List V} {S : zA} {F : Dfs} {Q : Post} {b : List UInt8} {off n : Int} (hl : b.length < 1000000) :
  WpR cfg ops dst l T S F Q (some (.enter 93 [.d (encB b), .d (.int .i64 off), .d (.int .i64 n)])) = WpL cfg ops l (putT T dst (.d (encB (z1d b off n)))) S F Q :=
 qA (ds := [encB b, .int .i64 off, .int .i64 n]) rfl (zqk b off n hl)
theorem zfb {ops : Array Oper} {F : Dfs} {Q : Post} {K : List Nat → List (Nat × Nat) → List V → zA → Prop} {rd : List Nat} {cs : List (Nat × Nat)} {i id n : Nat} {dst : Option Tmp} {T : List V} {S : zA} {data : List UInt8} (hn : n < 1000000) (hd : data.length < 1000000) (hr : S[id]? = some (.row (List.replicate n (.d (.int .u8 0))) 5)) :
  WpE cfg ops F Q K rd cs i dst T S (some (.enter 94 [.rs id 0 n, .d (.int .i64 0), .d (encB data)])) = (z6t ops rd i 3 ∧ K rd (cs ++ [(i, 3)]) (putT T dst (.d (encB (layN (List.replicate n 0) 0 data)))) (S.set id (.fz (List.replicate n (.int .u8 0)) 5))) := by
 have hr' : S[id]? = some (.row ((List.replicate n (D.int .u8 0)).map .d) 5) := by rw [hr, zqr]
 have hrb : encB (List.replicate n 0) = .sl (List.replicate n (D.int .u8 0)) := by simp [encB]
 refine zfw (ds := [encB (List.replicate n 0), .int .i64 0, encB data]) rfl ?_ ?_ hr' rfl (zps _ data 0 (by simp; exact hn) hd (by omega) (by omega))
 ·have h1 : frz S zO (.rs id 0 n) = some (encB (List.replicate n 0)) := by
   rw [hrb]
   have := zly (S := S) (v := .rs id 0 n) (e := 5) (ds := List.replicate n (D.int .u8 0)) (.inr ⟨id, by simp, hr'⟩)
   exact this
  simp only [allO, zh3, h1]
 ·have h1 : zZ S zO (.rs id 0 n) = [id] := by
   show (match S[id]? with | some (.row xs e) => id :: xs.flatMap (zZ S 11) | _ => []) = _
   rw [hr']
   simp only [zbr]
  simp only [List.flatMap_cons, h1, List.flatMap_nil, zcu, List.append_nil]
end Go.Proofs.Ytghllhghboaagaa
end
section
namespace Go.Proofs.Ytghllhghboaagaa
open Go.Vm
def cutN (n : Node) (m : Int) : Node := ⟨n.ino, n.kind, n.links, n.parent, m, layN (List.replicate m.toNat 0) 0 n.data, n.names⟩
def z2k (n : Node) (o : Opn) : Int := if n.size > o.off + o.data.length then n.size else o.off + o.data.length
def vK (n : Node) (o : Opn) : Node := ⟨n.ino, n.kind, n.links, n.parent, z2k n o, layN (layN (List.replicate (z2k n o).toNat 0) 0 n.data) o.off o.data, n.names⟩
def zag (l : List UInt8) : Ans := ⟨0, 0, 0, 0, 0, l, []⟩
def z1f (t : List Node) (n : Node) (o : Opn) : List Node × Ans :=
 if n.kind = 2 then (t, qS 7)
 else if o.does = 7 then
  if o.off < 0 then (t, qS 1)
  else if o.off > 34304 - o.data.length then (t, qS 11)
  else if o.data.length = 0 then (t, okN)
  else (qQ t (vK n o), okN)
 else if o.does = 8 then
  if o.off < 0 then (t, qS 1)
  else if o.n < 0 then (t, qS 1)
  else (t, zag (z1d n.data o.off o.n))
 else if o.n < 0 then (t, qS 1)
 else if o.n > 34304 then (t, qS 11)
 else (qQ t (cutN n o.n), okN)
def kQ (t : List Node) (o : Opn) : List Node × Ans :=
 if (zF t o.a).2 ≠ 0 then (t, qS (zF t o.a).2) else z1f t (getN t (zF t o.a).1) o
theorem z5 : zeroV Try.prog 5 = some (.d (.int .u8 0)) := by kernel_rfl
theorem zxf {l : List UInt8} : vR Try.prog 52 [(5, .d (encB l))] = some (.agg [.d (.int .i64 0), .d (.int .i64 0), .d (.int .i64 0), .d (.int .i64 0), .d (.int .i64 0), .d (encB l), .ts []]) := by kernel_rfl
theorem srB {a : Node} {l : List UInt8} : qW Try.prog 29 5 (.d (encB l)) (.d (zB a)) = some (.agg [.d (.int .i64 a.ino), .d (.int .i64 a.kind), .d (.int .i64 a.links), .d (.int .i64 a.parent), .d (.int .i64 a.size), .d (encB l), .d (.sl (a.names.map zK))]) := by kernel_rfl
theorem zog (t : List Node) (k0 : Nat) (hk0 : k0 < 200000) (hS : Small k0 t) (o : Opn) (ha : o.a.length < 1000000) (hd : o.data.length ≤ 1024) (hdo : o.does = 7 ∨ o.does = 8 ∨ o.does = 9) : Ev cfg 51 [.sl (t.map zB), encOpn o] (.ret (.tup [.d (.sl ((kQ t o).1.map zB)), .d (qM (kQ t o).2)])) := by
 refine wJ rfl rfl zva ?_
 show Wp cfg (Try.f51.body.getD .skip) ((.d (.sl (t.map zB))) :: (.d (encOpn o)) :: (.tup []) :: (.tup []) :: (.tup []) :: (.tup []) :: (.tup []) :: (.tup []) :: (.tup []) :: (.tup []) :: (.tup []) :: (.tup []) :: (.tup []) :: (.tup []) :: (.tup []) :: (.tup []) :: (.tup []) :: (.tup []) :: (.tup []) :: (.tup []) :: (.tup []) :: (.tup []) :: (.tup []) :: (.tup []) :: (.tup []) :: (.tup []) :: (.tup []) :: (.tup []) :: (.tup []) :: (.tup []) :: (.tup []) :: (.tup []) :: (.tup []) :: (.tup []) :: (.tup []) :: (.tup []) :: (.tup []) :: (.tup []) :: (.tup []) :: (.tup []) :: (.tup []) :: (.tup []) :: (.tup []) :: (.tup []) :: (.tup []) :: (.tup []) :: (.tup []) :: (.tup []) :: (.tup []) :: (.tup []) :: (.tup []) :: (.tup []) :: (.tup []) :: (.tup []) :: (.tup []) :: (.tup []) :: (.tup []) :: (.tup []) :: (.tup []) :: (.tup []) :: (.tup []) :: (.tup []) :: (.tup []) :: (.tup []) :: (.tup []) :: (.tup []) :: (.tup []) :: (.tup []) :: (.tup []) :: (.tup []) :: (.tup []) :: (.tup []) :: (.tup []) :: (.tup []) :: (.tup []) :: (.tup []) :: (.tup []) :: (.tup []) :: (.tup []) :: (.tup []) :: (.tup []) :: (.tup []) :: (.tup []) :: (.tup []) :: (.tup []) :: (.tup []) :: (.tup []) :: (.tup []) :: (.tup []) :: (.tup []) :: (.tup []) :: (.tup []) :: (.tup []) :: (.tup []) :: (.tup []) :: (.tup []) :: (.tup []) :: (.tup []) :: (.tup []) :: (.tup []) :: (.tup []) :: (.tup []) :: (.tup []) :: (.tup []) :: (.tup []) :: (.tup []) :: (.tup []) :: (.tup []) :: (.tup []) :: (.tup []) :: (.tup []) :: (.tup []) :: (.tup []) :: (.tup []) :: (.tup []) :: (.tup []) :: (.tup []) :: (.tup []) :: (.tup []) :: (.tup []) :: (.tup []) :: (.tup []) :: (.tup []) :: (.tup []) :: (.tup []) :: (.tup []) :: (.tup []) :: (.tup []) :: (.tup []) :: (.tup []) :: (.tup []) :: (.tup []) :: (.tup []) :: (.tup []) :: (.tup []) :: (.tup []) :: (.tup []) :: (.tup []) :: (.tup []) :: (.tup []) :: (.tup []) :: (.tup []) :: (.tup []) :: (.tup []) :: (.tup []) :: (.tup []) :: (.tup []) :: []) [] [] _
 conv => arg 2; whnf
 have hk1 : k0 < 300000 := by omega
 have hlt : t.length < 400000 := Nat.lt_of_le_of_lt hS.len (by omega)
 have hlt' : t.length < 1000000 := by omega
 simp (maxSteps := 1000000) (disch := first | assumption | omega | rfl) only [↓gp, gc, Nat.reduceAdd, vN hS hk1]
 generalize hr : kQ t o = r
 unfold kQ at hr
 generalize zF t o.a = w at hr ⊢
 obtain ⟨ino, e⟩ := w
 simp only at hr
 have hsz := hS.gsiz ino
 obtain ⟨hs0, hs1, hs2⟩ := hsz
 by_cases h1 : e = 0
 ·simp (maxSteps := 1000000) (disch := first | assumption | omega | rfl) only [↓gp, gc, Nat.reduceAdd, jP]
  rw [if_neg (by simp [h1])] at hr
  generalize getN t ino = n at hr hs0 hs1 hs2 ⊢
  have hdl : n.data.length < 1000000 := by omega
  unfold z1f at hr
  by_cases k : n.kind = 2
  ·skip
   simp (maxSteps := 1000000) (disch := first | assumption | omega | rfl) only [↓gp, gc, Nat.reduceAdd, qP]
   rw [if_pos k] at hr
   subst hr
   exact qI rfl rfl (x := .d (qM (qS 7))) (by kernel_rfl) rfl rfl rfl rfl
  ·rw [if_neg k] at hr
   by_cases d7 : o.does = 7
   ·have d8 : ¬ o.does = 8 := by omega
    have d9 : ¬ o.does = 9 := by omega
    rw [if_pos d7] at hr
    by_cases c1 : o.off < 0
    ·skip
     simp (maxSteps := 1000000) (disch := first | assumption | omega | rfl) only [↓gp, gc, Nat.reduceAdd, qP]
     rw [if_pos c1] at hr
     subst hr
     exact qI rfl rfl (x := .d (qM (qS 1))) (by kernel_rfl) rfl rfl rfl rfl
    ·rw [if_neg c1] at hr
     by_cases c2 : o.off > 34304 - o.data.length
     ·skip
      simp (maxSteps := 1000000) (disch := first | assumption | omega | rfl) only [↓gp, gc, Nat.reduceAdd, qP, lenB, ffB]
      rw [if_pos c2] at hr
      subst hr
      exact qI rfl rfl (x := .d (qM (qS 11))) (by kernel_rfl) rfl rfl rfl rfl
     ·rw [if_neg c2] at hr
      by_cases c3 : o.data.length = 0
      ·skip
       simp (maxSteps := 1000000) (disch := first | assumption | omega | rfl) only [↓gp, gc, Nat.reduceAdd, qP, lenB, ffB, z2b]
       rw [if_pos c3] at hr
       subst hr
       exact qI rfl rfl (x := .agg [.d (.int .i64 0), .d (.int .i64 0), .d (.int .i64 0), .d (.int .i64 0), .d (.int .i64 0), .ts [], .ts []]) (by kernel_rfl) rfl rfl rfl rfl
      ·rw [if_neg c3] at hr
       have hz0 : qH Try.prog 5 (.d (.int .u8 0)) = true := zqc 0
       by_cases c4 : n.size > o.off + o.data.length
       ·have hsw : z2k n o = n.size := if_pos c4
        have hroom : room Try.prog 5 n.size.toNat = true := zd0 (by omega)
        have hsn : n.size.toNat < 1000000 := by omega
        have hbl : (layN (List.replicate n.size.toNat 0) 0 n.data).length < 1000000 := by rw [z1j, List.length_replicate]; omega
        simp (maxSteps := 1000000) (disch := first | assumption | omega | rfl) only [↓gp, gc, Nat.reduceAdd, lenB, ffB]
        refine jE (is := [0, 2, 3, 1, 4, 5]) (h := 6) (by kernel_rfl) (by kernel_rfl) ?_
        simp (maxSteps := 1000000) (disch := first | assumption | omega | rfl) only [List.replicate_zero, eq_self, gd, ga, Nat.reduceAdd, ↓gq, vso, z5s, zgk, zgu Try.underlying29 z5, zqi hroom hz0, true_and]
        rw [zfb hsn hdl rfl]
        refine ⟨fun _ => by kernel_rfl, ?_⟩
        simp (maxSteps := 1000000) (disch := first | assumption | omega | rfl) only [List.replicate_zero, eq_self, gd, ga, Nat.reduceAdd, ↓gq, vso]
        refine ⟨by kernel_rfl, ?_⟩
        simp (maxSteps := 1000000) (disch := first | assumption | omega | rfl) only [↓gp, gc, Nat.reduceAdd, zh9, ffB, srB, z1p, z2b]
        subst hr
        unfold vK
        rw [hsw]
        exact qI rfl rfl (x := .agg [.d (.int .i64 0), .d (.int .i64 0), .d (.int .i64 0), .d (.int .i64 0), .d (.int .i64 0), .ts [], .ts []]) (by kernel_rfl) rfl rfl rfl rfl
       ·have hsw : z2k n o = o.off + o.data.length := if_neg c4
        have hroom : room Try.prog 5 (o.off + o.data.length).toNat = true := zd0 (by omega)
        have hsn : (o.off + o.data.length).toNat < 1000000 := by omega
        have hbl : (layN (List.replicate (o.off + o.data.length).toNat 0) 0 n.data).length < 1000000 := by rw [z1j, List.length_replicate]; omega
        simp (maxSteps := 1000000) (disch := first | assumption | omega | rfl) only [↓gp, gc, Nat.reduceAdd, lenB, ffB]
        refine jE (is := [0, 2, 3, 1, 4, 5]) (h := 6) (by kernel_rfl) (by kernel_rfl) ?_
        simp (maxSteps := 1000000) (disch := first | assumption | omega | rfl) only [List.replicate_zero, eq_self, gd, ga, Nat.reduceAdd, ↓gq, vso, z5s, zgk, zgu Try.underlying29 z5, zqi hroom hz0, true_and]
        rw [zfb hsn hdl rfl]
        refine ⟨fun _ => by kernel_rfl, ?_⟩
        simp (maxSteps := 1000000) (disch := first | assumption | omega | rfl) only [List.replicate_zero, eq_self, gd, ga, Nat.reduceAdd, ↓gq, vso]
        refine ⟨by kernel_rfl, ?_⟩
        simp (maxSteps := 1000000) (disch := first | assumption | omega | rfl) only [↓gp, gc, Nat.reduceAdd, zh9, ffB, srB, z1p, z2b]
        subst hr
        unfold vK
        rw [hsw]
        exact qI rfl rfl (x := .agg [.d (.int .i64 0), .d (.int .i64 0), .d (.int .i64 0), .d (.int .i64 0), .d (.int .i64 0), .ts [], .ts []]) (by kernel_rfl) rfl rfl rfl rfl
   ·rw [if_neg d7] at hr
    by_cases d8 : o.does = 8
    ·have d9 : ¬ o.does = 9 := by omega
     rw [if_pos d8] at hr
     by_cases c1 : o.off < 0
     ·skip
      simp (maxSteps := 1000000) (disch := first | assumption | omega | rfl) only [↓gp, gc, Nat.reduceAdd, qP]
      rw [if_pos c1] at hr
      subst hr
      exact qI rfl rfl (x := .d (qM (qS 1))) (by kernel_rfl) rfl rfl rfl rfl
     ·rw [if_neg c1] at hr
      by_cases c2 : o.n < 0
      ·skip
       simp (maxSteps := 1000000) (disch := first | assumption | omega | rfl) only [↓gp, gc, Nat.reduceAdd, qP]
       rw [if_pos c2] at hr
       subst hr
       exact qI rfl rfl (x := .d (qM (qS 1))) (by kernel_rfl) rfl rfl rfl rfl
      ·rw [if_neg c2] at hr
       simp (maxSteps := 1000000) (disch := first | assumption | omega | rfl) only [↓gp, gc, Nat.reduceAdd, zlf, zxf]
       subst hr
       exact qI rfl rfl (x := .agg [.d (.int .i64 0), .d (.int .i64 0), .d (.int .i64 0), .d (.int .i64 0), .d (.int .i64 0), .d (encB (z1d n.data o.off o.n)), .ts []]) (by kernel_rfl) rfl rfl rfl rfl
    ·have d9 : o.does = 9 := by omega
     rw [if_neg d8] at hr
     by_cases c2 : o.n < 0
     ·skip
      simp (maxSteps := 1000000) (disch := first | assumption | omega | rfl) only [↓gp, gc, Nat.reduceAdd, qP]
      rw [if_pos c2] at hr
      subst hr
      exact qI rfl rfl (x := .d (qM (qS 1))) (by kernel_rfl) rfl rfl rfl rfl
     ·rw [if_neg c2] at hr
      by_cases c3 : o.n > 34304
      ·skip
       simp (maxSteps := 1000000) (disch := first | assumption | omega | rfl) only [↓gp, gc, Nat.reduceAdd, qP]
       rw [if_pos c3] at hr
       subst hr
       exact qI rfl rfl (x := .d (qM (qS 11))) (by kernel_rfl) rfl rfl rfl rfl
      ·rw [if_neg c3] at hr
       have hz0 : qH Try.prog 5 (.d (.int .u8 0)) = true := zqc 0
       have hroom : room Try.prog 5 o.n.toNat = true := zd0 (by omega)
       have hsn : o.n.toNat < 1000000 := by omega
       simp (maxSteps := 1000000) (disch := first | assumption | omega | rfl) only [↓gp, gc, Nat.reduceAdd]
       refine jE (is := [0, 2, 3, 1, 4, 5]) (h := 6) (by kernel_rfl) (by kernel_rfl) ?_
       simp (maxSteps := 1000000) (disch := first | assumption | omega | rfl) only [List.replicate_zero, eq_self, gd, ga, Nat.reduceAdd, ↓gq, vso, z5s, zgk, zgu Try.underlying29 z5, zqi hroom hz0, true_and]
       rw [zfb hsn hdl rfl]
       refine ⟨fun _ => by kernel_rfl, ?_⟩
       simp (maxSteps := 1000000) (disch := first | assumption | omega | rfl) only [List.replicate_zero, eq_self, gd, ga, Nat.reduceAdd, ↓gq, vso]
       refine ⟨by kernel_rfl, ?_⟩
       simp (maxSteps := 1000000) (disch := first | assumption | omega | rfl) only [↓gp, gc, Nat.reduceAdd, ffB, srB, z1p, z2b]
       subst hr
       exact qI rfl rfl (x := .agg [.d (.int .i64 0), .d (.int .i64 0), .d (.int .i64 0), .d (.int .i64 0), .d (.int .i64 0), .ts [], .ts []]) (by kernel_rfl) rfl rfl rfl rfl
 ·skip
  simp (maxSteps := 1000000) (disch := first | assumption | omega | rfl) only [↓gp, gc, Nat.reduceAdd, qP]
  rw [if_pos h1] at hr
  subst hr
  exact qI rfl rfl (x := .d (qM (qS e))) (by kernel_rfl) rfl rfl rfl rfl
theorem zj9 {ops : Array Oper} {dst : Option Tmp} {l : List Oper} {T : List V} {S : zA} {F : Dfs} {Q : Post} {t : List Node} {o : Opn} {k0 : Nat} (hS : Small k0 t) (hk0 : k0 < 200000) (ha : o.a.length < 1000000) (hd : o.data.length ≤ 1024) (hdo : o.does = 7 ∨ o.does = 8 ∨ o.does = 9) :
  WpR cfg ops dst l T S F Q (some (.enter 51 [.d (.sl (t.map zB)), .d (encOpn o)])) = WpL cfg ops l (putT T dst (.tup [.d (.sl ((kQ t o).1.map zB)), .d (qM (kQ t o).2)])) S F Q :=
 qA (ds := [.sl (t.map zB), encOpn o]) rfl (zog t k0 hk0 hS o ha hd hdo)
end Go.Proofs.Ytghllhghboaagaa
end
section
namespace Go.Proofs.Ytghllhghboaagaa
open Go.Vm
def mayN (o : Opn) : Bool := decide (o.does ≥ 1 ∧ o.does ≤ 13 ∧ o.data.length ≤ 1024)
theorem zuc (o : Opn) : Ev cfg 45 [encOpn o] (.ret (.d (.bool (mayN o)))) := by
 refine wJ rfl rfl zyb ?_
 show Wp cfg (Try.f45.body.getD .skip) ((.d (encOpn o)) :: (.tup []) :: (.tup []) :: (.tup []) :: (.tup []) :: (.tup []) :: (.tup []) :: (.tup []) :: (.tup []) :: (.tup []) :: (.tup []) :: (.tup []) :: (.tup []) :: (.tup []) :: (.tup []) :: (.tup []) :: (.tup []) :: []) [] [] _
 conv => arg 2; whnf
 by_cases c1 : o.does ≥ 1
 ·by_cases c2 : o.does ≤ 13
  ·by_cases c3 : (o.data.length : Int) ≤ 1024
   ·have e : mayN o = true := decide_eq_true ⟨c1, c2, by omega⟩
    simp (maxSteps := 1000000) (disch := first | assumption | omega | rfl) only [↓gp, gc, Nat.reduceAdd, lenB]
    rw [e]
    exact zS rfl rfl rfl
   ·have e : mayN o = false := decide_eq_false (fun h => c3 (by omega))
    simp (maxSteps := 1000000) (disch := first | assumption | omega | rfl) only [↓gp, gc, Nat.reduceAdd, lenB]
    rw [e]
    exact zS rfl rfl rfl
  ·have e : mayN o = false := decide_eq_false (fun h => c2 h.2.1)
   simp (maxSteps := 1000000) (disch := first | assumption | omega | rfl) only [↓gp, gc, Nat.reduceAdd, lenB]
   rw [e]
   exact zS rfl rfl rfl
 ·have e : mayN o = false := decide_eq_false (fun h => c1 h.1)
  simp (maxSteps := 1000000) (disch := first | assumption | omega | rfl) only [↓gp, gc, Nat.reduceAdd, lenB]
  rw [e]
  exact zS rfl rfl rfl
theorem z26 {ops : Array Oper} {dst : Option Tmp} {l : List Oper} {T : List V} {S : zA} {F : Dfs} {Q : Post} {o : Opn} :
  WpR cfg ops dst l T S F Q (some (.enter 45 [.d (encOpn o)])) = WpL cfg ops l (putT T dst (.d (.bool (mayN o)))) S F Q :=
 qA (ds := [encOpn o]) rfl (zuc o)
def newN : List Node := [⟨1, 2, 1, 1, 0, [], []⟩]
theorem zzo : vR Try.prog 91 [(0, .d (.int .i64 1)), (1, .d (.int .i64 2)), (2, .d (.int .i64 1)), (3, .d (.int .i64 1))] = some (.agg [.d (.int .i64 1), .d (.int .i64 2), .d (.int .i64 1), .d (.int .i64 1), .d (.int .i64 0), .ts [], .ts []]) := by kernel_rfl
theorem q0g {S : zA} : bs1 Try.prog S 27 (.agg [.d (.int .i64 1), .d (.int .i64 2), .d (.int .i64 1), .d (.int .i64 1), .d (.int .i64 0), .ts [], .ts []]) = some (.val (.ts (newN.map zB)) S 0) := by kernel_rfl
theorem zy8 : Ev cfg 18 [] (.ret (.d (.sl (newN.map zB)))) := by
 refine wJ rfl rfl zy1 ?_
 show Wp cfg (Try.f18.body.getD .skip) ((.tup []) :: (.tup []) :: (.tup []) :: []) [] [] _
 conv => arg 2; whnf
 simp (maxSteps := 1000000) (disch := first | assumption | omega | rfl) only [↓gp, gc, Nat.reduceAdd, ↓vbs, zzo, q0g]
 exact zS rfl rfl rfl
theorem zoc {ops : Array Oper} {dst : Option Tmp} {l : List Oper} {T : List V} {S : zA} {F : Dfs} {Q : Post} :
  WpR cfg ops dst l T S F Q (some (.enter 18 [])) = WpL cfg ops l (putT T dst (.d (.sl (newN.map zB)))) S F Q :=
 qA (ds := []) rfl zy8
def zkn (l : List (List UInt8)) : Ans := ⟨0, 0, 0, 0, 0, [], l⟩
def zj5 (n : Node) (ino : Int) (o : Opn) : Ans :=
 if o.does = 11 then ⟨0, ino, n.kind, n.links, n.size, [], []⟩
 else if o.does = 12 then okN
 else if n.kind ≠ 2 then qS 6
 else zkn (n.names.map (·.name))
def z1g (t : List Node) (o : Opn) : Ans := if (zF t o.a).2 ≠ 0 then qS (zF t o.a).2 else zj5 (getN t (zF t o.a).1) (zF t o.a).1 o
theorem zto {a b c d : Int} : vR Try.prog 52 [(1, .d (.int .i64 a)), (2, .d (.int .i64 b)), (3, .d (.int .i64 c)), (4, .d (.int .i64 d))] = some (.agg [.d (.int .i64 0), .d (.int .i64 a), .d (.int .i64 b), .d (.int .i64 c), .d (.int .i64 d), .ts [], .ts []]) := by kernel_rfl
theorem ztp {S : zA} {v : V} {e : TypeId} {xs : List V} (h : OwnS S v e xs) : vR Try.prog 52 [(6, v)] = some (.agg [.d (.int .i64 0), .d (.int .i64 0), .d (.int .i64 0), .d (.int .i64 0), .d (.int .i64 0), .ts [], v]) := by
 rcases h with ⟨rfl, _⟩ | ⟨id, rfl, _⟩ <;> kernel_rfl
theorem zrq {S : zA} {v : V} {g : List (List UInt8)} (h : OwnS S v 9 (g.map fun x => .d (.str x))) :
  frz S zO (.agg [.d (.int .i64 0), .d (.int .i64 0), .d (.int .i64 0), .d (.int .i64 0), .d (.int .i64 0), .ts [], v]) = some (qM (zkn g)) := by
 have h1 : frz S 11 v = some (.sl (g.map .str)) := z89 (n := 9) (z97 h)
 show (match allO (frz S 11) [.d (.int .i64 0), .d (.int .i64 0), .d (.int .i64 0), .d (.int .i64 0), .d (.int .i64 0), .ts [], v] with | some ds => if ds.any D.isAgg then none else some (D.agg ds) | none => none) = _
 have h2 : ∀ x : D, frz S 11 (.d x) = some x := fun _ => rfl
 have h3 : frz S 11 (.ts []) = some (.sl []) := rfl
 simp only [allO, h1, h2, h3]
 rfl
theorem zvt (n : Node) (hn : n.names.length < 400000) (a : V) (R : Post) (g0 g1 g2 g3 g5 g6 : V) : ∀ (k i : Nat) (xs : List (List UInt8)) (S : zA) (v8 g10 g11 g12 g13 g14 g15 g16 g17 g18 g19 g20 g21 g22 g23 g24 g25 g26 g27 g28 g29 g30 g31 g32 g33 g34 g35 g36 g37 g38 g39 g40 g41 g42 g43 g44 g45 g46 g47 g48 g49 g50 g51 g52 g53 g54 g55 g56 g57 g58 g59 g60 : V),
 n.names.length - i = k → i ≤ n.names.length → xs.length = i → OwnS S v8 9 (xs.map fun x => .d (.str x)) → S[2]? = some (.row [.d (zB n)] 91) → S[1]? = some (.row [a] 52) → NotAt v8 2 → NotAt v8 1 →
 (∀ S v8 i' ys g10 g11 g12 g13 g14 g15 g16 g17 g18 g19 g20 g21 g22 g23 g24 g25 g26 g27 g28 g29 g30 g31 g32 g33 g34 g35 g36 g37 g38 g39 g40 g41 g42 g43 g44 g45 g46 g47 g48 g49 g50 g51 g52 g53 g54 g55 g56 g57 g58 g59 g60, ys = xs ++ (n.names.drop i).map (·.name) → OwnS S v8 9 (ys.map fun x => .d (.str x)) → S[1]? = some (.row [a] 52) → NotAt v8 1 → R (.exit 0) (g0 :: g1 :: g2 :: g3 :: (.ref 1 0 0) :: g5 :: g6 :: (.ref 2 0 0) :: v8 :: i' :: g10 :: g11 :: g12 :: g13 :: g14 :: g15 :: g16 :: g17 :: g18 :: g19 :: g20 :: g21 :: g22 :: g23 :: g24 :: g25 :: g26 :: g27 :: g28 :: g29 :: g30 :: g31 :: g32 :: g33 :: g34 :: g35 :: g36 :: g37 :: g38 :: g39 :: g40 :: g41 :: g42 :: g43 :: g44 :: g45 :: g46 :: g47 :: g48 :: g49 :: g50 :: g51 :: g52 :: g53 :: g54 :: g55 :: g56 :: g57 :: g58 :: g59 :: g60 :: []) S []) →
 Wp cfg (.loop (lpOf (Try.f52.body.getD .skip) 0)) (g0 :: g1 :: g2 :: g3 :: (.ref 1 0 0) :: g5 :: g6 :: (.ref 2 0 0) :: v8 :: (.d (.int .i64 i)) :: g10 :: g11 :: g12 :: g13 :: g14 :: g15 :: g16 :: g17 :: g18 :: g19 :: g20 :: g21 :: g22 :: g23 :: g24 :: g25 :: g26 :: g27 :: g28 :: g29 :: g30 :: g31 :: g32 :: g33 :: g34 :: g35 :: g36 :: g37 :: g38 :: g39 :: g40 :: g41 :: g42 :: g43 :: g44 :: g45 :: g46 :: g47 :: g48 :: g49 :: g50 :: g51 :: g52 :: g53 :: g54 :: g55 :: g56 :: g57 :: g58 :: g59 :: g60 :: []) S [] R := by
 intro k
 induction k with
 | zero =>
  intro i xs S v8 g10 g11 g12 g13 g14 g15 g16 g17 g18 g19 g20 g21 g22 g23 g24 g25 g26 g27 g28 g29 g30 g31 g32 g33 g34 g35 g36 g37 g38 g39 g40 g41 g42 g43 g44 g45 g46 g47 g48 g49 g50 g51 g52 g53 g54 g55 g56 g57 g58 g59 g60 hk hi hxl ho hb hc hna hnc hR
  have hie : i = n.names.length := by omega
  have hr : rowE S 2 0 = some (.d (zB n)) := zE hb
  rw [qO]
  refine zV ?_
  conv => arg 2; whnf
  simp (maxSteps := 1000000) (disch := first | assumption | omega | rfl) only [↓gp, gc, Nat.reduceAdd, hr]
  exact hR _ _ _ xs _ _ _ _ _ _ _ _ _ _ _ _ _ _ _ _ _ _ _ _ _ _ _ _ _ _ _ _ _ _ _ _ _ _ _ _ _ _ _ _ _ _ _ _ _ _ _ _ _ _ _ (by rw [hie, List.drop_length]; simp) ho hc hnc
 | succ k ih =>
  intro i xs S v8 g10 g11 g12 g13 g14 g15 g16 g17 g18 g19 g20 g21 g22 g23 g24 g25 g26 g27 g28 g29 g30 g31 g32 g33 g34 g35 g36 g37 g38 g39 g40 g41 g42 g43 g44 g45 g46 g47 g48 g49 g50 g51 g52 g53 g54 g55 g56 g57 g58 g59 g60 hk hi hxl ho hb hc hna hnc hR
  have hlt : i < n.names.length := by omega
  have hdr : n.names.drop i = n.names[i] :: n.names.drop (i + 1) := List.drop_eq_getElem_cons hlt
  rw [hdr] at hR
  have hr : rowE S 2 0 = some (.d (zB n)) := zE hb
  obtain ⟨v', S', c, ha, ho', hfr, hlen⟩ := ap42 n.names[i].name ho (by omega)
  obtain ⟨hb', hna'⟩ := hfr _ _ hb hna
  obtain ⟨hc', hnc'⟩ := hfr _ _ hc hnc
  rw [qO]
  refine zV ?_
  conv => arg 2; whnf
  simp (maxSteps := 1000000) (disch := first | assumption | omega | rfl) only [↓gp, gc, Nat.reduceAdd, hr, ha]
  exact ih (i + 1) (xs ++ [n.names[i].name]) S' v' _ _ _ _ _ _ _ _ _ _ _ _ _ _ _ _ _ _ _ _ _ _ _ _ _ _ _ _ _ _ _ _ _ _ _ _ _ _ _ _ _ _ _ _ _ _ _ _ _ _ _ (by omega) (by omega) (by simp; omega) ho' hb' hc' hna' hnc' (fun S v8 i' ys g10 g11 g12 g13 g14 g15 g16 g17 g18 g19 g20 g21 g22 g23 g24 g25 g26 g27 g28 g29 g30 g31 g32 g33 g34 g35 g36 g37 g38 g39 g40 g41 g42 g43 g44 g45 g46 g47 g48 g49 g50 g51 g52 g53 g54 g55 g56 g57 g58 g59 g60 hy => hR S v8 i' ys g10 g11 g12 g13 g14 g15 g16 g17 g18 g19 g20 g21 g22 g23 g24 g25 g26 g27 g28 g29 g30 g31 g32 g33 g34 g35 g36 g37 g38 g39 g40 g41 g42 g43 g44 g45 g46 g47 g48 g49 g50 g51 g52 g53 g54 g55 g56 g57 g58 g59 g60 (by rw [hy, List.map_cons, List.append_assoc]; rfl))
theorem zqs (t : List Node) (k0 : Nat) (hk0 : k0 < 200000) (hS : Small k0 t) (o : Opn) (ha : o.a.length < 1000000) : Ev cfg 52 [.sl (t.map zB), encOpn o] (.ret (.d (qM (z1g t o)))) := by
 refine wJ rfl rfl zya ?_
 show Wp cfg (Try.f52.body.getD .skip) ((.d (.sl (t.map zB))) :: (.d (encOpn o)) :: (.tup []) :: (.tup []) :: (.tup []) :: (.tup []) :: (.tup []) :: (.tup []) :: (.tup []) :: (.tup []) :: (.tup []) :: (.tup []) :: (.tup []) :: (.tup []) :: (.tup []) :: (.tup []) :: (.tup []) :: (.tup []) :: (.tup []) :: (.tup []) :: (.tup []) :: (.tup []) :: (.tup []) :: (.tup []) :: (.tup []) :: (.tup []) :: (.tup []) :: (.tup []) :: (.tup []) :: (.tup []) :: (.tup []) :: (.tup []) :: (.tup []) :: (.tup []) :: (.tup []) :: (.tup []) :: (.tup []) :: (.tup []) :: (.tup []) :: (.tup []) :: (.tup []) :: (.tup []) :: (.tup []) :: (.tup []) :: (.tup []) :: (.tup []) :: (.tup []) :: (.tup []) :: (.tup []) :: (.tup []) :: (.tup []) :: (.tup []) :: (.tup []) :: (.tup []) :: (.tup []) :: (.tup []) :: (.tup []) :: (.tup []) :: (.tup []) :: (.tup []) :: (.tup []) :: []) [] [] _
 conv => arg 2; whnf
 have hk1 : k0 < 300000 := by omega
 have hlt : t.length < 400000 := Nat.lt_of_le_of_lt hS.len (by omega)
 have hlt' : t.length < 1000000 := by omega
 simp (maxSteps := 1000000) (disch := first | assumption | omega | rfl) only [↓gp, gc, Nat.reduceAdd, vN hS hk1]
 generalize hr : z1g t o = r
 unfold z1g at hr
 generalize zF t o.a = w at hr ⊢
 obtain ⟨ino, e⟩ := w
 simp only at hr
 have hgn : (getN t ino).names.length < 400000 := Nat.lt_of_le_of_lt (hS.gnms _) (by omega)
 by_cases h1 : e = 0
 ·simp (maxSteps := 1000000) (disch := first | assumption | omega | rfl) only [↓gp, gc, Nat.reduceAdd, jP]
  rw [if_neg (by simp [h1])] at hr
  generalize getN t ino = n at hr hgn ⊢
  unfold zj5 at hr
  by_cases d1 : o.does = 11
  ·skip
   simp (maxSteps := 1000000) (disch := first | assumption | omega | rfl) only [↓gp, gc, Nat.reduceAdd, zto]
   rw [if_pos d1] at hr
   subst hr
   exact z0d rfl (v := .agg [.d (.int .i64 0), .d (.int .i64 ino), .d (.int .i64 n.kind), .d (.int .i64 n.links), .d (.int .i64 n.size), .ts [], .ts []]) (by kernel_rfl) rfl rfl
  ·rw [if_neg d1] at hr
   by_cases d2 : o.does = 12
   ·skip
    simp (maxSteps := 1000000) (disch := first | assumption | omega | rfl) only [↓gp, gc, Nat.reduceAdd, z2b]
    rw [if_pos d2] at hr
    subst hr
    exact z0d rfl (v := .agg [.d (.int .i64 0), .d (.int .i64 0), .d (.int .i64 0), .d (.int .i64 0), .d (.int .i64 0), .ts [], .ts []]) (by kernel_rfl) rfl rfl
   ·rw [if_neg d2] at hr
    by_cases k2 : n.kind = 2
    ·rw [if_neg (by simp [k2])] at hr
     simp (maxSteps := 1000000) (disch := first | assumption | omega | rfl) only [↓gp, gc, Nat.reduceAdd]
     refine zvt n hgn _ _ _ _ _ _ _ _ n.names.length 0 [] _ _ _ _ _ _ _ _ _ _ _ _ _ _ _ _ _ _ _ _ _ _ _ _ _ _ _ _ _ _ _ _ _ _ _ _ _ _ _ _ _ _ _ _ _ _ _ _ _ _ _ _ _ rfl (by omega) rfl OwnS.nil rfl rfl NotAt.ts NotAt.ts ?_
     intro S v8 i' ys g10 g11 g12 g13 g14 g15 g16 g17 g18 g19 g20 g21 g22 g23 g24 g25 g26 g27 g28 g29 g30 g31 g32 g33 g34 g35 g36 g37 g38 g39 g40 g41 g42 g43 g44 g45 g46 g47 g48 g49 g50 g51 g52 g53 g54 g55 g56 g57 g58 g59 g60 hy ho hc hnc
     have hr1 : rowE S 1 0 = some _ := zE hc
     have hpr := fun y => qC (y := y) hc
     have hbd := ztp ho
     simp (maxSteps := 1000000) (disch := first | assumption | omega | rfl) only [↓gp, gc, Nat.reduceAdd, hr1, hbd, hpr]
     rw [List.nil_append, List.drop_zero] at hy
     have ho2 := fun y => vE (o := .row [y] 52) ho hnc
     subst hr
     rw [← hy]
     have hld : jZ Try.prog (S.set 1 (.row [(.agg [.d (.int .i64 0), .d (.int .i64 0), .d (.int .i64 0), .d (.int .i64 0), .d (.int .i64 0), .ts [], v8])] 52)) 52 (.ref 1 0 0) = some (.agg [.d (.int .i64 0), .d (.int .i64 0), .d (.int .i64 0), .d (.int .i64 0), .d (.int .i64 0), .ts [], v8]) := by rw [jS (zE (jV hc))]; kernel_rfl
     exact z0d rfl hld rfl (zrq (ho2 _))
    ·skip
     simp (maxSteps := 1000000) (disch := first | assumption | omega | rfl) only [↓gp, gc, Nat.reduceAdd, qP]
     rw [if_pos k2] at hr
     subst hr
     exact z0d rfl (v := .d (qM (qS 6))) (by kernel_rfl) rfl rfl
 ·skip
  simp (maxSteps := 1000000) (disch := first | assumption | omega | rfl) only [↓gp, gc, Nat.reduceAdd, qP]
  rw [if_pos h1] at hr
  subst hr
  exact z0d rfl (v := .d (qM (qS e))) (by kernel_rfl) rfl rfl
theorem zlt {ops : Array Oper} {dst : Option Tmp} {l : List Oper} {T : List V} {S : zA} {F : Dfs} {Q : Post} {t : List Node} {o : Opn} {k0 : Nat} (hS : Small k0 t) (hk0 : k0 < 200000) (ha : o.a.length < 1000000) :
  WpR cfg ops dst l T S F Q (some (.enter 52 [.d (.sl (t.map zB)), .d (encOpn o)])) = WpL cfg ops l (putT T dst (.d (qM (z1g t o)))) S F Q :=
 qA (ds := [.sl (t.map zB), encOpn o]) rfl (zqs t k0 hk0 hS o ha)
end Go.Proofs.Ytghllhghboaagaa
end
section
namespace Go.Proofs.Ytghllhghboaagaa
open Go.Vm
def qN (t : List Node) (o : Opn) : List Node × Ans :=
 if mayN o = false then (t, qS 1)
 else if o.does < 3 then z12 t o
 else if o.does = 3 then z07 t o
 else if o.does < 6 then wA t o
 else if o.does = 6 then kZ t o
 else if o.does < 10 then kQ t o
 else if o.does < 13 then (t, z1g t o)
 else (t, okN)
theorem zr1 (t : List Node) (k0 : Nat) (hk0 : k0 < 190000) (hS : Small k0 t) (o : Opn) (ha : o.a.length < 1000000) (hb : o.b.length < 1000000) : Ev cfg 21 [.sl (t.map zB), encOpn o] (.ret (.tup [.d (.sl ((qN t o).1.map zB)), .d (qM (qN t o).2)])) := by
 refine wJ rfl rfl zwa ?_
 show Wp cfg (Try.f21.body.getD .skip) ((.d (.sl (t.map zB))) :: (.d (encOpn o)) :: (.tup []) :: (.tup []) :: (.tup []) :: (.tup []) :: (.tup []) :: (.tup []) :: (.tup []) :: (.tup []) :: (.tup []) :: (.tup []) :: (.tup []) :: (.tup []) :: (.tup []) :: (.tup []) :: (.tup []) :: (.tup []) :: (.tup []) :: (.tup []) :: (.tup []) :: (.tup []) :: (.tup []) :: (.tup []) :: (.tup []) :: (.tup []) :: (.tup []) :: (.tup []) :: (.tup []) :: (.tup []) :: (.tup []) :: (.tup []) :: (.tup []) :: (.tup []) :: (.tup []) :: (.tup []) :: (.tup []) :: (.tup []) :: (.tup []) :: (.tup []) :: (.tup []) :: (.tup []) :: (.tup []) :: (.tup []) :: (.tup []) :: (.tup []) :: (.tup []) :: (.tup []) :: (.tup []) :: (.tup []) :: (.tup []) :: (.tup []) :: (.tup []) :: (.tup []) :: (.tup []) :: (.tup []) :: (.tup []) :: (.tup []) :: (.tup []) :: (.tup []) :: []) [] [] _
 conv => arg 2; whnf
 have hk1 : k0 < 200000 := by omega
 generalize hr : qN t o = r
 unfold qN at hr
 cases hm : mayN o with
 | false =>
  simp (maxSteps := 1000000) (disch := first | assumption | omega | rfl) only [↓gp, gc, Nat.reduceAdd, z26, hm, qP, z14, Bool.not_false]
  rw [if_pos hm] at hr
  subst hr
  exact qI rfl rfl (x := .d (qM (qS 1))) (by kernel_rfl) rfl rfl rfl rfl
 | true =>
  rw [if_neg (by rw [hm]; exact Bool.noConfusion)] at hr
  have hm2 := of_decide_eq_true hm
  have hd : o.data.length ≤ 1024 := hm2.2.2
  by_cases d1 : o.does < 3
  ·simp (maxSteps := 1000000) (disch := first | assumption | omega | rfl) only [↓gp, gc, Nat.reduceAdd, z26, hm, z14, Bool.not_true, zl4 hS hk1]
   rw [if_pos d1] at hr
   subst hr
   exact qI rfl rfl (x := .d (qM (z12 t o).2)) (by kernel_rfl) rfl rfl rfl rfl
  ·rw [if_neg d1] at hr
   by_cases d2 : o.does = 3
   ·simp (maxSteps := 1000000) (disch := first | assumption | omega | rfl) only [↓gp, gc, Nat.reduceAdd, z26, hm, z14, Bool.not_true, zmc hS hk1]
    rw [if_pos d2] at hr
    subst hr
    exact qI rfl rfl (x := .d (qM (z07 t o).2)) (by kernel_rfl) rfl rfl rfl rfl
   ·rw [if_neg d2] at hr
    by_cases d3 : o.does < 6
    ·simp (maxSteps := 1000000) (disch := first | assumption | omega | rfl) only [↓gp, gc, Nat.reduceAdd, z26, hm, z14, Bool.not_true, zfl hS hk1]
     rw [if_pos d3] at hr
     subst hr
     exact qI rfl rfl (x := .d (qM (wA t o).2)) (by kernel_rfl) rfl rfl rfl rfl
    ·rw [if_neg d3] at hr
     by_cases d4 : o.does = 6
     ·simp (maxSteps := 1000000) (disch := first | assumption | omega | rfl) only [↓gp, gc, Nat.reduceAdd, z26, hm, z14, Bool.not_true, zfu hS hk1]
      rw [if_pos d4] at hr
      subst hr
      exact qI rfl rfl (x := .d (qM (kZ t o).2)) (by kernel_rfl) rfl rfl rfl rfl
     ·rw [if_neg d4] at hr
      by_cases d5 : o.does < 10
      ·have h789 : o.does = 7 ∨ o.does = 8 ∨ o.does = 9 := by omega
       simp (maxSteps := 1000000) (disch := first | assumption | omega | rfl) only [↓gp, gc, Nat.reduceAdd, z26, hm, z14, Bool.not_true, zj9 hS hk1]
       rw [if_pos d5] at hr
       subst hr
       exact qI rfl rfl (x := .d (qM (kQ t o).2)) (by kernel_rfl) rfl rfl rfl rfl
      ·rw [if_neg d5] at hr
       by_cases d6 : o.does < 13
       ·simp (maxSteps := 1000000) (disch := first | assumption | omega | rfl) only [↓gp, gc, Nat.reduceAdd, z26, hm, z14, Bool.not_true, zlt hS hk1]
        rw [if_pos d6] at hr
        subst hr
        exact qI rfl rfl (x := .d (qM (z1g t o))) (by kernel_rfl) rfl rfl rfl rfl
       ·rw [if_neg d6] at hr
        simp (maxSteps := 1000000) (disch := first | assumption | omega | rfl) only [↓gp, gc, Nat.reduceAdd, z26, hm, z14, Bool.not_true, z2b]
        subst hr
        exact qI rfl rfl (x := .agg [.d (.int .i64 0), .d (.int .i64 0), .d (.int .i64 0), .d (.int .i64 0), .d (.int .i64 0), .ts [], .ts []]) (by kernel_rfl) rfl rfl rfl rfl
theorem zlr {ops : Array Oper} {dst : Option Tmp} {l : List Oper} {T : List V} {S : zA} {F : Dfs} {Q : Post} {t : List Node} {o : Opn} {k0 : Nat} (hS : Small k0 t) (hk0 : k0 < 190000) (ha : o.a.length < 1000000) (hb : o.b.length < 1000000) :
  WpR cfg ops dst l T S F Q (some (.enter 21 [.d (.sl (t.map zB)), .d (encOpn o)])) = WpL cfg ops l (putT T dst (.tup [.d (.sl ((qN t o).1.map zB)), .d (qM (qN t o).2)])) S F Q :=
 qA (ds := [.sl (t.map zB), encOpn o]) rfl (zr1 t k0 hk0 hS o ha hb)
theorem Small.make {k : Nat} {t : List Node} {o : Opn} (h : Small k t) : Small (k + 5) (z12 t o).1 := by
 unfold z12
 split
 ·exact h.mono (by omega)
 ·split
  ·exact h.mono (by omega)
  ·have hmk : SmallN (k + 1) (zY t o) := by unfold zY; split <;> exact ⟨Nat.zero_le _, fun e he => by simp at he, ⟨by simp; omega, by simp; omega⟩, by simp⟩
   exact ((h.with hmk).put (by have := z1r t o.a; omega)).mono (by omega)
theorem SmallN.more {k : Nat} {n : Node} (h : SmallN k n) : SmallN (k + 1) (more n) :=
 ⟨Nat.le_succ_of_le h.nms, h.nam, ⟨by have := h.lnk.1; show -((k + 1 : Nat) : Int) ≤ n.links + 1; omega, by have := h.lnk.2; show n.links + 1 ≤ ((k + 1 : Nat) : Int); omega⟩, h.siz⟩
theorem Small.link {k : Nat} {t : List Node} {o : Opn} (h : Small k t) : Small (k + 5) (z07 t o).1 := by
 unfold z07
 split
 ·exact h.mono (by omega)
 ·split
  ·exact h.mono (by omega)
  ·split
   ·exact h.mono (by omega)
   ·split
    ·exact h.mono (by omega)
    ·exact ((h.with (h.get _).more).put (by have := z1r t o.b; omega)).mono (by omega)
theorem Small.remove {k : Nat} {t : List Node} {o : Opn} (h : Small k t) : Small (k + 5) (wA t o).1 := by
 unfold wA
 repeat' split
 all_goals first | exact h.mono (by omega) | exact (h.drop.loses).mono (by omega)
theorem SmallN.moved {k : Nat} {n : Node} {p : Int} (h : SmallN k n) : SmallN k (moved n p) := ⟨h.nms, h.nam, h.lnk, h.siz⟩
theorem Small.rename {k : Nat} {t : List Node} {o : Opn} (h : Small k t) : Small (k + 5) (kZ t o).1 := by
 unfold kZ
 split
 ·exact h.mono (by omega)
 ·split
  ·exact h.mono (by omega)
  ·split
   ·exact h.mono (by omega)
   ·unfold z46
    split
    ·exact h.mono (by omega)
    ·split
     ·exact h.mono (by omega)
     ·split
      ·exact h.mono (by omega)
      ·split
       ·exact h.mono (by omega)
       ·unfold renamed
        have hln := z1r t o.b
        generalize zJ t o.a = w1 at *
        generalize zJ t o.b = w2 at *
        have h1 : Small (k + 2) (if 0 ≤ qR (getN t w2.1).names w2.2.1 then jM (zT t w2.1 w2.2.1) (qR (getN t w2.1).names w2.2.1) else t) := by
         split
         ·exact h.drop.loses
         ·exact h.mono (by omega)
        have h2 := (h1.drop (dir := w1.1) (s := w1.2.1)).put (dir := w2.1) (s := w2.2.1) (ino := qR (getN t w1.1).names w1.2.1) (by omega)
        simp only
        split
        ·exact h2.with ((h2.get _).moved.mono (by omega))
        ·exact h2.mono (by omega)
theorem Small.bytes {k : Nat} {t : List Node} {o : Opn} (h : Small k t) (hd : o.data.length ≤ 1024) : Small (k + 5) (kQ t o).1 := by
 unfold kQ
 split
 ·exact h.mono (by omega)
 ·have hg := (h.get (zF t o.a).1).mono (Nat.le_succ k)
  generalize getN t (zF t o.a).1 = n at hg ⊢
  unfold z1f
  split
  ·exact h.mono (by omega)
  ·split
   ·split
    ·exact h.mono (by omega)
    ·split
     ·exact h.mono (by omega)
     ·split
      ·exact h.mono (by omega)
      ·rename_i c1 c2 c3
       have hs := hg.siz
       have hw : 0 ≤ z2k n o ∧ z2k n o ≤ 34304 := by unfold z2k; split <;> omega
       refine (h.with (n := vK n o) ⟨hg.nms, hg.nam, hg.lnk, hw.1, hw.2, ?_⟩).mono (by omega)
       show ((layN (layN (List.replicate (z2k n o).toNat 0) 0 n.data) o.off o.data).length : Int) = z2k n o
       rw [z1j, z1j, List.length_replicate]
       omega
   ·split
    ·split
     ·exact h.mono (by omega)
     ·split <;> exact h.mono (by omega)
    ·split
     ·exact h.mono (by omega)
     ·split
      ·exact h.mono (by omega)
      ·rename_i c1 c2
       refine (h.with (n := cutN n o.n) ⟨hg.nms, hg.nam, hg.lnk, by show 0 ≤ o.n; omega, by show o.n ≤ 34304; omega, ?_⟩).mono (by omega)
       show ((layN (List.replicate o.n.toNat 0) 0 n.data).length : Int) = o.n
       rw [z1j, List.length_replicate]
       omega
theorem Small.step {k : Nat} {t : List Node} {o : Opn} (h : Small k t) : Small (k + 5) (qN t o).1 := by
 unfold qN
 split
 ·exact h.mono (by omega)
 ·rename_i hm
  have hd : o.data.length ≤ 1024 := by
   cases hm' : mayN o with
   | false => exact absurd hm' hm
   | true => exact (of_decide_eq_true hm').2.2
  repeat' split
  ·exact h.make
  ·exact h.link
  ·exact h.remove
  ·exact h.rename
  ·exact h.bytes hd
  ·exact h.mono (by omega)
  ·exact h.mono (by omega)
theorem Small.new : Small 1 newN := ⟨by simp [newN], fun n hn => by simp [newN] at hn; subst hn; simp, fun n hn => by simp [newN] at hn; subst hn; simp, fun n hn => by simp [newN] at hn; subst hn; simp, fun n hn => by simp [newN] at hn; subst hn; simp⟩
def zil (l : List Opn) : List Node := l.foldl (fun t o => (qN t o).1) newN
structure Script (l : List Opn) : Prop where
 len : l.length ≤ 1000
 a : ∀ o ∈ l, o.a.length ≤ 300
 b : ∀ o ∈ l, o.b.length ≤ 300
 data : ∀ o ∈ l, o.data.length ≤ 1100
theorem zu1 (l : List Opn) (hl : Script l) (R : Post) (g1 g2 : V) : ∀ (k i : Nat) (t : List Node) (S : zA) (g5 g6 g7 g8 g9 g10 g11 g12 g13 g14 g15 g16 g17 g18 g19 g20 g21 g22 g23 g24 : V),
 l.length - i = k → i ≤ l.length → Small (1 + 5 * i) t →
 (∀ S i' g5 g6 g7 g8 g9 g10 g11 g12 g13 g14 g15 g16 g17 g18 g19 g20 g21 g22 g23 g24, R (.exit 0) ((.d (.sl (l.map encOpn))) :: g1 :: g2 :: (.d (.sl (((l.drop i).foldl (fun t o => (qN t o).1) t).map zB))) :: i' :: g5 :: g6 :: g7 :: g8 :: g9 :: g10 :: g11 :: g12 :: g13 :: g14 :: g15 :: g16 :: g17 :: g18 :: g19 :: g20 :: g21 :: g22 :: g23 :: g24 :: []) S []) →
 Wp cfg (.loop (lpOf (Try.f13.body.getD .skip) 0)) ((.d (.sl (l.map encOpn))) :: g1 :: g2 :: (.d (.sl (t.map zB))) :: (.d (.int .i64 i)) :: g5 :: g6 :: g7 :: g8 :: g9 :: g10 :: g11 :: g12 :: g13 :: g14 :: g15 :: g16 :: g17 :: g18 :: g19 :: g20 :: g21 :: g22 :: g23 :: g24 :: []) S [] R := by
 intro k
 have hlen := hl.len
 induction k with
 | zero =>
  intro i t S g5 g6 g7 g8 g9 g10 g11 g12 g13 g14 g15 g16 g17 g18 g19 g20 g21 g22 g23 g24 hk hi hS hR
  have hie : i = l.length := by omega
  rw [qO]
  refine zV ?_
  conv => arg 2; whnf
  simp (maxSteps := 1000000) (disch := first | assumption | omega | rfl) only [↓gp, gc, Nat.reduceAdd]
  rw [hie, List.drop_length] at hR
  exact hR _ _ _ _ _ _ _ _ _ _ _ _ _ _ _ _ _ _ _ _ _ _
 | succ k ih =>
  intro i t S g5 g6 g7 g8 g9 g10 g11 g12 g13 g14 g15 g16 g17 g18 g19 g20 g21 g22 g23 g24 hk hi hS hR
  have hlt : i < l.length := by omega
  have hdr : l.drop i = l[i] :: l.drop (i + 1) := List.drop_eq_getElem_cons hlt
  rw [hdr] at hR
  have ha := hl.a _ (List.getElem_mem hlt)
  have hb := hl.b _ (List.getElem_mem hlt)
  have ha' : l[i].a.length < 1000000 := by omega
  have hb' : l[i].b.length < 1000000 := by omega
  have hk0 : 1 + 5 * i < 190000 := by omega
  rw [qO]
  refine zV ?_
  conv => arg 2; whnf
  simp (maxSteps := 1000000) (disch := first | assumption | omega | rfl) only [↓gp, gc, Nat.reduceAdd, zlr hS hk0, zR, zQ]
  exact ih (i + 1) (qN t l[i]).1 _ _ _ _ _ _ _ _ _ _ _ _ _ _ _ _ _ _ _ _ _ (by omega) (by omega) (by rw [show 1 + 5 * (i + 1) = 1 + 5 * i + 5 by omega]; exact hS.step) hR
theorem zs7 (l : List Opn) (hl : Script l) : Ev cfg 13 [.sl (l.map encOpn)] (.ret (.d (.sl ((zil l).map zB)))) := by
 refine wJ rfl rfl zvu ?_
 show Wp cfg (Try.f13.body.getD .skip) ((.d (.sl (l.map encOpn))) :: (.tup []) :: (.tup []) :: (.tup []) :: (.tup []) :: (.tup []) :: (.tup []) :: (.tup []) :: (.tup []) :: (.tup []) :: (.tup []) :: (.tup []) :: (.tup []) :: (.tup []) :: (.tup []) :: (.tup []) :: (.tup []) :: (.tup []) :: (.tup []) :: (.tup []) :: (.tup []) :: (.tup []) :: (.tup []) :: (.tup []) :: (.tup []) :: []) [] [] _
 conv => arg 2; whnf
 simp (maxSteps := 1000000) (disch := first | assumption | omega | rfl) only [↓gp, gc, Nat.reduceAdd, zoc]
 refine zu1 l hl _ _ _ l.length 0 newN _ _ _ _ _ _ _ _ _ _ _ _ _ _ _ _ _ _ _ _ _ rfl (by omega) Small.new ?_
 intro S i' g5 g6 g7 g8 g9 g10 g11 g12 g13 g14 g15 g16 g17 g18 g19 g20 g21 g22 g23 g24
 simp (maxSteps := 1000000) (disch := first | assumption | omega | rfl) only [↓gp, gc, Nat.reduceAdd]
 exact zS rfl rfl rfl
end Go.Proofs.Ytghllhghboaagaa
end
section
namespace Go.Proofs.Ytghllhghboaagaa
open Go.Vm
theorem z09 {S S' : zA} {v : V} {e : TypeId} {xs : List V} (h : OwnS S v e xs) (hk : ∀ (j : Nat) (o : Ob), S[j]? = some o → S'[j]? = some o) : OwnS S' v e xs := by
 rcases h with h | ⟨j, rfl, h1⟩
 ·exact .inl h
 ·exact .inr ⟨j, rfl, hk _ _ h1⟩
theorem zqq {S : zA} {v : V} {e : TypeId} {xs : List V} {j : Nat} (h : OwnS S v e xs) (hn : ∀ o, S[j]? = some o → ∀ xs e, o ≠ .row xs e) : NotAt v j := by
 rcases h with ⟨rfl, _⟩ | ⟨i, rfl, h1⟩
 ·exact NotAt.ts
 ·intro off l hh
  cases hh
  exact hn _ h1 _ _ rfl
def badO (o : Opn) : Bool := decide ((o.a.length : Int) > 300 ∨ (o.b.length : Int) > 300 ∨ (o.data.length : Int) > 1100)
theorem zyg (l : List Opn) (hl : l.length < 1000000) (R : Post) (S : zA) (g1 g4 : V) : ∀ (k i : Nat) (g6 g7 g8 g9 g10 g11 g12 g13 g14 g15 g16 g17 g18 g19 g20 g21 g22 g23 g24 g25 g26 g27 g28 g29 g30 g31 g32 g33 g34 g35 g36 g37 g38 g39 g40 : V), l.length - i = k → i ≤ l.length →
 (∀ i' g6 g7 g8 g9 g10 g11 g12 g13 g14 g15 g16 g17 g18 g19 g20 g21 g22 g23 g24 g25 g26 g27 g28 g29 g30 g31 g32 g33 g34 g35 g36 g37 g38 g39 g40, (l.drop i).any badO = false → R (.exit 0) ((.d (.sl (l.map encOpn))) :: g1 :: (.tup []) :: (.tup []) :: g4 :: i' :: g6 :: g7 :: g8 :: g9 :: g10 :: g11 :: g12 :: g13 :: g14 :: g15 :: g16 :: g17 :: g18 :: g19 :: g20 :: g21 :: g22 :: g23 :: g24 :: g25 :: g26 :: g27 :: g28 :: g29 :: g30 :: g31 :: g32 :: g33 :: g34 :: g35 :: g36 :: g37 :: g38 :: g39 :: g40 :: []) S []) →
 (∀ i' g6 g7 g8 g9 g10 g11 g12 g13 g14 g15 g16 g17 g18 g19 g20 g21 g22 g23 g24 g25 g26 g27 g28 g29 g30 g31 g32 g33 g34 g35 g36 g37 g38 g39 g40, (l.drop i).any badO = true → R .ret ((.d (.sl (l.map encOpn))) :: g1 :: (.tup []) :: (.tup []) :: (.d (.bool true)) :: i' :: g6 :: g7 :: g8 :: g9 :: g10 :: g11 :: g12 :: g13 :: g14 :: g15 :: g16 :: g17 :: g18 :: g19 :: g20 :: g21 :: g22 :: g23 :: g24 :: g25 :: g26 :: g27 :: g28 :: g29 :: g30 :: g31 :: g32 :: g33 :: g34 :: g35 :: g36 :: g37 :: g38 :: g39 :: g40 :: []) S []) →
 Wp cfg (.loop (lpOf (Try.f10.body.getD .skip) 0)) ((.d (.sl (l.map encOpn))) :: g1 :: (.tup []) :: (.tup []) :: g4 :: (.d (.int .i64 i)) :: g6 :: g7 :: g8 :: g9 :: g10 :: g11 :: g12 :: g13 :: g14 :: g15 :: g16 :: g17 :: g18 :: g19 :: g20 :: g21 :: g22 :: g23 :: g24 :: g25 :: g26 :: g27 :: g28 :: g29 :: g30 :: g31 :: g32 :: g33 :: g34 :: g35 :: g36 :: g37 :: g38 :: g39 :: g40 :: []) S [] R := by
 intro k
 induction k with
 | zero =>
  intro i g6 g7 g8 g9 g10 g11 g12 g13 g14 g15 g16 g17 g18 g19 g20 g21 g22 g23 g24 g25 g26 g27 g28 g29 g30 g31 g32 g33 g34 g35 g36 g37 g38 g39 g40 hk hi hE hR
  have hie : i = l.length := by omega
  rw [qO]
  refine zV ?_
  conv => arg 2; whnf
  simp (maxSteps := 1000000) (disch := first | assumption | omega | rfl) only [↓gp, gc, Nat.reduceAdd]
  exact hE _ _ _ _ _ _ _ _ _ _ _ _ _ _ _ _ _ _ _ _ _ _ _ _ _ _ _ _ _ _ _ _ _ _ _ _ (by rw [hie, List.drop_length]; rfl)
 | succ k ih =>
  intro i g6 g7 g8 g9 g10 g11 g12 g13 g14 g15 g16 g17 g18 g19 g20 g21 g22 g23 g24 g25 g26 g27 g28 g29 g30 g31 g32 g33 g34 g35 g36 g37 g38 g39 g40 hk hi hE hR
  have hlt : i < l.length := by omega
  have hdr : l.drop i = l[i] :: l.drop (i + 1) := List.drop_eq_getElem_cons hlt
  rw [hdr, List.any_cons] at hE hR
  rw [qO]
  refine zV ?_
  conv => arg 2; whnf
  by_cases c1 : (l[i].a.length : Int) > 300
  ·skip
   have hb : badO l[i] = true := decide_eq_true (.inl c1)
   simp (maxSteps := 1000000) (disch := first | assumption | omega | rfl) only [↓gp, gc, Nat.reduceAdd, ldB, lenB]
   exact hR _ _ _ _ _ _ _ _ _ _ _ _ _ _ _ _ _ _ _ _ _ _ _ _ _ _ _ _ _ _ _ _ _ _ _ _ (by rw [hb]; rfl)
  ·by_cases c2 : (l[i].b.length : Int) > 300
   ·have hb : badO l[i] = true := decide_eq_true (.inr (.inl c2))
    simp (maxSteps := 1000000) (disch := first | assumption | omega | rfl) only [↓gp, gc, Nat.reduceAdd, ldB, lenB]
    exact hR _ _ _ _ _ _ _ _ _ _ _ _ _ _ _ _ _ _ _ _ _ _ _ _ _ _ _ _ _ _ _ _ _ _ _ _ (by rw [hb]; rfl)
   ·by_cases c3 : (l[i].data.length : Int) > 1100
    ·have hb : badO l[i] = true := decide_eq_true (.inr (.inr c3))
     simp (maxSteps := 1000000) (disch := first | assumption | omega | rfl) only [↓gp, gc, Nat.reduceAdd, ldB, lenB]
     exact hR _ _ _ _ _ _ _ _ _ _ _ _ _ _ _ _ _ _ _ _ _ _ _ _ _ _ _ _ _ _ _ _ _ _ _ _ (by rw [hb]; rfl)
    ·have hb : badO l[i] = false := decide_eq_false (by omega)
     rw [hb, Bool.false_or] at hE hR
     simp (maxSteps := 1000000) (disch := first | assumption | omega | rfl) only [↓gp, gc, Nat.reduceAdd, ldB, lenB]
     exact ih (i + 1) _ _ _ _ _ _ _ _ _ _ _ _ _ _ _ _ _ _ _ _ _ _ _ _ _ _ _ _ _ _ _ _ _ _ _ (by omega) (by omega) hE hR
def zab (l : List Opn) (m : Int) : Bool := decide ((l.length : Int) > m) || l.any badO
theorem zl0 (l : List Opn) (m : Int) (hm : m ≤ 1000) : Ev cfg 10 [.sl (l.map encOpn), .int .i64 m] (.ret (.d (.bool (zab l m)))) := by
 refine wJ rfl rfl zwc ?_
 show Wp cfg (Try.f10.body.getD .skip) ((.d (.sl (l.map encOpn))) :: (.d (.int .i64 m)) :: (.tup []) :: (.tup []) :: (.tup []) :: (.tup []) :: (.tup []) :: (.tup []) :: (.tup []) :: (.tup []) :: (.tup []) :: (.tup []) :: (.tup []) :: (.tup []) :: (.tup []) :: (.tup []) :: (.tup []) :: (.tup []) :: (.tup []) :: (.tup []) :: (.tup []) :: (.tup []) :: (.tup []) :: (.tup []) :: (.tup []) :: (.tup []) :: (.tup []) :: (.tup []) :: (.tup []) :: (.tup []) :: (.tup []) :: (.tup []) :: (.tup []) :: (.tup []) :: (.tup []) :: (.tup []) :: (.tup []) :: (.tup []) :: (.tup []) :: (.tup []) :: (.tup []) :: []) [] [] _
 conv => arg 2; whnf
 unfold zab
 by_cases c : (l.length : Int) > m
 ·skip
  simp (maxSteps := 1000000) (disch := first | assumption | omega | rfl) only [↓gp, gc, Nat.reduceAdd]
  exact zS rfl rfl rfl
 ·rw [decide_eq_false c, Bool.false_or]
  have hl : l.length < 1000000 := by omega
  simp (maxSteps := 1000000) (disch := first | assumption | omega | rfl) only [↓gp, gc, Nat.reduceAdd]
  refine zyg l hl _ _ _ _ l.length 0 _ _ _ _ _ _ _ _ _ _ _ _ _ _ _ _ _ _ _ _ _ _ _ _ _ _ _ _ _ _ _ _ _ _ _ rfl (by omega) ?_ ?_
  ·intro i' g6 g7 g8 g9 g10 g11 g12 g13 g14 g15 g16 g17 g18 g19 g20 g21 g22 g23 g24 g25 g26 g27 g28 g29 g30 g31 g32 g33 g34 g35 g36 g37 g38 g39 g40 h
   rw [List.drop_zero] at h
   simp (maxSteps := 1000000) (disch := first | assumption | omega | rfl) only [↓gp, gc, Nat.reduceAdd]
   rw [h]
   exact zS rfl rfl rfl
  ·intro i' g6 g7 g8 g9 g10 g11 g12 g13 g14 g15 g16 g17 g18 g19 g20 g21 g22 g23 g24 g25 g26 g27 g28 g29 g30 g31 g32 g33 g34 g35 g36 g37 g38 g39 g40 h
   rw [List.drop_zero] at h
   simp (maxSteps := 1000000) (disch := first | assumption | omega | rfl) only [↓gp, gc, Nat.reduceAdd]
   rw [h]
   exact zS rfl rfl rfl
theorem zdt {S : zA} {T : List V} {dst : Option Tmp} {ty : TypeId} {pos : String} {after : Array Edge} {g : Option (Nat × Bool)} : opV Try.prog S T ⟨dst, .buildSlice 29 0 #[], ty, pos, after, g⟩ = some (.val (.ts []) S 0) := by kernel_rfl
theorem zpa {S : zA} {T : List V} {dst : Option Tmp} {ty : TypeId} {pos : String} {after : Array Edge} {g : Option (Nat × Bool)} : opV Try.prog S T ⟨dst, .buildSlice 30 0 #[], ty, pos, after, g⟩ = some (.val (.ts []) S 0) := by kernel_rfl
theorem apB {S : zA} {l : List UInt8} (h : l.length ≤ 1000000) : ∃ v' S' c, qG Try.prog S 29 29 (.ts []) (.d (encB l)) = some (v', S', c) ∧ OwnS S' v' 5 (l.map fun b => .d (.int .u8 b.toNat)) ∧ (∀ j o, S[j]? = some o → S'[j]? = some o ∧ NotAt v' j) ∧ S.length ≤ S'.length := by
 obtain ⟨v', S', c, h1, h2, h3, h4⟩ := zau (S := S) (xs := l.map fun b => D.int .u8 b.toNat) Try.underlying29 zy4 zt7 (by simp only [List.mem_map]; rintro x ⟨b, _, rfl⟩; exact zp4 _) (by rw [List.length_map]; exact zd0 h)
 exact ⟨v', S', c, h1, by simpa [List.map_map, Function.comp_def] using h2, h3, h4⟩
theorem apE {S : zA} {l : List Ent} (h : l.length ≤ 1000000) : ∃ v' S' c, qG Try.prog S 30 30 (.ts []) (.d (.sl (l.map zK))) = some (v', S', c) ∧ OwnS S' v' 88 (l.map fun b => .d (zK b)) ∧ (∀ j o, S[j]? = some o → S'[j]? = some o ∧ NotAt v' j) ∧ S.length ≤ S'.length := by
 obtain ⟨v', S', c, h1, h2, h3, h4⟩ := zau (S := S) (xs := l.map zK) Try.underlying30 zyl zxj (by simp only [List.mem_map]; rintro x ⟨b, _, rfl⟩; exact zh8 _) (by rw [List.length_map]; exact zpz h)
 exact ⟨v', S', c, h1, by simpa [List.map_map, Function.comp_def] using h2, h3, h4⟩
def zC (n : Node) (v1 v2 : V) : V := .agg [.d (.int .i64 n.ino), .d (.int .i64 n.kind), .d (.int .i64 n.links), .d (.int .i64 n.parent), .d (.int .i64 n.size), v1, v2]
theorem zdd {k : Nat} {S : zA} {n : Node} {v1 v2 : V} (h1 : OwnS S v1 5 (n.data.map fun b => .d (.int .u8 b.toNat))) (h2 : OwnS S v2 88 (n.names.map fun x => .d (zK x))) :
  frz S (k + 3) (zC n v1 v2) = some (zB n) := by
 have e1 : frz S (k + 2) v1 = some (encB n.data) := z89 (n := k) (z97 (enc := fun b : UInt8 => D.int .u8 b.toNat) h1)
 have e2 : frz S (k + 2) v2 = some (.sl (n.names.map zK)) := z89 (n := k) (z97 h2)
 show (match allO (frz S (k + 2)) [.d (.int .i64 n.ino), .d (.int .i64 n.kind), .d (.int .i64 n.links), .d (.int .i64 n.parent), .d (.int .i64 n.size), v1, v2] with | some ds => if ds.any D.isAgg then none else some (D.agg ds) | none => none) = _
 have h2 : ∀ x : D, frz S (k + 2) (.d x) = some x := fun _ => rfl
 simp only [allO, e1, e2, h2]
 rfl
def hasN (t : List Node) (ino : Int) : Bool := (t.find? (fun n => decide (n.ino = ino))).isSome
end Go.Proofs.Ytghllhghboaagaa
end
