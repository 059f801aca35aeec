/- The document's model: Resolve, Where, Next, Fail. -/
import GoSem.Core.Utf8
import Derived.KernelRfl
import Derived.Test.YtghllhghboaagaaC06
set_option linter.unusedVariables false
set_option linter.unusedSimpArgs false
set_option maxRecDepth 100000
set_option maxHeartbeats 4000000
set_option linter.defProp false
section
namespace Go.Proofs.Ytghllhghboaagaa
open Go.Vm
theorem z6z : ∀ (r part : List UInt8) (l : List (List UInt8)), kW part r = some l → l.length ≤ r.length + 1
 | [], part, l, h => by
  by_cases hp : part = []
  ·simp [kW, hp] at h
  ·simp only [kW, hp, if_false, Option.some.injEq] at h
   subst h
   simp
 | c :: r, part, l, h => by
  by_cases hc : c = 47
  ·by_cases hp : part = []
   ·simp [kW, hp, hc] at h
   ·simp only [kW, hc, hp, if_true, if_false, Option.map_eq_some_iff] at h
    obtain ⟨l', h1, rfl⟩ := h
    have := z6z r [] l' h1
    simp
    omega
  ·simp only [kW, hc, if_false] at h
   have := z6z r _ l h
   simp
   omega
theorem z2t (s : List UInt8) : (zQ s).1.length ≤ 200 := by
 unfold zQ
 by_cases h1 : s.length < 1 ∨ 200 < s.length ∨ s.head? ≠ some 47
 ·rw [if_pos h1]; simp
 ·rw [if_neg h1]
  by_cases h2 : s.length = 1
  ·rw [if_pos h2]; simp
  ·rw [if_neg h2]
   cases h : kW [] (s.drop 1) with
   | none => simp
   | some l =>
    have := z6z _ _ _ h
    simp at this
    simp only
    split
    ·show l.length ≤ 200
     omega
    ·simp
theorem zi2 (s : List UInt8) : ∀ x ∈ (zQ s).1, wM x = true := by
 unfold zQ
 by_cases h1 : s.length < 1 ∨ 200 < s.length ∨ s.head? ≠ some 47
 ·rw [if_pos h1]; simp
 ·rw [if_neg h1]
  by_cases h2 : s.length = 1
  ·rw [if_pos h2]; simp
  ·rw [if_neg h2]
   cases h : kW [] (s.drop 1) with
   | none => simp
   | some l =>
    simp only
    split
    ·rename_i ha
     exact fun x hx => List.all_eq_true.1 ha x hx
    ·simp
theorem zhw {s : List UInt8} (h : wM s = true) : s.length ≤ 24 := by
 simp only [wM, Bool.and_eq_true, decide_eq_true_eq] at h
 exact h.1.2.1
def zH (t : List Node) (s : List UInt8) : Int × Int := if (zQ s).2 ≠ 0 then (0, (zQ s).2) else goN t (zQ s).1 1
theorem zik (t : List Node) (k0 : Nat) (hk0 : k0 < 300000) (hS : Small k0 t) (s : List UInt8) (hl : s.length < 1000000) : Ev cfg 28 [.sl (t.map zB), .str s] (.ret (.tup [.d (.int .i64 (zH t s).1), .d (.int .i64 (zH t s).2)])) := by
 refine kQ rfl rfl zxl ?_
 show Wp cfg (Try.f28.body.getD .skip) ((.d (.sl (t.map zB))) :: (.d (.str s)) :: uZ ((.tup []) :: (.tup []) :: (.tup []) :: (.tup []) :: (.tup []) :: (.tup []) :: (.tup []) :: (.tup []) :: (.tup []) :: [])) [] [] _
 unfold uZ
 conv => arg 2; whnf
 have hn := z2t s
 have hn' : (zQ s).1.length < 1000000 := by omega
 by_cases h : (zQ s).2 = 0
 ·have e : zH t s = goN t (zQ s).1 1 := by simp only [zH, h, ne_eq, not_true_eq_false, if_false]
  simp (maxSteps:=1000000) (disch:=first|assumption|omega|rfl) only [↓vmp, ga, Nat.reduceAdd, vmg, strOf_mk, Option.map_some, Option.map_none, z0s, zbs hS hk0]
  rw [e]
  exact kF rfl rfl rfl rfl rfl rfl
 ·have e : zH t s = (0, (zQ s).2) := by simp only [zH, h, ne_eq, not_false_eq_true, if_true]
  simp (maxSteps:=1000000) (disch:=first|assumption|omega|rfl) only [↓vmp, ga, Nat.reduceAdd, vmg, strOf_mk, Option.map_some, Option.map_none, z0s]
  rw [e]
  exact kF rfl rfl rfl rfl rfl rfl
def zK (t : List Node) (s : List UInt8) : Int × List UInt8 × Int :=
 if (zQ s).2 ≠ 0 then (0, [], (zQ s).2)
 else if (zQ s).1.length = 0 then (0, [], 15)
 else if (goN t ((zQ s).1.take ((zQ s).1.length - 1)) 1).2 ≠ 0 then (0, [], (goN t ((zQ s).1.take ((zQ s).1.length - 1)) 1).2)
 else if (getN t (goN t ((zQ s).1.take ((zQ s).1.length - 1)) 1).1).kind ≠ 2 then (0, [], 6)
 else ((goN t ((zQ s).1.take ((zQ s).1.length - 1)) 1).1, (zQ s).1.getD ((zQ s).1.length - 1) [], 0)
theorem zoc (t : List Node) (k0 : Nat) (hk0 : k0 < 300000) (hS : Small k0 t) (s : List UInt8) (hl : s.length < 1000000) : Ev cfg 30 [.sl (t.map zB), .str s] (.ret (.tup [.d (.int .i64 (zK t s).1), .d (.str (zK t s).2.1), .d (.int .i64 (zK t s).2.2)])) := by
 refine kQ rfl rfl zx9 ?_
 show Wp cfg (Try.f30.body.getD .skip) ((.d (.sl (t.map zB))) :: (.d (.str s)) :: uZ (uZ (uZ (uZ ((.tup []) :: (.tup []) :: (.tup []) :: (.tup []) :: (.tup []) :: []))))) [] [] _
 unfold uZ
 conv => arg 2; whnf
 have hn := z2t s
 have hlt' : t.length < 1000000 := Nat.lt_of_le_of_lt hS.len (by omega)
 have hw : zK t s = (if (zQ s).2 ≠ 0 then (0, [], (zQ s).2)
 else if (zQ s).1.length = 0 then (0, [], 15)
 else if (goN t ((zQ s).1.take ((zQ s).1.length - 1)) 1).2 ≠ 0 then (0, [], (goN t ((zQ s).1.take ((zQ s).1.length - 1)) 1).2)
 else if (getN t (goN t ((zQ s).1.take ((zQ s).1.length - 1)) 1).1).kind ≠ 2 then (0, [], 6)
 else ((goN t ((zQ s).1.take ((zQ s).1.length - 1)) 1).1, (zQ s).1.getD ((zQ s).1.length - 1) [], 0)) := rfl
 by_cases h : (zQ s).2 = 0
 ·rw [if_neg (by simp [h])] at hw
  by_cases h0 : (zQ s).1.length = 0
  ·rw [if_pos h0] at hw
   simp (maxSteps:=1000000) (disch:=first|assumption|omega|rfl) only [↓vmp, ga, Nat.reduceAdd, vmg, strOf_mk, Option.map_some, Option.map_none, z0s]
   rw [hw]
   exact z03 rfl rfl rfl rfl rfl rfl rfl rfl rfl
  ·rw [if_neg h0] at hw
   have hsl := zpl (S := []) (P := Try.prog) (t := 42) (e := 9) (xs := (zQ s).1.map D.str) (hi := ((zQ s).1.length : Int) - 1) Try.underlying42 (by simp only [List.all_map, List.all_eq_true]; intro x _; exact zo5 x) zjv (by omega) (by simp only [List.length_map]; omega)
   rw [← List.map_take, show (((zQ s).1.length : Int) - 1).toNat = (zQ s).1.length - 1 by omega] at hsl
   have hn' : ((zQ s).1.take ((zQ s).1.length - 1)).length < 1000000 := by rw [List.length_take]; omega
   by_cases h1 : (goN t ((zQ s).1.take ((zQ s).1.length - 1)) 1).2 = 0
   ·rw [if_neg (by simp [h1])] at hw
    by_cases h2 : (getN t (goN t ((zQ s).1.take ((zQ s).1.length - 1)) 1).1).kind = 2
    ·rw [if_neg (by simp [h2])] at hw
     have hlt : (zQ s).1.length - 1 < (zQ s).1.length := by omega
     have hix := ix42 (S := []) hlt
     rw [show (((zQ s).1.length - 1 : Nat) : Int) = ((zQ s).1.length : Int) - 1 by omega] at hix
     simp (maxSteps:=1000000) (disch:=first|assumption|omega|rfl) only [↓vmp, ga, Nat.reduceAdd, vmg, strOf_mk, Option.map_some, Option.map_none, z0s, hsl, zbs hS hk0, jP]
     refine qS (is := [0, 1, 2, 3, 4, 5, 6, 7, 8, 9]) (h := 0) (by kernel_rfl) (by kernel_rfl) ?_
     simp (maxSteps:=1000000) (disch:=first|assumption|omega|rfl) only [List.replicate_zero, eq_self, vmd, vmk, vmo, vmg, ga, Nat.reduceAdd, hix]
     refine ⟨by kernel_rfl, ?_⟩
     simp (maxSteps:=1000000) (disch:=first|assumption|omega|rfl) only [↓vmp, ga, Nat.reduceAdd]
     rw [hw, List.getD_eq_getElem?_getD, List.getElem?_eq_getElem hlt]
     exact z03 rfl rfl rfl rfl rfl rfl rfl rfl rfl
    ·rw [if_pos h2] at hw
     simp (maxSteps:=1000000) (disch:=first|assumption|omega|rfl) only [↓vmp, ga, Nat.reduceAdd, vmg, strOf_mk, Option.map_some, Option.map_none, z0s, hsl, zbs hS hk0, jP]
     rw [hw]
     exact z03 rfl rfl rfl rfl rfl rfl rfl rfl rfl
   ·rw [if_pos h1] at hw
    simp (maxSteps:=1000000) (disch:=first|assumption|omega|rfl) only [↓vmp, ga, Nat.reduceAdd, vmg, strOf_mk, Option.map_some, Option.map_none, z0s, hsl, zbs hS hk0]
    rw [hw]
    exact z03 rfl rfl rfl rfl rfl rfl rfl rfl rfl
 ·rw [if_pos h] at hw
  simp (maxSteps:=1000000) (disch:=first|assumption|omega|rfl) only [↓vmp, ga, Nat.reduceAdd, vmg, strOf_mk, Option.map_some, Option.map_none, z0s]
  rw [hw]
  exact z03 rfl rfl rfl rfl rfl rfl rfl rfl rfl
theorem vJ {ops : Array Oper} {dst : Option Tmp} {l : List Oper} {T : List V} {S : zA} {F : Dfs} {Q : Post} {t : List Node} {s : List UInt8} {k0 : Nat} (hS : Small k0 t) (hk0 : k0 < 300000) (hl : s.length < 1000000) :
  WpR cfg ops dst l T S F Q (some (.enter 28 [.d (.sl (t.map zB)), .d (.str s)])) = WpL cfg ops l (putT T dst (.tup [.d (.int .i64 (zH t s).1), .d (.int .i64 (zH t s).2)])) S F Q :=
 zX (ds := [.sl (t.map zB), .str s]) rfl (zik t k0 hk0 hS s hl)
theorem wY {ops : Array Oper} {dst : Option Tmp} {l : List Oper} {T : List V} {S : zA} {F : Dfs} {Q : Post} {t : List Node} {s : List UInt8} {k0 : Nat} (hS : Small k0 t) (hk0 : k0 < 300000) (hl : s.length < 1000000) :
  WpR cfg ops dst l T S F Q (some (.enter 30 [.d (.sl (t.map zB)), .d (.str s)])) = WpL cfg ops l (putT T dst (.tup [.d (.int .i64 (zK t s).1), .d (.str (zK t s).2.1), .d (.int .i64 (zK t s).2.2)])) S F Q :=
 zX (ds := [.sl (t.map zB), .str s]) rfl (zoc t k0 hk0 hS s hl)
def z2j (t : List Node) : Nat → Int → Int
 | 0, i => i
 | n + 1, i => if 0 ≤ jE i 0 t then z2j t n (i + 1) else i
def jA (t : List Node) : Int := z2j t (t.length + 1) 2
theorem zje {t : List Node} {i : Int} (h : jE i 0 t < 0) : ∀ n ∈ t, n.ino ≠ i := by
 rcases z06 i t 0 with ⟨h1, h2⟩ | ⟨k, hk, h1, h2⟩
 ·intro n hn hi
  have := List.find?_eq_none.1 h1 n hn
  simp [hi] at this
 ·omega
theorem z67 {t : List Node} {i : Int} (h : 0 ≤ jE i 0 t) : ∃ n ∈ t, n.ino = i := by
 rcases z06 i t 0 with ⟨h1, h2⟩ | ⟨k, hk, h1, h2⟩
 ·omega
 ·exact ⟨t[k], List.getElem_mem hk, by simpa using List.find?_some h2⟩
def zdc (t : List Node) (i : Int) : Nat := t.countP (fun n => decide (i ≤ n.ino))
theorem z87 {t : List Node} {i : Int} (h : ∃ n ∈ t, n.ino = i) : zdc t (i + 1) < zdc t i := by
 obtain ⟨n, hn, hi⟩ := h
 unfold zdc
 induction t with
 | nil => simp at hn
 | cons x r ih =>
  have mono : ∀ r : List Node, r.countP (fun n => decide (i + 1 ≤ n.ino)) ≤ r.countP (fun n => decide (i ≤ n.ino)) := fun r => List.countP_mono_left (fun a _ h => by simp at h ⊢; omega)
  rw [List.countP_cons, List.countP_cons]
  rcases List.mem_cons.1 hn with rfl | hm
  ·have h1 : ¬ (decide (i + 1 ≤ n.ino) = true) := by simp; omega
   have h2 : decide (i ≤ n.ino) = true := by simp; omega
   rw [if_neg h1, if_pos h2]
   have := mono r
   omega
  ·have := ih hm
   by_cases h1 : decide (i + 1 ≤ x.ino) = true
   ·have h2 : decide (i ≤ x.ino) = true := by simp at h1 ⊢; omega
    rw [if_pos h1, if_pos h2]; omega
   ·rw [if_neg h1]
    split <;> omega
theorem zyg (t : List Node) (hl : t.length < 400000) (R : Post) (S : zA) (g2 : V) : ∀ (k : Nat) (i : Int) (g4 g5 g6 g7 g8 g9 gI : V), zdc t i ≤ k → 2 ≤ i → i + k < 1000000 →
 (∀ g4 g5 g6 g7 g8 g9 gI, jE (z2j t (k + 1) i) 0 t < 0 → R (.exit 0) ((.d (.sl (t.map zB))) :: (.tup []) :: g2 :: (.d (.int .i64 (z2j t (k + 1) i))) :: g4 :: g5 :: g6 :: g7 :: g8 :: g9 :: gI :: []) S []) →
 Wp cfg (.loop (lpOf (Try.f32.body.getD .skip) 0)) ((.d (.sl (t.map zB))) :: (.tup []) :: g2 :: (.d (.int .i64 i)) :: g4 :: g5 :: g6 :: g7 :: g8 :: g9 :: gI :: []) S [] R := by
 intro k
 have hl' : t.length < 1000000 := by omega
 induction k with
 | zero =>
  intro i g4 g5 g6 g7 g8 g9 gI hk h2 hb hE
  rw [qK]
  refine zS ?_
  conv => arg 2; whnf
  have hf : jE i 0 t < 0 := by
   rcases Int.lt_or_le (jE i 0 t) 0 with h | h
   ·exact h
   ·have := z87 (z67 h); omega
  have hf' : ¬ 0 ≤ jE i 0 t := by omega
  have hf2 : ¬ jE i 0 t ≥ 0 := by omega
  simp (maxSteps:=1000000) (disch:=first|assumption|omega|rfl) only [↓vmp, ga, Nat.reduceAdd, z3s]
  have e : z2j t (0 + 1) i = i := by simp only [z2j, hf', if_false]
  rw [e] at hE
  exact hE _ _ _ _ _ _ _ hf
 | succ k ih =>
  intro i g4 g5 g6 g7 g8 g9 gI hk h2 hb hE
  rw [qK]
  refine zS ?_
  conv => arg 2; whnf
  by_cases hf : 0 ≤ jE i 0 t
  ·have := z87 (z67 hf)
   have hf2 : jE i 0 t ≥ 0 := by omega
   simp (maxSteps:=1000000) (disch:=first|assumption|omega|rfl) only [↓vmp, ga, Nat.reduceAdd, z3s]
   have e : z2j t (k + 1 + 1) i = z2j t (k + 1) (i + 1) := by rw [z2j, if_pos hf]
   rw [e] at hE
   exact ih (i + 1) _ _ _ _ _ _ _ (by omega) (by omega) (by omega) hE
  ·have hf2 : ¬ jE i 0 t ≥ 0 := by omega
   simp (maxSteps:=1000000) (disch:=first|assumption|omega|rfl) only [↓vmp, ga, Nat.reduceAdd, z3s]
   have e : z2j t (k + 1 + 1) i = i := by rw [z2j, if_neg hf]
   rw [e] at hE
   exact hE _ _ _ _ _ _ _ (by omega)
theorem zaw (t : List Node) : ∀ (k : Nat) (i : Int), zdc t i ≤ k → jE (z2j t (k + 1) i) 0 t < 0 ∧ i ≤ z2j t (k + 1) i ∧ z2j t (k + 1) i ≤ i + k
 | 0, i, hk => by
  have hf : ¬ 0 ≤ jE i 0 t := fun h => by have := z87 (z67 h); omega
  rw [z2j, if_neg hf]
  exact ⟨by omega, by omega, by omega⟩
 | k + 1, i, hk => by
  by_cases hf : 0 ≤ jE i 0 t
  ·have := z87 (z67 hf)
   rw [z2j, if_pos hf]
   have h := zaw t k (i + 1) (by omega)
   exact ⟨h.1, by omega, by omega⟩
  ·rw [z2j, if_neg hf]
   exact ⟨by omega, by omega, by omega⟩
theorem z1h (t : List Node) : (∀ n ∈ t, n.ino ≠ jA t) ∧ 2 ≤ jA t ∧ jA t ≤ t.length + 2 := by
 have h := zaw t t.length 2 List.countP_le_length
 exact ⟨zje h.1, h.2.1, by have := h.2.2; unfold jA; omega⟩
theorem zsc (t : List Node) (hl : t.length < 400000) : Ev cfg 32 [.sl (t.map zB)] (.ret (.d (.int .i64 (jA t)))) := by
 refine kQ rfl rfl zxw ?_
 show Wp cfg (Try.f32.body.getD .skip) ((.d (.sl (t.map zB))) :: uZ []) [] [] _
 unfold uZ
 conv => arg 2; whnf
 simp (maxSteps:=1000000) (disch:=first|assumption|omega|rfl) only [↓vmp, ga, Nat.reduceAdd]
 refine zyg t hl _ _ _ t.length 2 _ _ _ _ _ _ _ List.countP_le_length (by omega) (by omega) ?_
 intro g4 g5 g6 g7 g8 g9 gI h
 simp (maxSteps:=1000000) (disch:=first|assumption|omega|rfl) only [↓vmp, ga, Nat.reduceAdd]
 exact zV rfl rfl rfl
theorem zdi {ops : Array Oper} {dst : Option Tmp} {l : List Oper} {T : List V} {S : zA} {F : Dfs} {Q : Post} {t : List Node} (hl : t.length < 400000) :
  WpR cfg ops dst l T S F Q (some (.enter 32 [.d (.sl (t.map zB))])) = WpL cfg ops l (putT T dst (.d (.int .i64 (jA t)))) S F Q :=
 zX (ds := [.sl (t.map zB)]) rfl (zsc t hl)
def qU (e : Int) : Ans := ⟨e, 0, 0, 0, 0, [], []⟩
theorem bd52 {e : Int} : vP Try.prog 52 [(0, .d (.int .i64 e))] = some (.agg [.d (.int .i64 e), .d (.int .i64 0), .d (.int .i64 0), .d (.int .i64 0), .d (.int .i64 0), .ts [], .ts []]) := by kernel_rfl
theorem zra (e : Int) : Ev cfg 46 [.int .i64 e] (.ret (.d (zT (qU e)))) := by
 refine kQ rfl rfl zut ?_
 show Wp cfg (Try.f46.body.getD .skip) ((.d (.int .i64 e)) :: (.tup []) :: (.tup []) :: (.tup []) :: (.tup []) :: []) [] [] _
 conv => arg 2; whnf
 simp (maxSteps:=1000000) (disch:=first|assumption|omega|rfl) only [↓vmp, ga, Nat.reduceAdd, bd52]
 exact vU rfl (v := .agg [.d (.int .i64 e), .d (.int .i64 0), .d (.int .i64 0), .d (.int .i64 0), .d (.int .i64 0), .ts [], .ts []]) (by kernel_rfl) rfl rfl
theorem qP {ops : Array Oper} {dst : Option Tmp} {l : List Oper} {T : List V} {S : zA} {F : Dfs} {Q : Post} {e : Int} :
  WpR cfg ops dst l T S F Q (some (.enter 46 [.d (.int .i64 e)])) = WpL cfg ops l (putT T dst (.d (zT (qU e)))) S F Q :=
 zX (ds := [.int .i64 e]) rfl (zra e)
theorem z9n {n x : Node} : ∀ {l : List Node} {b : Bool}, x ∈ wG n b l ↔ (b = false ∧ x = n) ∨ (x ∈ l ∧ x.ino ≠ n.ino)
 | [], b => by cases b <;> simp [wG]
 | y :: r, b => by
  rw [wG]
  simp only [List.mem_append, z9n (l := r), List.mem_cons]
  cases b with
  | true => by_cases h2 : y.ino ≠ n.ino <;> grind
  | false => by_cases h1 : n.ino ≤ y.ino <;> by_cases h2 : y.ino ≠ n.ino <;> grind
theorem wV {t : List Node} {n x : Node} : x ∈ qT t n ↔ x = n ∨ (x ∈ t ∧ x.ino ≠ n.ino) := by
 unfold qT
 rw [z9n]
 simp
theorem zcq {n : Node} : ∀ {l : List Node} {b : Bool}, (wG n b l).length ≤ l.length + (if b then 0 else 1)
 | [], b => by cases b <;> simp [wG]
 | y :: r, b => by
  rw [wG]
  simp only [List.length_append, List.length_cons]
  have := zcq (n := n) (l := r) (b := b || decide (n.ino ≤ y.ino))
  cases b with
  | true =>
   simp only [Bool.true_or, if_true] at this
   simp only [Bool.true_or, Bool.true_eq_false, false_and, if_false, List.length_nil, if_true]
   split <;> simp <;> omega
  | false =>
   by_cases h1 : n.ino ≤ y.ino
   ·simp only [h1, decide_true, Bool.or_true, if_true] at this
    simp only [h1, decide_true, Bool.or_true, and_self, if_true, List.length_cons, List.length_nil, Bool.false_eq_true, if_false]
    split <;> simp <;> omega
   ·simp only [h1, decide_false, Bool.or_false, Bool.false_eq_true, if_false] at this
    simp only [h1, decide_false, Bool.or_false, and_false, if_false, List.length_nil, Bool.false_eq_true]
    split <;> simp <;> omega
theorem zcg {t : List Node} {n : Node} : (qT t n).length ≤ t.length + 1 := zcq
theorem Small.mono {k m : Nat} {t : List Node} (h : Small k t) (hm : k ≤ m) : Small m t :=
 ⟨Nat.le_trans h.len hm, fun n hn => Nat.le_trans (h.nms n hn) hm, h.nam, fun n hn => ⟨by have := (h.lnk n hn).1; omega, by have := (h.lnk n hn).2; omega⟩, h.siz⟩
structure SmallN (k : Nat) (n : Node) : Prop where
 nms : n.names.length ≤ k
 nam : ∀ e ∈ n.names, e.name.length ≤ 200
 lnk : -(k : Int) ≤ n.links ∧ n.links ≤ k
 siz : 0 ≤ n.size ∧ n.size ≤ 34304 ∧ n.data.length = n.size
theorem Small.get {k : Nat} {t : List Node} (h : Small k t) (ino : Int) : SmallN k (getN t ino) := ⟨h.gnms ino, h.gnam ino, h.glnk ino, h.gsiz ino⟩
theorem SmallN.mono {k m : Nat} {n : Node} (h : SmallN k n) (hm : k ≤ m) : SmallN m n := ⟨Nat.le_trans h.nms hm, h.nam, ⟨by have := h.lnk.1; omega, by have := h.lnk.2; omega⟩, h.siz⟩
theorem Small.with {k : Nat} {t : List Node} {n : Node} (h : Small k t) (hn : SmallN (k + 1) n) : Small (k + 1) (qT t n) := by
 have h' := h.mono (Nat.le_succ k)
 refine ⟨Nat.le_trans zcg (by have := h.len; omega), ?_, ?_, ?_, ?_⟩ <;> intro x hx <;> rcases wV.1 hx with rfl | ⟨h1, _⟩
 ·exact hn.nms
 ·exact h'.nms x h1
 ·exact hn.nam
 ·exact h'.nam x h1
 ·exact hn.lnk
 ·exact h'.lnk x h1
 ·exact hn.siz
 ·exact h'.siz x h1
theorem Small.filter {k : Nat} {t : List Node} {p : Node → Bool} (h : Small k t) : Small k (t.filter p) :=
 ⟨Nat.le_trans (List.length_filter_le _ _) h.len, fun n hn => h.nms n (List.mem_filter.1 hn).1, fun n hn => h.nam n (List.mem_filter.1 hn).1, fun n hn => h.lnk n (List.mem_filter.1 hn).1, fun n hn => h.siz n (List.mem_filter.1 hn).1⟩
theorem Small.drop {k : Nat} {t : List Node} {dir : Int} {s : List UInt8} (h : Small k t) : Small (k + 1) (zU t dir s) := by
 have hg := (h.get dir).mono (Nat.le_succ k)
 exact h.with ⟨Nat.le_trans (List.length_filter_le _ _) hg.nms, fun e he => hg.nam e (List.mem_filter.1 he).1, hg.lnk, hg.siz⟩
theorem mem_putA {s : List UInt8} {ino : Int} {x : Ent} : ∀ {l : List Ent} {b : Bool}, x ∈ putA s ino b l ↔ (b = false ∧ x = ⟨s, ino⟩) ∨ x ∈ l
 | [], b => by cases b <;> simp [putA]
 | y :: r, b => by
  rw [putA]
  simp only [List.mem_append, mem_putA (l := r), List.mem_cons, List.not_mem_nil, or_false]
  cases b with
  | true => simp
  | false => cases h : kY s y.name <;> grind
theorem zhb {s : List UInt8} {ino : Int} : ∀ {l : List Ent} {b : Bool}, (putA s ino b l).length = l.length + (if b then 0 else 1)
 | [], b => by cases b <;> simp [putA]
 | y :: r, b => by
  rw [putA]
  simp only [List.length_append, List.length_cons, zhb (l := r), List.length_nil]
  cases b with
  | true => simp; omega
  | false => cases h : kY s y.name <;> simp <;> omega
theorem Small.put {k : Nat} {t : List Node} {dir ino : Int} {s : List UInt8} (h : Small k t) (hs : s.length ≤ 200) : Small (k + 1) (putN t dir s ino) := by
 have hg := (h.get dir)
 refine h.with ⟨?_, ?_, (hg.mono (Nat.le_succ k)).lnk, hg.siz⟩
 ·show (putA s ino false _).length ≤ k + 1
  rw [zhb]
  have := hg.nms
  simp only [Bool.false_eq_true, if_false]
  omega
 ·intro e he
  rcases mem_putA.1 he with ⟨_, rfl⟩ | h1
  ·exact hs
  ·exact hg.nam e h1
theorem Small.loses {k : Nat} {t : List Node} {ino : Int} (h : Small k t) : Small (k + 1) (jN t ino) := by
 unfold jN
 have hg := (h.get ino)
 split
 ·exact (h.filter).mono (Nat.le_succ k)
 ·refine h.with ⟨Nat.le_succ_of_le hg.nms, hg.nam, ⟨?_, ?_⟩, hg.siz⟩
  ·have := hg.lnk.1
   show -((k + 1 : Nat) : Int) ≤ (getN t ino).links - 1
   omega
  ·have := hg.lnk.2
   show (getN t ino).links - 1 ≤ ((k + 1 : Nat) : Int)
   omega
theorem z1l (t : List Node) (s : List UInt8) : (zK t s).2.1.length ≤ 24 := by
 unfold zK
 by_cases h1 : (zQ s).2 ≠ 0
 ·rw [if_pos h1]; simp
 ·rw [if_neg h1]
  by_cases h2 : (zQ s).1.length = 0
  ·rw [if_pos h2]; simp
  ·rw [if_neg h2]
   split
   ·simp
   ·split
    ·simp
    ·show ((zQ s).1.getD _ _).length ≤ 24
     have hlt : (zQ s).1.length - 1 < (zQ s).1.length := by omega
     rw [List.getD_eq_getElem?_getD, List.getElem?_eq_getElem hlt]
     exact zhw (zi2 s _ (List.getElem_mem hlt))
theorem qJ {P : Program} {T : List V} {S : zA} {t a u : Nat} {v w x : V} {d e : D} (hv : T.getD t (.tup []) = v) (ha : T.getD a (.tup []) = w) (hl : jV P S u w = some x) (h1 : v.one = true) (h2 : x.one = true) (h3 : frz S zO v = some d) (h4 : frz S zO x = some e) : RetQ P #[.tmp t, .cell a u] (.ret (.tup [.d d, .d e])) .ret T S [] :=
 z98 (r1 := .tmp t) (r2 := .cell a u) (l := []) (vs := [v, x]) (ds := [d, e]) (by simp only [allO, wT, hv, ha, hl]) (by simp [h1, h2]) (by simp only [allO, h3, h4])
theorem zgw {ops : Array Oper} {F : Dfs} {Q : Post} {K : List Nat → List (Nat × Nat) → List V → zA → Prop} {rd : List Nat} {cs : List (Nat × Nat)} {i : Nat} {dst : Option Tmp} {T : List V} {S : zA} {t : List Node} {a b c d e : Int} (hl : t.length < 400000) :
  WpE cfg ops F Q K rd cs i dst T S (some (.enter 89 [.d (.sl (t.map zB)), .agg [.d (.int .i64 a), .d (.int .i64 b), .d (.int .i64 c), .d (.int .i64 d), .d (.int .i64 e), .ts [], .ts []]])) = K (i :: rd) (cs ++ [(i, 1)]) (putT T dst (.d (.sl ((qT t ⟨a, b, c, d, e, [], []⟩).map zB)))) S :=
 zdp (ds := [.sl (t.map zB), zB ⟨a, b, c, d, e, [], []⟩]) rfl rfl rfl (z9c t _ hl)
theorem bd91 {n : Int} : vP Try.prog 91 [(0, .d (.int .i64 n)), (1, .d (.int .i64 1)), (2, .d (.int .i64 1))] = some (.agg [.d (.int .i64 n), .d (.int .i64 1), .d (.int .i64 1), .d (.int .i64 0), .d (.int .i64 0), .ts [], .ts []]) := by kernel_rfl
theorem zoz {e : Int} : vP Try.prog 52 [(1, .d (.int .i64 e))] = some (.agg [.d (.int .i64 0), .d (.int .i64 e), .d (.int .i64 0), .d (.int .i64 0), .d (.int .i64 0), .ts [], .ts []]) := by kernel_rfl
theorem z22 : vP Try.prog 52 [] = some (.agg [.d (.int .i64 0), .d (.int .i64 0), .d (.int .i64 0), .d (.int .i64 0), .d (.int .i64 0), .ts [], .ts []]) := by kernel_rfl
def okN : Ans := ⟨0, 0, 0, 0, 0, [], []⟩
def qA (t : List Node) (o : Opn) : Node := if o.does = 2 then ⟨jA t, 2, 1, (zK t o.a).1, 0, [], []⟩ else ⟨jA t, 1, 1, 0, 0, [], []⟩
def z0h (t : List Node) (o : Opn) : List Node × Ans :=
 if (zK t o.a).2.2 ≠ 0 then (t, qU (zK t o.a).2.2)
 else if 0 ≤ qQ (getN t (zK t o.a).1).names (zK t o.a).2.1 then (t, qU 5)
 else (putN (qT t (qA t o)) (zK t o.a).1 (zK t o.a).2.1 (jA t), { okN with ino := jA t })
theorem zro (t : List Node) (k0 : Nat) (hk0 : k0 < 200000) (hS : Small k0 t) (o : Opn) (ha : o.a.length < 1000000) : Ev cfg 47 [.sl (t.map zB), encOpn o] (.ret (.tup [.d (.sl ((z0h t o).1.map zB)), .d (zT (z0h t o).2)])) := by
 refine kQ rfl rfl zvo ?_
 show Wp cfg (Try.f47.body.getD .skip) ((.d (.sl (t.map zB))) :: (.d (encOpn o)) :: uZ (uZ (uZ (uZ ((.tup []) :: (.tup []) :: (.tup []) :: (.tup []) :: (.tup []) :: (.tup []) :: (.tup []) :: (.tup []) :: (.tup []) :: []))))) [] [] _
 unfold uZ
 conv => arg 2; whnf
 have hk1 : k0 < 300000 := by omega
 have hlt : t.length < 400000 := Nat.lt_of_le_of_lt hS.len (by omega)
 have hlt' : t.length < 1000000 := by omega
 have hgn : (getN t (zK t o.a).1).names.length < 1000000 := Nat.lt_of_le_of_lt (hS.gnms _) (by omega)
 by_cases h1 : (zK t o.a).2.2 = 0
 ·by_cases h2 : 0 ≤ qQ (getN t (zK t o.a).1).names (zK t o.a).2.1
  ·have h2' : qQ (getN t (zK t o.a).1).names (zK t o.a).2.1 ≥ 0 := h2
   have e : z0h t o = (t, qU 5) := by unfold z0h; rw [if_neg (by simp [h1]), if_pos h2]
   simp (maxSteps:=1000000) (disch:=first|assumption|omega|rfl) only [↓vmp, gb, strOf_mk, Nat.reduceAdd, wY hS hk1, jP, z11, qP]
   rw [e]
   exact qJ rfl rfl (x := .d (zT (qU 5))) (by kernel_rfl) rfl rfl rfl rfl
  ·have h2' : ¬ qQ (getN t (zK t o.a).1).names (zK t o.a).2.1 ≥ 0 := h2
   have e : z0h t o = (putN (qT t (qA t o)) (zK t o.a).1 (zK t o.a).2.1 (jA t), { okN with ino := jA t }) := by unfold z0h; rw [if_neg (by simp [h1]), if_neg h2]
   have hwn : (qT t (qA t o)).length < 400000 := Nat.lt_of_le_of_lt zcg (by have := hS.len; omega)
   have hnl := z1l t o.a
   have hnl' : (zK t o.a).2.1.length < 1000000 := by omega
   have hmk : SmallN (k0 + 1) (qA t o) := by unfold qA; split <;> exact ⟨Nat.zero_le _, fun e he => by simp at he, ⟨by simp; omega, by simp; omega⟩, by simp⟩
   have hS2 := hS.with hmk
   have hgn2 : (getN (qT t (qA t o)) (zK t o.a).1).names.length < 400000 := Nat.lt_of_le_of_lt (hS2.gnms _) (by omega)
   have hgm2 : ∀ e ∈ (getN (qT t (qA t o)) (zK t o.a).1).names, e.name.length < 1000000 := fun e he => Nat.lt_of_le_of_lt (hS2.gnam _ e he) (by omega)
   by_cases h3 : o.does = 2
   ·have em : qA t o = ⟨jA t, 2, 1, (zK t o.a).1, 0, [], []⟩ := by unfold qA; rw [if_pos h3]
    rw [em] at hwn hgn2 hgm2 e
    simp (maxSteps:=1000000) (disch:=first|assumption|omega|rfl) only [↓vmp, gb, strOf_mk, Nat.reduceAdd, wY hS hk1, jP, z11, zdi, bd91]
    refine qS (is := [0, 1, 3, 4, 5, 6, 8, 9, 10, 2, 7, 11, 12]) (h := 0) (by kernel_rfl) (by kernel_rfl) ?_
    simp (maxSteps:=1000000) (disch:=first|assumption|omega|rfl) only [List.replicate_zero, eq_self, vmd, vmk, vmo, vmg, ga, Nat.reduceAdd, zoz, zgw, zq2]
    refine ⟨fun _ => by kernel_rfl, ?_⟩
    refine ⟨by kernel_rfl, ?_⟩
    simp (maxSteps:=1000000) (disch:=first|assumption|omega|rfl) only [↓vmp, gb, strOf_mk, Nat.reduceAdd]
    rw [e]
    exact qJ rfl rfl (x := .agg [.d (.int .i64 0), .d (.int .i64 (jA t)), .d (.int .i64 0), .d (.int .i64 0), .d (.int .i64 0), .ts [], .ts []]) (by kernel_rfl) rfl rfl rfl rfl
   ·have em : qA t o = ⟨jA t, 1, 1, 0, 0, [], []⟩ := by unfold qA; rw [if_neg h3]
    rw [em] at hwn hgn2 hgm2 e
    simp (maxSteps:=1000000) (disch:=first|assumption|omega|rfl) only [↓vmp, gb, strOf_mk, Nat.reduceAdd, wY hS hk1, jP, z11, zdi, bd91]
    refine qS (is := [0, 1, 3, 4, 5, 6, 8, 9, 10, 2, 7, 11, 12]) (h := 0) (by kernel_rfl) (by kernel_rfl) ?_
    simp (maxSteps:=1000000) (disch:=first|assumption|omega|rfl) only [List.replicate_zero, eq_self, vmd, vmk, vmo, vmg, ga, Nat.reduceAdd, zoz, zgw, zq2]
    refine ⟨fun _ => by kernel_rfl, ?_⟩
    refine ⟨by kernel_rfl, ?_⟩
    simp (maxSteps:=1000000) (disch:=first|assumption|omega|rfl) only [↓vmp, gb, strOf_mk, Nat.reduceAdd]
    rw [e]
    exact qJ rfl rfl (x := .agg [.d (.int .i64 0), .d (.int .i64 (jA t)), .d (.int .i64 0), .d (.int .i64 0), .d (.int .i64 0), .ts [], .ts []]) (by kernel_rfl) rfl rfl rfl rfl
 ·have e : z0h t o = (t, qU (zK t o.a).2.2) := by unfold z0h; rw [if_pos h1]
  simp (maxSteps:=1000000) (disch:=first|assumption|omega|rfl) only [↓vmp, gb, strOf_mk, Nat.reduceAdd, wY hS hk1, qP]
  rw [e]
  exact qJ rfl rfl (x := .d (zT (qU (zK t o.a).2.2))) (by kernel_rfl) rfl rfl rfl rfl
theorem zkz {ops : Array Oper} {dst : Option Tmp} {l : List Oper} {T : List V} {S : zA} {F : Dfs} {Q : Post} {t : List Node} {o : Opn} {k0 : Nat} (hS : Small k0 t) (hk0 : k0 < 200000) (ha : o.a.length < 1000000) :
  WpR cfg ops dst l T S F Q (some (.enter 47 [.d (.sl (t.map zB)), .d (encOpn o)])) = WpL cfg ops l (putT T dst (.tup [.d (.sl ((z0h t o).1.map zB)), .d (zT (z0h t o).2)])) S F Q :=
 zX (ds := [.sl (t.map zB), encOpn o]) rfl (zro t k0 hk0 hS o ha)
def more (n : Node) : Node := ⟨n.ino, n.kind, n.links + 1, n.parent, n.size, n.data, n.names⟩
def vR (t : List Node) (o : Opn) : List Node × Ans :=
 if (zH t o.a).2 ≠ 0 then (t, qU (zH t o.a).2)
 else if (getN t (zH t o.a).1).kind = 2 then (t, qU 7)
 else if (zK t o.b).2.2 ≠ 0 then (t, qU (zK t o.b).2.2)
 else if 0 ≤ qQ (getN t (zK t o.b).1).names (zK t o.b).2.1 then (t, qU 5)
 else (putN (qT t (more (getN t (zH t o.a).1))) (zK t o.b).1 (zK t o.b).2.1 (zH t o.a).1, okN)
theorem zqg (t : List Node) (k0 : Nat) (hk0 : k0 < 200000) (hS : Small k0 t) (o : Opn) (ha : o.a.length < 1000000) (hb : o.b.length < 1000000) : Ev cfg 48 [.sl (t.map zB), encOpn o] (.ret (.tup [.d (.sl ((vR t o).1.map zB)), .d (zT (vR t o).2)])) := by
 refine kQ rfl rfl zxe ?_
 show Wp cfg (Try.f48.body.getD .skip) ((.d (.sl (t.map zB))) :: (.d (encOpn o)) :: uZ (uZ (uZ (uZ (uZ (uZ ((.tup []) :: (.tup []) :: (.tup []) :: []))))))) [] [] _
 unfold uZ
 conv => arg 2; whnf
 have hk1 : k0 < 300000 := by omega
 have hlt : t.length < 400000 := Nat.lt_of_le_of_lt hS.len (by omega)
 have hlt' : t.length < 1000000 := by omega
 have hgn : (getN t (zK t o.b).1).names.length < 1000000 := Nat.lt_of_le_of_lt (hS.gnms _) (by omega)
 by_cases h1 : (zH t o.a).2 = 0
 ·by_cases h2 : (getN t (zH t o.a).1).kind = 2
  ·have e : vR t o = (t, qU 7) := by unfold vR; rw [if_neg (by simp [h1]), if_pos h2]
   simp (maxSteps:=1000000) (disch:=first|assumption|omega|rfl) only [↓vmp, gb, strOf_mk, Nat.reduceAdd, vJ hS hk1, jP, qP]
   rw [e]
   exact qJ rfl rfl (x := .d (zT (qU 7))) (by kernel_rfl) rfl rfl rfl rfl
  ·by_cases h3 : (zK t o.b).2.2 = 0
   ·by_cases h4 : 0 ≤ qQ (getN t (zK t o.b).1).names (zK t o.b).2.1
    ·have h4' : qQ (getN t (zK t o.b).1).names (zK t o.b).2.1 ≥ 0 := h4
     have e : vR t o = (t, qU 5) := by unfold vR; rw [if_neg (by simp [h1]), if_neg h2, if_neg (by simp [h3]), if_pos h4]
     simp (maxSteps:=1000000) (disch:=first|assumption|omega|rfl) only [↓vmp, gb, strOf_mk, Nat.reduceAdd, vJ hS hk1, wY hS hk1, jP, z11, qP]
     rw [e]
     exact qJ rfl rfl (x := .d (zT (qU 5))) (by kernel_rfl) rfl rfl rfl rfl
    ·have h4' : ¬ qQ (getN t (zK t o.b).1).names (zK t o.b).2.1 ≥ 0 := h4
     have e : vR t o = (putN (qT t (more (getN t (zH t o.a).1))) (zK t o.b).1 (zK t o.b).2.1 (zH t o.a).1, okN) := by unfold vR; rw [if_neg (by simp [h1]), if_neg h2, if_neg (by simp [h3]), if_neg h4]
     have hg := hS.get (zH t o.a).1
     have hmk : SmallN (k0 + 1) (more (getN t (zH t o.a).1)) := ⟨Nat.le_succ_of_le hg.nms, hg.nam, ⟨by have := hg.lnk.1; simp only [more]; omega, by have := hg.lnk.2; simp only [more]; omega⟩, hg.siz⟩
     have hS2 := hS.with hmk
     have hwn : (qT t (more (getN t (zH t o.a).1))).length < 400000 := Nat.lt_of_le_of_lt hS2.len (by omega)
     have hnl := z1l t o.b
     have hnl' : (zK t o.b).2.1.length < 1000000 := by omega
     have hgn2 : (getN (qT t (more (getN t (zH t o.a).1))) (zK t o.b).1).names.length < 400000 := Nat.lt_of_le_of_lt (hS2.gnms _) (by omega)
     have hgm2 : ∀ e ∈ (getN (qT t (more (getN t (zH t o.a).1))) (zK t o.b).1).names, e.name.length < 1000000 := fun e he => Nat.lt_of_le_of_lt (hS2.gnam _ e he) (by omega)
     have hl1 := hg.lnk.1
     have hl2 := hg.lnk.2
     unfold more at hwn hgn2 hgm2 e
     simp (maxSteps:=1000000) (disch:=first|assumption|omega|rfl) only [↓vmp, gb, strOf_mk, Nat.reduceAdd, vJ hS hk1, wY hS hk1, jP, z11, z1i, z89, z22]
     rw [e]
     exact qJ rfl rfl (x := .agg [.d (.int .i64 0), .d (.int .i64 0), .d (.int .i64 0), .d (.int .i64 0), .d (.int .i64 0), .ts [], .ts []]) (by kernel_rfl) rfl rfl rfl rfl
   ·have e : vR t o = (t, qU (zK t o.b).2.2) := by unfold vR; rw [if_neg (by simp [h1]), if_neg h2, if_pos h3]
    simp (maxSteps:=1000000) (disch:=first|assumption|omega|rfl) only [↓vmp, gb, strOf_mk, Nat.reduceAdd, vJ hS hk1, wY hS hk1, jP, qP]
    rw [e]
    exact qJ rfl rfl (x := .d (zT (qU (zK t o.b).2.2))) (by kernel_rfl) rfl rfl rfl rfl
 ·have e : vR t o = (t, qU (zH t o.a).2) := by unfold vR; rw [if_pos h1]
  simp (maxSteps:=1000000) (disch:=first|assumption|omega|rfl) only [↓vmp, gb, strOf_mk, Nat.reduceAdd, vJ hS hk1, qP]
  rw [e]
  exact qJ rfl rfl (x := .d (zT (qU (zH t o.a).2))) (by kernel_rfl) rfl rfl rfl rfl
theorem zkb {ops : Array Oper} {dst : Option Tmp} {l : List Oper} {T : List V} {S : zA} {F : Dfs} {Q : Post} {t : List Node} {o : Opn} {k0 : Nat} (hS : Small k0 t) (hk0 : k0 < 200000) (ha : o.a.length < 1000000) (hb : o.b.length < 1000000) :
  WpR cfg ops dst l T S F Q (some (.enter 48 [.d (.sl (t.map zB)), .d (encOpn o)])) = WpL cfg ops l (putT T dst (.tup [.d (.sl ((vR t o).1.map zB)), .d (zT (vR t o).2)])) S F Q :=
 zX (ds := [.sl (t.map zB), encOpn o]) rfl (zqg t k0 hk0 hS o ha hb)
end Go.Proofs.Ytghllhghboaagaa
end
section
namespace Go.Vm
theorem vgd :
 (∀ {a x : V} {r : List V}, (a :: r).getD 0 x = a) ∧
 (∀ {a b x : V} {r : List V}, (a :: b :: r).getD 1 x = b) ∧
 (∀ {a b c x : V} {r : List V}, (a :: b :: c :: r).getD 2 x = c) ∧
 (∀ {a b c d x : V} {r : List V}, (a :: b :: c :: d :: r).getD 3 x = d) ∧
 (∀ {a b c d e x : V} {r : List V}, (a :: b :: c :: d :: e :: r).getD 4 x = e) ∧
 (∀ {a b c d e f x : V} {r : List V}, (a :: b :: c :: d :: e :: f :: r).getD 5 x = f) ∧
 (∀ {a b c d e f g x : V} {r : List V}, (a :: b :: c :: d :: e :: f :: g :: r).getD 6 x = g) ∧
 (∀ {a b c d e f g h x : V} {r : List V}, (a :: b :: c :: d :: e :: f :: g :: h :: r).getD 7 x = h) ∧
 (∀ {a b c d e f g h x : V} {r : List V} {n : Nat}, (a :: b :: c :: d :: e :: f :: g :: h :: r).getD (n + 8) x = r.getD n x) ∧
 (∀ {a b c d e f g h a1 b1 c1 d1 e1 f1 g1 h1 x : V} {r : List V} {n : Nat}, (a :: b :: c :: d :: e :: f :: g :: h :: a1 :: b1 :: c1 :: d1 :: e1 :: f1 :: g1 :: h1 :: r).getD (n + 16) x = r.getD n x) ∧
 (∀ {a b c d e f g h a1 b1 c1 d1 e1 f1 g1 h1 a2 b2 c2 d2 e2 f2 g2 h2 a3 b3 c3 d3 e3 f3 g3 h3 x : V} {r : List V} {n : Nat}, (a :: b :: c :: d :: e :: f :: g :: h :: a1 :: b1 :: c1 :: d1 :: e1 :: f1 :: g1 :: h1 :: a2 :: b2 :: c2 :: d2 :: e2 :: f2 :: g2 :: h2 :: a3 :: b3 :: c3 :: d3 :: e3 :: f3 :: g3 :: h3 :: r).getD (n + 32) x = r.getD n x) ∧
 (∀ {a b c d e f g h a1 b1 c1 d1 e1 f1 g1 h1 a2 b2 c2 d2 e2 f2 g2 h2 a3 b3 c3 d3 e3 f3 g3 h3 a4 b4 c4 d4 e4 f4 g4 h4 a5 b5 c5 d5 e5 f5 g5 h5 a6 b6 c6 d6 e6 f6 g6 h6 a7 b7 c7 d7 e7 f7 g7 h7 x : V} {r : List V} {n : Nat}, (a :: b :: c :: d :: e :: f :: g :: h :: a1 :: b1 :: c1 :: d1 :: e1 :: f1 :: g1 :: h1 :: a2 :: b2 :: c2 :: d2 :: e2 :: f2 :: g2 :: h2 :: a3 :: b3 :: c3 :: d3 :: e3 :: f3 :: g3 :: h3 :: a4 :: b4 :: c4 :: d4 :: e4 :: f4 :: g4 :: h4 :: a5 :: b5 :: c5 :: d5 :: e5 :: f5 :: g5 :: h5 :: a6 :: b6 :: c6 :: d6 :: e6 :: f6 :: g6 :: h6 :: a7 :: b7 :: c7 :: d7 :: e7 :: f7 :: g7 :: h7 :: r).getD (n + 64) x = r.getD n x) :=
 ⟨rfl, rfl, rfl, rfl, rfl, rfl, rfl, rfl, rfl, rfl, rfl, rfl⟩
theorem vst :
 (∀ {a x : V} {r : List V}, (a :: r).set 0 x = x :: r) ∧
 (∀ {a b x : V} {r : List V}, (a :: b :: r).set 1 x = a :: x :: r) ∧
 (∀ {a b c x : V} {r : List V}, (a :: b :: c :: r).set 2 x = a :: b :: x :: r) ∧
 (∀ {a b c d x : V} {r : List V}, (a :: b :: c :: d :: r).set 3 x = a :: b :: c :: x :: r) ∧
 (∀ {a b c d e x : V} {r : List V}, (a :: b :: c :: d :: e :: r).set 4 x = a :: b :: c :: d :: x :: r) ∧
 (∀ {a b c d e f x : V} {r : List V}, (a :: b :: c :: d :: e :: f :: r).set 5 x = a :: b :: c :: d :: e :: x :: r) ∧
 (∀ {a b c d e f g x : V} {r : List V}, (a :: b :: c :: d :: e :: f :: g :: r).set 6 x = a :: b :: c :: d :: e :: f :: x :: r) ∧
 (∀ {a b c d e f g h x : V} {r : List V}, (a :: b :: c :: d :: e :: f :: g :: h :: r).set 7 x = a :: b :: c :: d :: e :: f :: g :: x :: r) ∧
 (∀ {a b c d e f g h x : V} {r : List V} {n : Nat}, (a :: b :: c :: d :: e :: f :: g :: h :: r).set (n + 8) x = a :: b :: c :: d :: e :: f :: g :: h :: r.set n x) ∧
 (∀ {a b c d e f g h a1 b1 c1 d1 e1 f1 g1 h1 x : V} {r : List V} {n : Nat}, (a :: b :: c :: d :: e :: f :: g :: h :: a1 :: b1 :: c1 :: d1 :: e1 :: f1 :: g1 :: h1 :: r).set (n + 16) x = a :: b :: c :: d :: e :: f :: g :: h :: a1 :: b1 :: c1 :: d1 :: e1 :: f1 :: g1 :: h1 :: r.set n x) ∧
 (∀ {a b c d e f g h a1 b1 c1 d1 e1 f1 g1 h1 a2 b2 c2 d2 e2 f2 g2 h2 a3 b3 c3 d3 e3 f3 g3 h3 x : V} {r : List V} {n : Nat}, (a :: b :: c :: d :: e :: f :: g :: h :: a1 :: b1 :: c1 :: d1 :: e1 :: f1 :: g1 :: h1 :: a2 :: b2 :: c2 :: d2 :: e2 :: f2 :: g2 :: h2 :: a3 :: b3 :: c3 :: d3 :: e3 :: f3 :: g3 :: h3 :: r).set (n + 32) x = a :: b :: c :: d :: e :: f :: g :: h :: a1 :: b1 :: c1 :: d1 :: e1 :: f1 :: g1 :: h1 :: a2 :: b2 :: c2 :: d2 :: e2 :: f2 :: g2 :: h2 :: a3 :: b3 :: c3 :: d3 :: e3 :: f3 :: g3 :: h3 :: r.set n x) ∧
 (∀ {a b c d e f g h a1 b1 c1 d1 e1 f1 g1 h1 a2 b2 c2 d2 e2 f2 g2 h2 a3 b3 c3 d3 e3 f3 g3 h3 a4 b4 c4 d4 e4 f4 g4 h4 a5 b5 c5 d5 e5 f5 g5 h5 a6 b6 c6 d6 e6 f6 g6 h6 a7 b7 c7 d7 e7 f7 g7 h7 x : V} {r : List V} {n : Nat}, (a :: b :: c :: d :: e :: f :: g :: h :: a1 :: b1 :: c1 :: d1 :: e1 :: f1 :: g1 :: h1 :: a2 :: b2 :: c2 :: d2 :: e2 :: f2 :: g2 :: h2 :: a3 :: b3 :: c3 :: d3 :: e3 :: f3 :: g3 :: h3 :: a4 :: b4 :: c4 :: d4 :: e4 :: f4 :: g4 :: h4 :: a5 :: b5 :: c5 :: d5 :: e5 :: f5 :: g5 :: h5 :: a6 :: b6 :: c6 :: d6 :: e6 :: f6 :: g6 :: h6 :: a7 :: b7 :: c7 :: d7 :: e7 :: f7 :: g7 :: h7 :: r).set (n + 64) x = a :: b :: c :: d :: e :: f :: g :: h :: a1 :: b1 :: c1 :: d1 :: e1 :: f1 :: g1 :: h1 :: a2 :: b2 :: c2 :: d2 :: e2 :: f2 :: g2 :: h2 :: a3 :: b3 :: c3 :: d3 :: e3 :: f3 :: g3 :: h3 :: a4 :: b4 :: c4 :: d4 :: e4 :: f4 :: g4 :: h4 :: a5 :: b5 :: c5 :: d5 :: e5 :: f5 :: g5 :: h5 :: a6 :: b6 :: c6 :: d6 :: e6 :: f6 :: g6 :: h6 :: a7 :: b7 :: c7 :: d7 :: e7 :: f7 :: g7 :: h7 :: r.set n x) :=
 ⟨rfl, rfl, rfl, rfl, rfl, rfl, rfl, rfl, rfl, rfl, rfl, rfl⟩
theorem vix :
 (∀ {a : V} {r : List V}, (a :: r)[0]? = some a) ∧
 (∀ {a b : V} {r : List V}, (a :: b :: r)[1]? = some b) ∧
 (∀ {a b c : V} {r : List V}, (a :: b :: c :: r)[2]? = some c) ∧
 (∀ {a b c d : V} {r : List V}, (a :: b :: c :: d :: r)[3]? = some d) ∧
 (∀ {a b c d e : V} {r : List V}, (a :: b :: c :: d :: e :: r)[4]? = some e) ∧
 (∀ {a b c d e f : V} {r : List V}, (a :: b :: c :: d :: e :: f :: r)[5]? = some f) ∧
 (∀ {a b c d e f g : V} {r : List V}, (a :: b :: c :: d :: e :: f :: g :: r)[6]? = some g) ∧
 (∀ {a b c d e f g h : V} {r : List V}, (a :: b :: c :: d :: e :: f :: g :: h :: r)[7]? = some h) ∧
 (∀ {a b c d e f g h : V} {r : List V} {n : Nat}, (a :: b :: c :: d :: e :: f :: g :: h :: r)[n + 8]? = r[n]?) ∧
 (∀ {a b c d e f g h a1 b1 c1 d1 e1 f1 g1 h1 : V} {r : List V} {n : Nat}, (a :: b :: c :: d :: e :: f :: g :: h :: a1 :: b1 :: c1 :: d1 :: e1 :: f1 :: g1 :: h1 :: r)[n + 16]? = r[n]?) ∧
 (∀ {a b c d e f g h a1 b1 c1 d1 e1 f1 g1 h1 a2 b2 c2 d2 e2 f2 g2 h2 a3 b3 c3 d3 e3 f3 g3 h3 : V} {r : List V} {n : Nat}, (a :: b :: c :: d :: e :: f :: g :: h :: a1 :: b1 :: c1 :: d1 :: e1 :: f1 :: g1 :: h1 :: a2 :: b2 :: c2 :: d2 :: e2 :: f2 :: g2 :: h2 :: a3 :: b3 :: c3 :: d3 :: e3 :: f3 :: g3 :: h3 :: r)[n + 32]? = r[n]?) ∧
 (∀ {a b c d e f g h a1 b1 c1 d1 e1 f1 g1 h1 a2 b2 c2 d2 e2 f2 g2 h2 a3 b3 c3 d3 e3 f3 g3 h3 a4 b4 c4 d4 e4 f4 g4 h4 a5 b5 c5 d5 e5 f5 g5 h5 a6 b6 c6 d6 e6 f6 g6 h6 a7 b7 c7 d7 e7 f7 g7 h7 : V} {r : List V} {n : Nat}, (a :: b :: c :: d :: e :: f :: g :: h :: a1 :: b1 :: c1 :: d1 :: e1 :: f1 :: g1 :: h1 :: a2 :: b2 :: c2 :: d2 :: e2 :: f2 :: g2 :: h2 :: a3 :: b3 :: c3 :: d3 :: e3 :: f3 :: g3 :: h3 :: a4 :: b4 :: c4 :: d4 :: e4 :: f4 :: g4 :: h4 :: a5 :: b5 :: c5 :: d5 :: e5 :: f5 :: g5 :: h5 :: a6 :: b6 :: c6 :: d6 :: e6 :: f6 :: g6 :: h6 :: a7 :: b7 :: c7 :: d7 :: e7 :: f7 :: g7 :: h7 :: r)[n + 64]? = r[n]?) :=
 ⟨rfl, rfl, rfl, rfl, rfl, rfl, rfl, rfl, rfl, rfl, rfl, rfl⟩
end Go.Vm
end
section
namespace Go.Proofs.Ytghllhghboaagaa
open Go.Vm
def gc := And.intro gb @strOf_mk
def gq := And.intro @vgd <| And.intro @vst @vix
def gp := And.intro @vmp gq
def gd := And.intro @vmd <| And.intro @vmk <| And.intro @vmo vmg
def kU (t : List Node) (o : Opn) : List Node × Ans :=
 if (zK t o.a).2.2 ≠ 0 then (t, qU (zK t o.a).2.2)
 else if qQ (getN t (zK t o.a).1).names (zK t o.a).2.1 < 0 then (t, qU 4)
 else if o.does = 4 ∧ (getN t (qQ (getN t (zK t o.a).1).names (zK t o.a).2.1)).kind = 2 then (t, qU 7)
 else if o.does = 5 ∧ (getN t (qQ (getN t (zK t o.a).1).names (zK t o.a).2.1)).kind ≠ 2 then (t, qU 6)
 else if o.does = 5 ∧ 0 < (getN t (qQ (getN t (zK t o.a).1).names (zK t o.a).2.1)).names.length then (t, qU 8)
 else (jN (zU t (zK t o.a).1 (zK t o.a).2.1) (qQ (getN t (zK t o.a).1).names (zK t o.a).2.1), okN)
theorem zk4 (t : List Node) (k0 : Nat) (hk0 : k0 < 200000) (hS : Small k0 t) (o : Opn) (ha : o.a.length < 1000000) : Ev cfg 49 [.sl (t.map zB), encOpn o] (.ret (.tup [.d (.sl ((kU t o).1.map zB)), .d (zT (kU t o).2)])) := by
 refine kQ rfl rfl zxy ?_
 show Wp cfg (Try.f49.body.getD .skip) ((.d (.sl (t.map zB))) :: (.d (encOpn o)) :: uZ (uZ (uZ (uZ (uZ (uZ (uZ ((.tup []) :: (.tup []) :: [])))))))) [] [] _
 unfold uZ
 conv => arg 2; whnf
 have hk1 : k0 < 300000 := by omega
 have hlt : t.length < 400000 := Nat.lt_of_le_of_lt hS.len (by omega)
 have hlt' : t.length < 1000000 := by omega
 simp (maxSteps:=1000000) (disch:=first|assumption|omega|rfl) only [↓gp, gc, Nat.reduceAdd, wY hS hk1]
 generalize hr : kU t o = r
 unfold kU at hr
 generalize zK t o.a = w at hr ⊢
 obtain ⟨d, s, e⟩ := w
 simp only at hr
 have hgn : (getN t d).names.length < 1000000 := Nat.lt_of_le_of_lt (hS.gnms _) (by omega)
 have hgn' : (getN t d).names.length < 400000 := Nat.lt_of_le_of_lt (hS.gnms _) (by omega)
 by_cases h1 : e = 0
 ·simp (maxSteps:=1000000) (disch:=first|assumption|omega|rfl) only [↓gp, gc, Nat.reduceAdd, jP, z11]
  rw [if_neg (by simp [h1])] at hr
  generalize qQ (getN t d).names s = ino at hr ⊢
  have hS2 := hS.drop (dir := d) (s := s)
  have hdl : (zU t d s).length < 400000 := Nat.lt_of_le_of_lt hS2.len (by omega)
  have hl1 : -1000000 ≤ (getN (zU t d s) ino).links := by have := (hS2.glnk ino).1; omega
  have hl2 : (getN (zU t d s) ino).links ≤ 1000000 := by have := (hS2.glnk ino).2; omega
  by_cases h2 : ino < 0
  ·skip
   simp (maxSteps:=1000000) (disch:=first|assumption|omega|rfl) only [↓gp, gc, Nat.reduceAdd, qP]
   rw [if_pos h2] at hr
   subst hr
   exact qJ rfl rfl (x := .d (zT (qU 4))) (by kernel_rfl) rfl rfl rfl rfl
  ·simp (maxSteps:=1000000) (disch:=first|assumption|omega|rfl) only [↓gp, gc, Nat.reduceAdd, jP]
   rw [if_neg h2] at hr
   by_cases d4 : o.does = 4
   ·have d5 : ¬ o.does = 5 := by omega
    by_cases k2 : (getN t ino).kind = 2
    ·skip
     simp (maxSteps:=1000000) (disch:=first|assumption|omega|rfl) only [↓gp, gc, Nat.reduceAdd, qP]
     rw [if_pos ⟨d4, k2⟩] at hr
     subst hr
     exact qJ rfl rfl (x := .d (zT (qU 7))) (by kernel_rfl) rfl rfl rfl rfl
    ·skip
     simp (maxSteps:=1000000) (disch:=first|assumption|omega|rfl) only [↓gp, gc, Nat.reduceAdd, z2h, z4f, z22]
     rw [if_neg (fun h => k2 h.2), if_neg (fun h => d5 h.1), if_neg (fun h => d5 h.1)] at hr
     subst hr
     exact qJ rfl rfl (x := .agg [.d (.int .i64 0), .d (.int .i64 0), .d (.int .i64 0), .d (.int .i64 0), .d (.int .i64 0), .ts [], .ts []]) (by kernel_rfl) rfl rfl rfl rfl
   ·by_cases d5 : o.does = 5
    ·simp (maxSteps:=1000000) (disch:=first|assumption|omega|rfl) only [↓gp, gc, Nat.reduceAdd]
     rw [if_neg (fun h => d4 h.1)] at hr
     by_cases k2 : (getN t ino).kind = 2
     ·simp (maxSteps:=1000000) (disch:=first|assumption|omega|rfl) only [↓gp, gc, Nat.reduceAdd]
      rw [if_neg (fun h => h.2 k2)] at hr
      by_cases z : (getN t ino).names.length > 0
      ·skip
       simp (maxSteps:=1000000) (disch:=first|assumption|omega|rfl) only [↓gp, gc, Nat.reduceAdd, qP]
       rw [if_pos ⟨d5, z⟩] at hr
       subst hr
       exact qJ rfl rfl (x := .d (zT (qU 8))) (by kernel_rfl) rfl rfl rfl rfl
      ·skip
       simp (maxSteps:=1000000) (disch:=first|assumption|omega|rfl) only [↓gp, gc, Nat.reduceAdd, z2h, z4f, z22]
       rw [if_neg (fun h => z h.2)] at hr
       subst hr
       exact qJ rfl rfl (x := .agg [.d (.int .i64 0), .d (.int .i64 0), .d (.int .i64 0), .d (.int .i64 0), .d (.int .i64 0), .ts [], .ts []]) (by kernel_rfl) rfl rfl rfl rfl
     ·skip
      simp (maxSteps:=1000000) (disch:=first|assumption|omega|rfl) only [↓gp, gc, Nat.reduceAdd, qP]
      rw [if_pos ⟨d5, k2⟩] at hr
      subst hr
      exact qJ rfl rfl (x := .d (zT (qU 6))) (by kernel_rfl) rfl rfl rfl rfl
    ·skip
     simp (maxSteps:=1000000) (disch:=first|assumption|omega|rfl) only [↓gp, gc, Nat.reduceAdd, z2h, z4f, z22]
     rw [if_neg (fun h => d4 h.1), if_neg (fun h => d5 h.1), if_neg (fun h => d5 h.1)] at hr
     subst hr
     exact qJ rfl rfl (x := .agg [.d (.int .i64 0), .d (.int .i64 0), .d (.int .i64 0), .d (.int .i64 0), .d (.int .i64 0), .ts [], .ts []]) (by kernel_rfl) rfl rfl rfl rfl
 ·skip
  simp (maxSteps:=1000000) (disch:=first|assumption|omega|rfl) only [↓gp, gc, Nat.reduceAdd, qP]
  rw [if_pos h1] at hr
  subst hr
  exact qJ rfl rfl (x := .d (zT (qU e))) (by kernel_rfl) rfl rfl rfl rfl
theorem zgh {ops : Array Oper} {dst : Option Tmp} {l : List Oper} {T : List V} {S : zA} {F : Dfs} {Q : Post} {t : List Node} {o : Opn} {k0 : Nat} (hS : Small k0 t) (hk0 : k0 < 200000) (ha : o.a.length < 1000000) :
  WpR cfg ops dst l T S F Q (some (.enter 49 [.d (.sl (t.map zB)), .d (encOpn o)])) = WpL cfg ops l (putT T dst (.tup [.d (.sl ((kU t o).1.map zB)), .d (zT (kU t o).2)])) S F Q :=
 zX (ds := [.sl (t.map zB), encOpn o]) rfl (zk4 t k0 hk0 hS o ha)
def moved (n : Node) (p : Int) : Node := ⟨n.ino, n.kind, n.links, p, n.size, n.data, n.names⟩
def renamed (t : List Node) (f : Int) (old : List UInt8) (d : Int) (s : List UInt8) (ino was kind : Int) : List Node :=
 let t1 := if 0 ≤ was then jN (zU t d s) was else t
 let t2 := putN (zU t1 f old) d s ino
 if kind = 2 then qT t2 (moved (getN t2 ino) d) else t2
def z39 (t : List Node) (f : Int) (old : List UInt8) (ino : Int) (d : Int) (s : List UInt8) (was : Int) : List Node × Ans :=
 if was = ino then (t, okN)
 else if (getN t ino).kind = 2 ∧ wJ t ino (t.length + 1) d = true then (t, qU 9)
 else if 0 ≤ was ∧ (getN t ino).kind = 2 then (t, qU 5)
 else if 0 ≤ was ∧ (getN t was).kind = 2 then (t, qU 7)
 else (renamed t f old d s ino was (getN t ino).kind, okN)
def kT (t : List Node) (o : Opn) : List Node × Ans :=
 if (zK t o.a).2.2 ≠ 0 then (t, qU (zK t o.a).2.2)
 else if qQ (getN t (zK t o.a).1).names (zK t o.a).2.1 < 0 then (t, qU 4)
 else if (zK t o.b).2.2 ≠ 0 then (t, qU (zK t o.b).2.2)
 else z39 t (zK t o.a).1 (zK t o.a).2.1 (qQ (getN t (zK t o.a).1).names (zK t o.a).2.1) (zK t o.b).1 (zK t o.b).2.1 (qQ (getN t (zK t o.b).1).names (zK t o.b).2.1)
theorem zme (t : List Node) (k0 : Nat) (hk0 : k0 < 200000) (hS : Small k0 t) (o : Opn) (ha : o.a.length < 1000000) (hb : o.b.length < 1000000) : Ev cfg 50 [.sl (t.map zB), encOpn o] (.ret (.tup [.d (.sl ((kT t o).1.map zB)), .d (zT (kT t o).2)])) := by
 refine kQ rfl rfl zvu ?_
 show Wp cfg (Try.f50.body.getD .skip) ((.d (.sl (t.map zB))) :: (.d (encOpn o)) :: uZ (uZ (uZ (uZ (uZ (uZ (uZ (uZ (uZ (uZ (uZ (uZ ((.tup []) :: (.tup []) :: (.tup []) :: (.tup []) :: []))))))))))))) [] [] _
 unfold uZ
 conv => arg 2; whnf
 have hk1 : k0 < 300000 := by omega
 have hlt : t.length < 400000 := Nat.lt_of_le_of_lt hS.len (by omega)
 have hlt' : t.length < 1000000 := by omega
 have hln := z1l t o.b
 simp (maxSteps:=1000000) (disch:=first|assumption|omega|rfl) only [↓gp, gc, Nat.reduceAdd, wY hS hk1]
 generalize hr : kT t o = r
 unfold kT at hr
 generalize zK t o.a = w at hr ⊢
 obtain ⟨f, old, e⟩ := w
 simp only at hr
 have hgf : (getN t f).names.length < 1000000 := Nat.lt_of_le_of_lt (hS.gnms _) (by omega)
 by_cases h1 : e = 0
 ·simp (maxSteps:=1000000) (disch:=first|assumption|omega|rfl) only [↓gp, gc, Nat.reduceAdd, jP, z11]
  rw [if_neg (by simp [h1])] at hr
  generalize qQ (getN t f).names old = ino at hr ⊢
  by_cases h2 : ino < 0
  ·skip
   simp (maxSteps:=1000000) (disch:=first|assumption|omega|rfl) only [↓gp, gc, Nat.reduceAdd, qP]
   rw [if_pos h2] at hr
   subst hr
   exact qJ rfl rfl (x := .d (zT (qU 4))) (by kernel_rfl) rfl rfl rfl rfl
  ·simp (maxSteps:=1000000) (disch:=first|assumption|omega|rfl) only [↓gp, gc, Nat.reduceAdd, wY hS hk1]
   rw [if_neg h2] at hr
   generalize zK t o.b = w at hr hln ⊢
   obtain ⟨d, s, e2⟩ := w
   simp only at hr hln
   have hgd : (getN t d).names.length < 1000000 := Nat.lt_of_le_of_lt (hS.gnms _) (by omega)
   by_cases h3 : e2 = 0
   ·simp (maxSteps:=1000000) (disch:=first|assumption|omega|rfl) only [↓gp, gc, Nat.reduceAdd, jP, z11]
    rw [if_neg (by simp [h3])] at hr
    generalize qQ (getN t d).names s = was at hr ⊢
    unfold z39 at hr
    by_cases h4 : was = ino
    ·simp (maxSteps:=1000000) (disch:=first|assumption|omega|rfl) only [↓gp, gc, Nat.reduceAdd, z22]
     rw [if_pos h4] at hr
     subst hr
     exact qJ rfl rfl (x := .agg [.d (.int .i64 0), .d (.int .i64 0), .d (.int .i64 0), .d (.int .i64 0), .d (.int .i64 0), .ts [], .ts []]) (by kernel_rfl) rfl rfl rfl rfl
    ·simp (maxSteps:=1000000) (disch:=first|assumption|omega|rfl) only [↓gp, gc, Nat.reduceAdd, jP]
     rw [if_neg h4] at hr
     have hsl : s.length < 1000000 := by omega
     have hgd4 : (getN t d).names.length < 400000 := Nat.lt_of_le_of_lt (hS.gnms _) (by omega)
     have hgf4 : (getN t f).names.length < 400000 := Nat.lt_of_le_of_lt (hS.gnms _) (by omega)
     by_cases k : (getN t ino).kind = 2
     ·simp (maxSteps:=1000000) (disch:=first|assumption|omega|rfl) only [↓gp, gc, Nat.reduceAdd, zi6]
      cases hbl : wJ t ino (t.length + 1) d with
      | true =>
       simp (maxSteps:=1000000) (disch:=first|assumption|omega|rfl) only [↓gp, gc, Nat.reduceAdd, qP]
       rw [if_pos ⟨k, hbl⟩] at hr
       subst hr
       exact qJ rfl rfl (x := .d (zT (qU 9))) (by kernel_rfl) rfl rfl rfl rfl
      | false =>
       simp (maxSteps:=1000000) (disch:=first|assumption|omega|rfl) only [↓gp, gc, Nat.reduceAdd]
       rw [if_neg (fun h => by rw [hbl] at h; exact Bool.noConfusion h.2)] at hr
       by_cases w : was ≥ 0
       ·skip
        simp (maxSteps:=1000000) (disch:=first|assumption|omega|rfl) only [↓gp, gc, Nat.reduceAdd, qP]
        rw [if_pos ⟨w, k⟩] at hr
        subst hr
        exact qJ rfl rfl (x := .d (zT (qU 5))) (by kernel_rfl) rfl rfl rfl rfl
       ·rw [if_neg (fun h => w h.1), if_neg (fun h => w h.1)] at hr
        simp only [renamed, if_neg w, if_pos k] at hr
        have hS2 := hS.drop (dir := f) (s := old)
        have hl2 : (zU t f old).length < 400000 := Nat.lt_of_le_of_lt hS2.len (by omega)
        have hn2 : (getN (zU t f old) d).names.length < 400000 := Nat.lt_of_le_of_lt (hS2.gnms _) (by omega)
        have hm2 : ∀ e ∈ (getN (zU t f old) d).names, e.name.length < 1000000 := fun e he => Nat.lt_of_le_of_lt (hS2.gnam _ e he) (by omega)
        have hS3 := hS2.put (dir := d) (s := s) (ino := ino) (by omega)
        have hl3 : (putN (zU t f old) d s ino).length < 400000 := Nat.lt_of_le_of_lt hS3.len (by omega)
        have hl3' : (putN (zU t f old) d s ino).length < 1000000 := by omega
        simp (maxSteps:=1000000) (disch:=first|assumption|omega|rfl) only [↓gp, gc, Nat.reduceAdd, z2h, z89, jP, z1i, z22]
        subst hr
        exact qJ rfl rfl (x := .agg [.d (.int .i64 0), .d (.int .i64 0), .d (.int .i64 0), .d (.int .i64 0), .d (.int .i64 0), .ts [], .ts []]) (by kernel_rfl) rfl rfl rfl rfl
     ·simp (maxSteps:=1000000) (disch:=first|assumption|omega|rfl) only [↓gp, gc, Nat.reduceAdd]
      rw [if_neg (fun h => k h.1), if_neg (fun h => k h.2)] at hr
      by_cases w : was ≥ 0
      ·simp (maxSteps:=1000000) (disch:=first|assumption|omega|rfl) only [↓gp, gc, Nat.reduceAdd]
       by_cases m : (getN t was).kind = 2
       ·skip
        simp (maxSteps:=1000000) (disch:=first|assumption|omega|rfl) only [↓gp, gc, Nat.reduceAdd, qP]
        rw [if_pos ⟨w, m⟩] at hr
        subst hr
        exact qJ rfl rfl (x := .d (zT (qU 7))) (by kernel_rfl) rfl rfl rfl rfl
       ·rw [if_neg (fun h => m h.2)] at hr
        simp only [renamed, if_pos w, if_neg k] at hr
        have hS0 := hS.drop (dir := d) (s := s)
        have hl0 : (zU t d s).length < 400000 := Nat.lt_of_le_of_lt hS0.len (by omega)
        have hk1' : -1000000 ≤ (getN (zU t d s) was).links := by have := (hS0.glnk was).1; omega
        have hk2' : (getN (zU t d s) was).links ≤ 1000000 := by have := (hS0.glnk was).2; omega
        have hS1 := hS0.loses (ino := was)
        have hl1 : (jN (zU t d s) was).length < 400000 := Nat.lt_of_le_of_lt hS1.len (by omega)
        have hn1 : (getN (jN (zU t d s) was) f).names.length < 400000 := Nat.lt_of_le_of_lt (hS1.gnms _) (by omega)
        have hS2 := hS1.drop (dir := f) (s := old)
        have hl2 : (zU (jN (zU t d s) was) f old).length < 400000 := Nat.lt_of_le_of_lt hS2.len (by omega)
        have hn2 : (getN (zU (jN (zU t d s) was) f old) d).names.length < 400000 := Nat.lt_of_le_of_lt (hS2.gnms _) (by omega)
        have hm2 : ∀ e ∈ (getN (zU (jN (zU t d s) was) f old) d).names, e.name.length < 1000000 := fun e he => Nat.lt_of_le_of_lt (hS2.gnam _ e he) (by omega)
        simp (maxSteps:=1000000) (disch:=first|assumption|omega|rfl) only [↓gp, gc, Nat.reduceAdd, z2h, z89, z4f, z22]
        subst hr
        exact qJ rfl rfl (x := .agg [.d (.int .i64 0), .d (.int .i64 0), .d (.int .i64 0), .d (.int .i64 0), .d (.int .i64 0), .ts [], .ts []]) (by kernel_rfl) rfl rfl rfl rfl
      ·rw [if_neg (fun h => w h.1)] at hr
       simp only [renamed, if_neg w, if_neg k] at hr
       have hS2 := hS.drop (dir := f) (s := old)
       have hl2 : (zU t f old).length < 400000 := Nat.lt_of_le_of_lt hS2.len (by omega)
       have hn2 : (getN (zU t f old) d).names.length < 400000 := Nat.lt_of_le_of_lt (hS2.gnms _) (by omega)
       have hm2 : ∀ e ∈ (getN (zU t f old) d).names, e.name.length < 1000000 := fun e he => Nat.lt_of_le_of_lt (hS2.gnam _ e he) (by omega)
       simp (maxSteps:=1000000) (disch:=first|assumption|omega|rfl) only [↓gp, gc, Nat.reduceAdd, z2h, z89, z22]
       subst hr
       exact qJ rfl rfl (x := .agg [.d (.int .i64 0), .d (.int .i64 0), .d (.int .i64 0), .d (.int .i64 0), .d (.int .i64 0), .ts [], .ts []]) (by kernel_rfl) rfl rfl rfl rfl
   ·skip
    simp (maxSteps:=1000000) (disch:=first|assumption|omega|rfl) only [↓gp, gc, Nat.reduceAdd, qP]
    rw [if_pos h3] at hr
    subst hr
    exact qJ rfl rfl (x := .d (zT (qU e2))) (by kernel_rfl) rfl rfl rfl rfl
 ·skip
  simp (maxSteps:=1000000) (disch:=first|assumption|omega|rfl) only [↓gp, gc, Nat.reduceAdd, qP]
  rw [if_pos h1] at hr
  subst hr
  exact qJ rfl rfl (x := .d (zT (qU e))) (by kernel_rfl) rfl rfl rfl rfl
theorem zgi {ops : Array Oper} {dst : Option Tmp} {l : List Oper} {T : List V} {S : zA} {F : Dfs} {Q : Post} {t : List Node} {o : Opn} {k0 : Nat} (hS : Small k0 t) (hk0 : k0 < 200000) (ha : o.a.length < 1000000) (hb : o.b.length < 1000000) :
  WpR cfg ops dst l T S F Q (some (.enter 50 [.d (.sl (t.map zB)), .d (encOpn o)])) = WpL cfg ops l (putT T dst (.tup [.d (.sl ((kT t o).1.map zB)), .d (zT (kT t o).2)])) S F Q :=
 zX (ds := [.sl (t.map zB), encOpn o]) rfl (zme t k0 hk0 hS o ha hb)
end Go.Proofs.Ytghllhghboaagaa
end
section
namespace Go.Vm
open Go
theorem vso :
 (∀ {a : Ob} {l : zA}, (a :: l)[0]? = some a) ∧
 (∀ {a : Ob} {l : zA} {n : Nat}, (a :: l)[n + 1]? = l[n]?) ∧
 (∀ {a b : Ob} {l : zA}, (a :: l).set 0 b = b :: l) ∧
 (∀ {a b : Ob} {l : zA} {n : Nat}, (a :: l).set (n + 1) b = a :: l.set n b) ∧
 (∀ {n : Nat}, List.replicate (n + 1) Ob.hole = .hole :: List.replicate n .hole) ∧
 (List.replicate 0 Ob.hole = []) :=
 ⟨rfl, rfl, rfl, rfl, rfl, rfl⟩
def mkO (P : Program) (e : TypeId) (z : V) : V → V → Option (Ob × (Nat → V))
 | .d (.int .i64 l), .d (.int .i64 c) => if 0 ≤ l ∧ l ≤ c ∧ c ≤ 9223372036854775807 then if room P e c.toNat && qI P e z then
     some (.row (List.replicate c.toNat z) e, fun id => .rs id 0 l.toNat) else none else none
 | _, _ => none
theorem zst {P : Program} {e : TypeId} {z : V} {n : Int} (hr : room P e n.toNat = true) (hf : qI P e z = true) (h0 : 0 ≤ n) (h1 : n ≤ 1000000) : mkO P e z (.d (.int .i64 n)) (.d (.int .i64 n)) = some (.row (List.replicate n.toNat z) e, fun id => .rs id 0 n.toNat) := by
 simp only [mkO]
 rw [if_pos ⟨h0, Int.le_refl _, by omega⟩, if_pos (by rw [hr, hf]; rfl)]
section
variable {C : Cfg} {S : zA} {T : List V} {dst : Option Tmp} {ops : Array Oper} {F : Dfs} {Q : Post} {K : List Nat → List (Nat × Nat) → List V → zA → Prop} {rd : List Nat} {cs : List (Nat × Nat)} {i : Nat}
theorem z5h {base : Nat} {K : List (Nat × Nat) → List V → zA → Prop} {ob : Ob} {f : Nat → V} : WpA base K cs i dst T S (some (ob, f)) = (S[base + i]? = some .hole ∧ K (cs ++ [(i, 2)]) (putT T dst (f (base + i))) (S.set (base + i) ob)) := rfl
theorem zgc {ty : TypeId} {pos : String} {after : Array Edge} {g : Option (Nat × Bool)} {t : TypeId} {l c : Operand} : kR ⟨dst, .makeSlice t l c, ty, pos, after, g⟩ = true := rfl
theorem zgg {P : Program} {ty : TypeId} {pos : String} {after : Array Edge} {g : Option (Nat × Bool)} {t e : TypeId} {l c : Operand} {z : V} (hu : P.underlying t = some (.slice e)) (hz : zeroV P e = some z) : addO P T ⟨dst, .makeSlice t l c, ty, pos, after, g⟩ = mkO P e z (zF T l) (zF T c) := by
 simp only [addO, hu, hz]
 unfold mkO
 split
 ·rename_i heq; simp only [Option.some.injEq] at heq; obtain ⟨h1, h2, h3⟩ := And.intro ‹_› (And.intro ‹_› heq); subst h3; simp_all
 ·rename_i h; split
  ·exfalso; simp_all
  ·rfl
theorem zoj {id : Nat} {xs : List D} {e : TypeId} (hr : S[id]? = some (.row (xs.map .d) e)) : mark S [id] S [id] = some (S.set id (.fz xs e)) := by
 have h3 : allO (frz S zO) (xs.map V.d) = some xs := zac (n := 11) xs
 have h4 : (xs.map V.d).flatMap (zZ S zO) = [] := zb6 xs
 simp only [mark, hr, z3w, h3, Option.map_some, z8r, h4, List.all_nil, if_true]
theorem zov {n : Nat} {f : FuncId} {args : List V} {ds : List D} {v : V} {id : Nat} {xs : List D} {e : TypeId} (hs : C.shared f = false) (hf : allO (frz S zO) args = some ds) (hi : args.flatMap (zZ S zO) = [id]) (hr : S[id]? = some (.row (xs.map .d) e)) (hp : z31 (.ret v) = false) (hn : answer C (run C n) f ds = some (.ret v)) : kE C (run C n) f args S = some (.ret v, S.set id (.fz xs e), 3) := by
 unfold kE
 simp only [hs, Bool.false_eq_true, if_false, hf, hn, hi, List.isEmpty_cons, hp, zoj hr]
theorem zg5 {f : FuncId} {args : List V} {ds : List D} {v : V} {id : Nat} {xs : List D} {e : TypeId} (hs : C.shared f = false) (hf : allO (frz S zO) args = some ds) (hi : args.flatMap (zZ S zO) = [id]) (hr : S[id]? = some (.row (xs.map .d) e)) (hp : z31 (.ret v) = false) (he : Ev C f ds (.ret v)) :
  WpE C ops F Q K rd cs i dst T S (some (.enter f args)) = (z69 ops rd i 3 ∧ K rd (cs ++ [(i, 3)]) (putT T dst v) (S.set id (.fz xs e))) := by
 obtain ⟨n, hn⟩ := he
 have hc : kE C (run C n) f args S = some (.ret v, S.set id (.fz xs e), 3) := zov hs hf hi hr hp hn
 apply propext
 constructor
 ·rintro ⟨m, v', S', c, h1, h2, h3⟩
  have := z2k h1 hc
  simp only [Prod.mk.injEq] at this
  obtain ⟨h4, rfl, rfl⟩ := this
  cases h4
  exact ⟨h2, h3⟩
 ·exact fun h => ⟨n, _, _, _, hc, h.1, h.2⟩
theorem zqv {n : Nat} {x : D} : List.replicate n (V.d x) = (List.replicate n x).map .d := by simp
end
section
variable {C : Cfg} {ops : Array Oper} {dst : Option Tmp} {ty : TypeId} {pos : String} {after : Array Edge} {l : List Oper} {T : List V} {S : zA} {F : Dfs} {Q : Post} {t : TypeId} {n : Nat} {ps : Array (Nat × Operand)} {d2 : Option Tmp} {ty2 : TypeId} {pos2 : String} {after2 : Array Edge} {g2 : Option (Nat × Bool)}
theorem zdd {x : Operand} : WpL C ops (⟨dst, .buildSlice t n ps, ty, pos, after, none⟩ :: ⟨d2, .assign x, ty2, pos2, after2, g2⟩ :: l) T S F Q = WpR C ops dst (⟨d2, .assign x, ty2, pos2, after2, g2⟩ :: l) T S F Q (opV C.P S T ⟨dst, .buildSlice t n ps, ty, pos, after, none⟩) := z90 rfl
theorem zj5 {x : Operand} : WpL C ops (⟨dst, .buildSlice t n ps, ty, pos, after, none⟩ :: ⟨d2, .move x, ty2, pos2, after2, g2⟩ :: l) T S F Q = WpR C ops dst (⟨d2, .move x, ty2, pos2, after2, g2⟩ :: l) T S F Q (opV C.P S T ⟨dst, .buildSlice t n ps, ty, pos, after, none⟩) := z90 rfl
theorem z8u {s : TypeId} {x : Operand} {f : Nat} : WpL C ops (⟨dst, .buildSlice t n ps, ty, pos, after, none⟩ :: ⟨d2, .fieldAddr s x f, ty2, pos2, after2, g2⟩ :: l) T S F Q = WpR C ops dst (⟨d2, .fieldAddr s x f, ty2, pos2, after2, g2⟩ :: l) T S F Q (opV C.P S T ⟨dst, .buildSlice t n ps, ty, pos, after, none⟩) := z90 rfl
theorem zfl {s : TypeId} {qs : Array (Nat × Operand)} : WpL C ops (⟨dst, .buildSlice t n ps, ty, pos, after, none⟩ :: ⟨d2, .build s qs, ty2, pos2, after2, g2⟩ :: l) T S F Q = WpR C ops dst (⟨d2, .build s qs, ty2, pos2, after2, g2⟩ :: l) T S F Q (opV C.P S T ⟨dst, .buildSlice t n ps, ty, pos, after, none⟩) := z90 rfl
theorem zo4 {s : TypeId} {m : Nat} {qs : Array (Nat × Operand)} : WpL C ops (⟨dst, .buildSlice t n ps, ty, pos, after, none⟩ :: ⟨d2, .buildSlice s m qs, ty2, pos2, after2, g2⟩ :: l) T S F Q = WpR C ops dst (⟨d2, .buildSlice s m qs, ty2, pos2, after2, g2⟩ :: l) T S F Q (opV C.P S T ⟨dst, .buildSlice t n ps, ty, pos, after, none⟩) := z90 rfl
theorem vbs :
 (∀ {C : Cfg} {ops : Array Oper} {dst : Option Tmp} {ty : TypeId} {pos : String} {after : Array Edge} {l : List Oper} {T : List V} {S : zA} {F : Dfs} {Q : Post} {t : TypeId} {n : Nat} {ps : Array (Nat × Operand)} {d2 : Option Tmp} {ty2 : TypeId} {pos2 : String} {after2 : Array Edge} {g2 : Option (Nat × Bool)} {x : Operand}, WpL C ops (⟨dst, .buildSlice t n ps, ty, pos, after, none⟩ :: ⟨d2, .assign x, ty2, pos2, after2, g2⟩ :: l) T S F Q = WpR C ops dst (⟨d2, .assign x, ty2, pos2, after2, g2⟩ :: l) T S F Q (opV C.P S T ⟨dst, .buildSlice t n ps, ty, pos, after, none⟩)) ∧
 (∀ {C : Cfg} {ops : Array Oper} {dst : Option Tmp} {ty : TypeId} {pos : String} {after : Array Edge} {l : List Oper} {T : List V} {S : zA} {F : Dfs} {Q : Post} {t : TypeId} {n : Nat} {ps : Array (Nat × Operand)} {d2 : Option Tmp} {ty2 : TypeId} {pos2 : String} {after2 : Array Edge} {g2 : Option (Nat × Bool)} {x : Operand}, WpL C ops (⟨dst, .buildSlice t n ps, ty, pos, after, none⟩ :: ⟨d2, .move x, ty2, pos2, after2, g2⟩ :: l) T S F Q = WpR C ops dst (⟨d2, .move x, ty2, pos2, after2, g2⟩ :: l) T S F Q (opV C.P S T ⟨dst, .buildSlice t n ps, ty, pos, after, none⟩)) ∧
 (∀ {C : Cfg} {ops : Array Oper} {dst : Option Tmp} {ty : TypeId} {pos : String} {after : Array Edge} {l : List Oper} {T : List V} {S : zA} {F : Dfs} {Q : Post} {t : TypeId} {n : Nat} {ps : Array (Nat × Operand)} {d2 : Option Tmp} {ty2 : TypeId} {pos2 : String} {after2 : Array Edge} {g2 : Option (Nat × Bool)} {s : TypeId} {x : Operand} {f : Nat}, WpL C ops (⟨dst, .buildSlice t n ps, ty, pos, after, none⟩ :: ⟨d2, .fieldAddr s x f, ty2, pos2, after2, g2⟩ :: l) T S F Q = WpR C ops dst (⟨d2, .fieldAddr s x f, ty2, pos2, after2, g2⟩ :: l) T S F Q (opV C.P S T ⟨dst, .buildSlice t n ps, ty, pos, after, none⟩)) ∧
 (∀ {C : Cfg} {ops : Array Oper} {dst : Option Tmp} {ty : TypeId} {pos : String} {after : Array Edge} {l : List Oper} {T : List V} {S : zA} {F : Dfs} {Q : Post} {t : TypeId} {n : Nat} {ps : Array (Nat × Operand)} {d2 : Option Tmp} {ty2 : TypeId} {pos2 : String} {after2 : Array Edge} {g2 : Option (Nat × Bool)} {s : TypeId} {qs : Array (Nat × Operand)}, WpL C ops (⟨dst, .buildSlice t n ps, ty, pos, after, none⟩ :: ⟨d2, .build s qs, ty2, pos2, after2, g2⟩ :: l) T S F Q = WpR C ops dst (⟨d2, .build s qs, ty2, pos2, after2, g2⟩ :: l) T S F Q (opV C.P S T ⟨dst, .buildSlice t n ps, ty, pos, after, none⟩)) ∧
 (∀ {C : Cfg} {ops : Array Oper} {dst : Option Tmp} {ty : TypeId} {pos : String} {after : Array Edge} {l : List Oper} {T : List V} {S : zA} {F : Dfs} {Q : Post} {t : TypeId} {n : Nat} {ps : Array (Nat × Operand)} {d2 : Option Tmp} {ty2 : TypeId} {pos2 : String} {after2 : Array Edge} {g2 : Option (Nat × Bool)} {s : TypeId} {m : Nat} {qs : Array (Nat × Operand)}, WpL C ops (⟨dst, .buildSlice t n ps, ty, pos, after, none⟩ :: ⟨d2, .buildSlice s m qs, ty2, pos2, after2, g2⟩ :: l) T S F Q = WpR C ops dst (⟨d2, .buildSlice s m qs, ty2, pos2, after2, g2⟩ :: l) T S F Q (opV C.P S T ⟨dst, .buildSlice t n ps, ty, pos, after, none⟩)) :=
 ⟨zdd, zj5, z8u, zfl, zo4⟩
end
theorem zao {P : Program} {S : zA} {t e : TypeId} {xs : List D} (hu : P.underlying t = some (.slice e)) (hz : zOk P e = true) (hs : (sz P e).isSome = true) (hf : ∀ x ∈ xs, vW P e x = true) (hr : room P e xs.length = true) :
  ∃ v' S' c, qF P S t t (.ts []) (.d (.sl xs)) = some (v', S', c) ∧ OwnS S' v' e (xs.map .d) ∧ (∀ j o, S[j]? = some o → S'[j]? = some o ∧ NotAt v' j) ∧ S.length ≤ S'.length := by
 have hft : (xs.map V.d).all (qI P e) = true := by
  rw [List.all_map, List.all_eq_true]
  intro x hx
  have h := hf x hx
  unfold vW at h
  show qI P e (.d x) = true
  unfold qI
  simp only [Bool.and_eq_true] at h ⊢
  refine ⟨⟨rfl, h.1⟩, ?_⟩
  simpa [V.cells] using h.2
 have hsrc : srcV P S e t (.d (.sl xs)) = some (xs.map .d) := by
  simp only [srcV, hu, vH, hft, hs, Bool.and_self, if_true]
 cases xs with
 | nil => exact ⟨.ts [], S, 1, by simp only [qF, hu, hsrc, List.map_nil], .inl ⟨rfl, rfl⟩, fun j o hj => ⟨hj, fun off l h => by cases h⟩, Nat.le_refl _⟩
 | cons y r =>
  refine ⟨.rs S.length 0 (r.length + 1), S ++ [.row ((y :: r).map .d) e], 2, ?_, .inr ⟨S.length, by simp, by simp⟩, fun j o hj => ⟨?_, ?_⟩, by simp⟩
  ·have hr1 : room P e (0 + (r.length + 1)) = true := by simpa using hr
   simp only [qF, hu, hsrc, hz, if_true, List.map_cons, List.all_nil, Bool.true_and, List.length_nil, List.length_map, List.map_nil, List.nil_append]
   rw [if_pos hr1, Nat.zero_add]
  ·rw [List.getElem?_append_left (qN hj)]; exact hj
  ·intro off l h
   have := qN hj
   cases h; omega
theorem zR {S : zA} {x : V} {e : TypeId} : rowE (S ++ [.row [x] e]) S.length 0 = some x := zE (e := e) (by simp)
theorem zN {S : zA} {x y : V} {e : TypeId} : z1o (S ++ [.row [x] e]) S.length 0 y = some (S ++ [.row [y] e]) := by
 rw [qD (x := x) (e := e) (by simp)]
 simp
end Go.Vm
end
section
namespace Go.Proofs.Ytghllhghboaagaa
open Go.Vm
theorem ffB {l : List UInt8} : qI Try.prog 29 (.d (encB l)) = true := by kernel_rfl
theorem ldB {S : zA} {l : List UInt8} : jV Try.prog S 29 (.d (.ptr (encB l))) = some (.d (encB l)) := by kernel_rfl
theorem lenB {S : zA} {l : List UInt8} : qB Try.prog S .len [29] [.d (encB l)] = some (.val (.d (.int .i64 l.length)) S 0) := by
 unfold encB; rw [q15, List.length_map]
theorem ixB {S : zA} {l : List UInt8} {i : Nat} (h : i < l.length) : qM Try.prog S 29 (.d (encB l)) (.d (.int .i64 i)) = some (.d (.ptr (.int .u8 (l[i].toNat : Int)))) := ix29 h
def layA (at_ : Int) (data : List UInt8) : Nat → List UInt8 → List UInt8
 | _, [] => []
 | i, x :: r => (if 0 ≤ at_ ∧ at_ ≤ i ∧ (i : Int) - at_ < data.length then data.getD ((i : Int) - at_).toNat 0 else x) :: layA at_ data (i + 1) r
def layN (b : List UInt8) (at_ : Int) (data : List UInt8) : List UInt8 := layA at_ data 0 b
theorem zh5 {a : Int} {d : List UInt8} : ∀ {i : Nat} {l : List UInt8}, (layA a d i l).length = l.length
 | _, [] => rfl
 | i, x :: r => by simp [layA, zh5]
theorem z30 {b d : List UInt8} {a : Int} : (layN b a d).length = b.length := zh5
theorem q17 (b data : List UInt8) (at_ : Int) (hl : b.length < 1000000) (hd : data.length < 1000000) (h1 : 0 ≤ at_) (h2 : at_ ≤ 1000000) (R : Post) (g6 : V) : ∀ (k i : Nat) (xs : List UInt8) (S : zA) (v7 g9 gI gJ gF gA gB gG gH gC gD gE gK gL gO gM gN gP gQ gV gR gS gT gU gW gX gY gZ gf gg gh gi gj gk gm gn gr gz : V),
 b.length - i = k → i ≤ b.length → xs.length = i → OwnS S v7 5 (xs.map fun x => .d (.int .u8 x.toNat)) →
 (∀ S v7 i' ys g9 gI gJ gF gA gB gG gH gC gD gE gK gL gO gM gN gP gQ gV gR gS gT gU gW gX gY gZ gf gg gh gi gj gk gm gn gr gz, ys = xs ++ layA at_ data i (b.drop i) → OwnS S v7 5 (ys.map fun x => .d (.int .u8 x.toNat)) → R (.exit 0) ((.d (encB b)) :: (.d (.int .i64 at_)) :: (.d (encB data)) :: (.tup []) :: (.tup []) :: (.tup []) :: g6 :: v7 :: i' :: g9 :: gI :: gJ :: gF :: gA :: gB :: gG :: gH :: gC :: gD :: gE :: gK :: gL :: gO :: gM :: gN :: gP :: gQ :: gV :: gR :: gS :: gT :: gU :: gW :: gX :: gY :: gZ :: gf :: gg :: gh :: gi :: gj :: gk :: gm :: gn :: gr :: gz :: []) S []) →
 Wp cfg (.loop (lpOf (Try.f94.body.getD .skip) 0)) ((.d (encB b)) :: (.d (.int .i64 at_)) :: (.d (encB data)) :: (.tup []) :: (.tup []) :: (.tup []) :: g6 :: v7 :: (.d (.int .i64 i)) :: g9 :: gI :: gJ :: gF :: gA :: gB :: gG :: gH :: gC :: gD :: gE :: gK :: gL :: gO :: gM :: gN :: gP :: gQ :: gV :: gR :: gS :: gT :: gU :: gW :: gX :: gY :: gZ :: gf :: gg :: gh :: gi :: gj :: gk :: gm :: gn :: gr :: gz :: []) S [] R := by
 intro k
 induction k with
 | zero =>
  intro i xs S v7 g9 gI gJ gF gA gB gG gH gC gD gE gK gL gO gM gN gP gQ gV gR gS gT gU gW gX gY gZ gf gg gh gi gj gk gm gn gr gz hk hi hxl ho hR
  have hie : i = b.length := by omega
  rw [qK]
  refine zS ?_
  conv => arg 2; whnf
  simp (maxSteps:=1000000) (disch:=first|assumption|omega|rfl) only [↓gp, gc, Nat.reduceAdd, lenB]
  exact hR _ _ _ xs _ _ _ _ _ _ _ _ _ _ _ _ _ _ _ _ _ _ _ _ _ _ _ _ _ _ _ _ _ _ _ _ _ _ _ _ _ (by rw [hie, List.drop_length]; simp [layA]) ho
 | succ k ih =>
  intro i xs S v7 g9 gI gJ gF gA gB gG gH gC gD gE gK gL gO gM gN gP gQ gV gR gS gT gU gW gX gY gZ gf gg gh gi gj gk gm gn gr gz hk hi hxl ho hR
  have hlt : i < b.length := by omega
  have hdr : b.drop i = b[i] :: b.drop (i + 1) := List.drop_eq_getElem_cons hlt
  rw [hdr] at hR
  rw [qK]
  refine zS ?_
  conv => arg 2; whnf
  by_cases c1 : (i : Int) ≥ at_
  ·by_cases c2 : (i : Int) - at_ < data.length
   ·obtain ⟨j, hj⟩ : ∃ j : Nat, (i : Int) - at_ = j := ⟨((i : Int) - at_).toNat, by omega⟩
    have hjl : j < data.length := by omega
    have hix := ixB (S := S) hjl
    rw [← hj] at hix
    obtain ⟨v', S', c, ha, ho', hfr, hlen⟩ := ap29 data[j] ho (by omega)
    simp (maxSteps:=1000000) (disch:=first|assumption|omega|rfl) only [↓gp, gc, Nat.reduceAdd, lenB, ixB, hix, ld5, ha]
    exact ih (i + 1) (xs ++ [data[j]]) S' v' _ _ _ _ _ _ _ _ _ _ _ _ _ _ _ _ _ _ _ _ _ _ _ _ _ _ _ _ _ _ _ _ _ _ _ _ _ (by omega) (by omega) (by simp; omega) ho' (fun S v7 i' ys g9 gI gJ gF gA gB gG gH gC gD gE gK gL gO gM gN gP gQ gV gR gS gT gU gW gX gY gZ gf gg gh gi gj gk gm gn gr gz hy => hR S v7 i' ys g9 gI gJ gF gA gB gG gH gC gD gE gK gL gO gM gN gP gQ gV gR gS gT gU gW gX gY gZ gf gg gh gi gj gk gm gn gr gz (by
     rw [hy]; simp only [layA]; rw [if_pos ⟨h1, c1, c2⟩, hj, Int.toNat_natCast, List.getD_eq_getElem?_getD, List.getElem?_eq_getElem hjl]; simp))
   ·obtain ⟨v', S', c, ha, ho', hfr, hlen⟩ := ap29 b[i] ho (by omega)
    simp (maxSteps:=1000000) (disch:=first|assumption|omega|rfl) only [↓gp, gc, Nat.reduceAdd, lenB, ixB, ld5, ha]
    exact ih (i + 1) (xs ++ [b[i]]) S' v' _ _ _ _ _ _ _ _ _ _ _ _ _ _ _ _ _ _ _ _ _ _ _ _ _ _ _ _ _ _ _ _ _ _ _ _ _ (by omega) (by omega) (by simp; omega) ho' (fun S v7 i' ys g9 gI gJ gF gA gB gG gH gC gD gE gK gL gO gM gN gP gQ gV gR gS gT gU gW gX gY gZ gf gg gh gi gj gk gm gn gr gz hy => hR S v7 i' ys g9 gI gJ gF gA gB gG gH gC gD gE gK gL gO gM gN gP gQ gV gR gS gT gU gW gX gY gZ gf gg gh gi gj gk gm gn gr gz (by
     rw [hy]; simp only [layA]; rw [if_neg (fun h => c2 h.2.2)]; simp))
  ·obtain ⟨v', S', c, ha, ho', hfr, hlen⟩ := ap29 b[i] ho (by omega)
   simp (maxSteps:=1000000) (disch:=first|assumption|omega|rfl) only [↓gp, gc, Nat.reduceAdd, lenB, ixB, ld5, ha]
   exact ih (i + 1) (xs ++ [b[i]]) S' v' _ _ _ _ _ _ _ _ _ _ _ _ _ _ _ _ _ _ _ _ _ _ _ _ _ _ _ _ _ _ _ _ _ _ _ _ _ (by omega) (by omega) (by simp; omega) ho' (fun S v7 i' ys g9 gI gJ gF gA gB gG gH gC gD gE gK gL gO gM gN gP gQ gV gR gS gT gU gW gX gY gZ gf gg gh gi gj gk gm gn gr gz hy => hR S v7 i' ys g9 gI gJ gF gA gB gG gH gC gD gE gK gL gO gM gN gP gQ gV gR gS gT gU gW gX gY gZ gf gg gh gi gj gk gm gn gr gz (by
    rw [hy]; simp only [layA]; rw [if_neg (fun h => c1 h.2.1)]; simp))
theorem zpc (b data : List UInt8) (at_ : Int) (hl : b.length < 1000000) (hd : data.length < 1000000) (h1 : 0 ≤ at_) (h2 : at_ ≤ 1000000) : Ev cfg 94 [encB b, .int .i64 at_, encB data] (.ret (.d (encB (layN b at_ data)))) := by
 refine kQ rfl rfl zwv ?_
 show Wp cfg (Try.f94.body.getD .skip) ((.d (encB b)) :: (.d (.int .i64 at_)) :: (.d (encB data)) :: uZ (uZ (uZ (uZ ((.tup []) :: (.tup []) :: (.tup []) :: []))))) [] [] _
 unfold uZ
 conv => arg 2; whnf
 simp (maxSteps:=1000000) (disch:=first|assumption|omega|rfl) only [↓gp, gc, Nat.reduceAdd]
 refine q17 b data at_ hl hd h1 h2 _ _ b.length 0 [] [] _ _ _ _ _ _ _ _ _ _ _ _ _ _ _ _ _ _ _ _ _ _ _ _ _ _ _ _ _ _ _ _ _ _ _ _ _ _ rfl (by omega) rfl OwnS.nil ?_
 intro S v7 i' ys g9 gI gJ gF gA gB gG gH gC gD gE gK gL gO gM gN gP gQ gV gR gS gT gU gW gX gY gZ gf gg gh gi gj gk gm gn gr gz hy ho
 simp (maxSteps:=1000000) (disch:=first|assumption|omega|rfl) only [↓gp, gc, Nat.reduceAdd]
 rw [List.nil_append, List.drop_zero] at hy
 change ys = layN b at_ data at hy
 subst hy
 exact zV rfl (z19 ho) (z1e (enc := fun x : UInt8 => D.int .u8 x.toNat) ho)
def z7u (b : List UInt8) (off n : Int) : List UInt8 := if off < 0 ∨ n < 1 ∨ b.length ≤ off then [] else (b.take (if (b.length : Int) - off < n then (b.length : Int) else off + n).toNat).drop off.toNat
theorem ztq (b : List UInt8) (off n : Int) (hl : b.length < 1000000) : Ev cfg 93 [encB b, .int .i64 off, .int .i64 n] (.ret (.d (encB (z7u b off n)))) := by
 refine kQ rfl rfl zvj ?_
 show Wp cfg (Try.f93.body.getD .skip) ((.d (encB b)) :: (.d (.int .i64 off)) :: (.d (.int .i64 n)) :: uZ (uZ (uZ ((.tup []) :: (.tup []) :: [])))) [] [] _
 unfold uZ
 conv => arg 2; whnf
 generalize hr : z7u b off n = r
 unfold z7u at hr
 by_cases c1 : off < 0
 ·skip
  simp (maxSteps:=1000000) (disch:=first|assumption|omega|rfl) only [↓gp, gc, Nat.reduceAdd]
  rw [if_pos (.inl c1)] at hr; subst hr
  exact zV rfl rfl rfl
 ·by_cases c2 : n < 1
  ·skip
   simp (maxSteps:=1000000) (disch:=first|assumption|omega|rfl) only [↓gp, gc, Nat.reduceAdd]
   rw [if_pos (.inr (.inl c2))] at hr; subst hr
   exact zV rfl rfl rfl
  ·by_cases c3 : off ≥ b.length
   ·skip
    simp (maxSteps:=1000000) (disch:=first|assumption|omega|rfl) only [↓gp, gc, Nat.reduceAdd, lenB]
    rw [if_pos (.inr (.inr c3))] at hr; subst hr
    exact zV rfl rfl rfl
   ·rw [if_neg (by omega)] at hr
    have hsl := fun (hi : Int) (h2 : hi ≤ b.length) (h1 : off ≤ hi) => zue (S := []) (P := Try.prog) (t := 29) (e := 5) (xs := b.map fun b => .int .u8 b.toNat) (lo := off) (hi := hi) Try.underlying29 (by simp only [List.all_map, List.all_eq_true]; intro x _; exact zo2 _) zr3 (by omega) h1 (by simp only [List.length_map]; omega)
    by_cases c4 : n > (b.length : Int) - off
    ·have h2 := hsl (off + ((b.length : Int) - off)) (by omega) (by omega)
     change jL _ _ _ (.d (encB b)) _ _ = _ at h2
     simp (maxSteps:=1000000) (disch:=first|assumption|omega|rfl) only [↓gp, gc, Nat.reduceAdd, lenB, h2]
     rw [if_pos (by omega)] at hr; subst hr
     rw [show off + ((b.length : Int) - off) = b.length by omega, ← List.map_take, ← List.map_drop]
     exact zV rfl rfl rfl
    ·have h2 := hsl (off + n) (by omega) (by omega)
     change jL _ _ _ (.d (encB b)) _ _ = _ at h2
     simp (maxSteps:=1000000) (disch:=first|assumption|omega|rfl) only [↓gp, gc, Nat.reduceAdd, lenB, h2]
     rw [if_neg (by omega)] at hr; subst hr
     rw [← List.map_take, ← List.map_drop]
     exact zV rfl rfl rfl
theorem zgt {ops : Array Oper} {dst : Option Tmp} {l : List Oper} {T : List V} {S : zA} {F : Dfs} {Q : Post} {b data : List UInt8} {at_ : Int} (hl : b.length < 1000000) (hd : data.length < 1000000) (h1 : 0 ≤ at_) (h2 : at_ ≤ 1000000) :
  WpR cfg ops dst l T S F Q (some (.enter 94 [.d (encB b), .d (.int .i64 at_), .d (encB data)])) = WpL cfg ops l (putT T dst (.d (encB (layN b at_ data)))) S F Q :=
 zX (ds := [encB b, .int .i64 at_, encB data]) rfl (zpc b data at_ hl hd h1 h2)
theorem zm4 {ops : Array Oper} {dst : Option Tmp} {l : List Oper} {T : List V} {S : zA} {F : Dfs} {Q : Post} {b : List UInt8} {off n : Int} (hl : b.length < 1000000) :
  WpR cfg ops dst l T S F Q (some (.enter 93 [.d (encB b), .d (.int .i64 off), .d (.int .i64 n)])) = WpL cfg ops l (putT T dst (.d (encB (z7u b off n)))) S F Q :=
 zX (ds := [encB b, .int .i64 off, .int .i64 n]) rfl (ztq b off n hl)
theorem zgk {ops : Array Oper} {F : Dfs} {Q : Post} {K : List Nat → List (Nat × Nat) → List V → zA → Prop} {rd : List Nat} {cs : List (Nat × Nat)} {i id n : Nat} {dst : Option Tmp} {T : List V} {S : zA} {data : List UInt8} (hn : n < 1000000) (hd : data.length < 1000000) (hr : S[id]? = some (.row (List.replicate n (.d (.int .u8 0))) 5)) :
  WpE cfg ops F Q K rd cs i dst T S (some (.enter 94 [.rs id 0 n, .d (.int .i64 0), .d (encB data)])) = (z69 ops rd i 3 ∧ K rd (cs ++ [(i, 3)]) (putT T dst (.d (encB (layN (List.replicate n 0) 0 data)))) (S.set id (.fz (List.replicate n (.int .u8 0)) 5))) := by
 have hr' : S[id]? = some (.row ((List.replicate n (D.int .u8 0)).map .d) 5) := by rw [hr, zqv]
 have hrb : encB (List.replicate n 0) = .sl (List.replicate n (D.int .u8 0)) := by simp [encB]
 refine zg5 (ds := [encB (List.replicate n 0), .int .i64 0, encB data]) rfl ?_ ?_ hr' rfl (zpc _ data 0 (by simp; exact hn) hd (by omega) (by omega))
 ·have h1 : frz S zO (.rs id 0 n) = some (encB (List.replicate n 0)) := by
   rw [hrb]
   have := zjb (S := S) (v := .rs id 0 n) (e := 5) (ds := List.replicate n (D.int .u8 0)) (.inr ⟨id, by simp, hr'⟩)
   exact this
  simp only [allO, zd8, h1]
 ·have h1 : zZ S zO (.rs id 0 n) = [id] := by
   show (match S[id]? with | some (.row xs e) => id :: xs.flatMap (zZ S 11) | _ => []) = _
   rw [hr']
   simp only [zb6]
  simp only [List.flatMap_cons, h1, List.flatMap_nil, zbn, List.append_nil]
def cutN (n : Node) (m : Int) : Node := ⟨n.ino, n.kind, n.links, n.parent, m, layN (List.replicate m.toNat 0) 0 n.data, n.names⟩
def z71 (n : Node) (o : Opn) : Int := if n.size > o.off + o.data.length then n.size else o.off + o.data.length
def z42 (n : Node) (o : Opn) : Node := ⟨n.ino, n.kind, n.links, n.parent, z71 n o, layN (layN (List.replicate (z71 n o).toNat 0) 0 n.data) o.off o.data, n.names⟩
def q0s (l : List UInt8) : Ans := ⟨0, 0, 0, 0, 0, l, []⟩
def z47 (t : List Node) (n : Node) (o : Opn) : List Node × Ans :=
 if n.kind = 2 then (t, qU 7)
 else if o.does = 7 then
  if o.off < 0 then (t, qU 1)
  else if o.off > 34304 - o.data.length then (t, qU 11)
  else if o.data.length = 0 then (t, okN)
  else (qT t (z42 n o), okN)
 else if o.does = 8 then
  if o.off < 0 then (t, qU 1)
  else if o.n < 0 then (t, qU 1)
  else (t, q0s (z7u n.data o.off o.n))
 else if o.n < 0 then (t, qU 1)
 else if o.n > 34304 then (t, qU 11)
 else (qT t (cutN n o.n), okN)
def wC (t : List Node) (o : Opn) : List Node × Ans :=
 if (zH t o.a).2 ≠ 0 then (t, qU (zH t o.a).2) else z47 t (getN t (zH t o.a).1) o
theorem z5 : zeroV Try.prog 5 = some (.d (.int .u8 0)) := by kernel_rfl
theorem zvx {l : List UInt8} : vP Try.prog 52 [(5, .d (encB l))] = some (.agg [.d (.int .i64 0), .d (.int .i64 0), .d (.int .i64 0), .d (.int .i64 0), .d (.int .i64 0), .d (encB l), .ts []]) := by kernel_rfl
theorem srB {a : Node} {l : List UInt8} : qW Try.prog 29 5 (.d (encB l)) (.d (zB a)) = some (.agg [.d (.int .i64 a.ino), .d (.int .i64 a.kind), .d (.int .i64 a.links), .d (.int .i64 a.parent), .d (.int .i64 a.size), .d (encB l), .d (.sl (a.names.map zI))]) := by kernel_rfl
theorem zob (t : List Node) (k0 : Nat) (hk0 : k0 < 200000) (hS : Small k0 t) (o : Opn) (ha : o.a.length < 1000000) (hd : o.data.length ≤ 1024) (hdo : o.does = 7 ∨ o.does = 8 ∨ o.does = 9) : Ev cfg 51 [.sl (t.map zB), encOpn o] (.ret (.tup [.d (.sl ((wC t o).1.map zB)), .d (zT (wC t o).2)])) := by
 refine kQ rfl rfl ztx ?_
 show Wp cfg (Try.f51.body.getD .skip) ((.d (.sl (t.map zB))) :: (.d (encOpn o)) :: uZ (uZ (uZ (uZ (uZ (uZ (uZ (uZ (uZ (uZ (uZ (uZ (uZ (uZ ((.tup []) :: (.tup []) :: (.tup []) :: (.tup []) :: (.tup []) :: []))))))))))))))) [] [] _
 unfold uZ
 conv => arg 2; whnf
 have hk1 : k0 < 300000 := by omega
 have hlt : t.length < 400000 := Nat.lt_of_le_of_lt hS.len (by omega)
 have hlt' : t.length < 1000000 := by omega
 simp (maxSteps:=1000000) (disch:=first|assumption|omega|rfl) only [↓gp, gc, Nat.reduceAdd, vJ hS hk1]
 generalize hr : wC t o = r
 unfold wC at hr
 generalize zH t o.a = w at hr ⊢
 obtain ⟨ino, e⟩ := w
 simp only at hr
 have hsz := hS.gsiz ino
 obtain ⟨hs0, hs1, hs2⟩ := hsz
 by_cases h1 : e = 0
 ·simp (maxSteps:=1000000) (disch:=first|assumption|omega|rfl) only [↓gp, gc, Nat.reduceAdd, jP]
  rw [if_neg (by simp [h1])] at hr
  generalize getN t ino = n at hr hs0 hs1 hs2 ⊢
  have hdl : n.data.length < 1000000 := by omega
  unfold z47 at hr
  by_cases k : n.kind = 2
  ·skip
   simp (maxSteps:=1000000) (disch:=first|assumption|omega|rfl) only [↓gp, gc, Nat.reduceAdd, qP]
   rw [if_pos k] at hr
   subst hr
   exact qJ rfl rfl (x := .d (zT (qU 7))) (by kernel_rfl) rfl rfl rfl rfl
  ·rw [if_neg k] at hr
   by_cases d7 : o.does = 7
   ·have d8 : ¬ o.does = 8 := by omega
    have d9 : ¬ o.does = 9 := by omega
    rw [if_pos d7] at hr
    by_cases c1 : o.off < 0
    ·skip
     simp (maxSteps:=1000000) (disch:=first|assumption|omega|rfl) only [↓gp, gc, Nat.reduceAdd, qP]
     rw [if_pos c1] at hr
     subst hr
     exact qJ rfl rfl (x := .d (zT (qU 1))) (by kernel_rfl) rfl rfl rfl rfl
    ·rw [if_neg c1] at hr
     by_cases c2 : o.off > 34304 - o.data.length
     ·skip
      simp (maxSteps:=1000000) (disch:=first|assumption|omega|rfl) only [↓gp, gc, Nat.reduceAdd, qP, lenB, ffB]
      rw [if_pos c2] at hr
      subst hr
      exact qJ rfl rfl (x := .d (zT (qU 11))) (by kernel_rfl) rfl rfl rfl rfl
     ·rw [if_neg c2] at hr
      by_cases c3 : o.data.length = 0
      ·skip
       simp (maxSteps:=1000000) (disch:=first|assumption|omega|rfl) only [↓gp, gc, Nat.reduceAdd, qP, lenB, ffB, z22]
       rw [if_pos c3] at hr
       subst hr
       exact qJ rfl rfl (x := .agg [.d (.int .i64 0), .d (.int .i64 0), .d (.int .i64 0), .d (.int .i64 0), .d (.int .i64 0), .ts [], .ts []]) (by kernel_rfl) rfl rfl rfl rfl
      ·rw [if_neg c3] at hr
       have hz0 : qI Try.prog 5 (.d (.int .u8 0)) = true := zp4 0
       by_cases c4 : n.size > o.off + o.data.length
       ·have hsw : z71 n o = n.size := if_pos c4
        have hroom : room Try.prog 5 n.size.toNat = true := zd5 (by omega)
        have hsn : n.size.toNat < 1000000 := by omega
        have hbl : (layN (List.replicate n.size.toNat 0) 0 n.data).length < 1000000 := by rw [z30, List.length_replicate]; omega
        simp (maxSteps:=1000000) (disch:=first|assumption|omega|rfl) only [↓gp, gc, Nat.reduceAdd, lenB, ffB]
        refine qS (is := [0, 2, 3, 1, 4, 5]) (h := 6) (by kernel_rfl) (by kernel_rfl) ?_
        simp (maxSteps:=1000000) (disch:=first|assumption|omega|rfl) only [List.replicate_zero, eq_self, gd, ga, Nat.reduceAdd, ↓gq, vso, z5h, zgc, zgg Try.underlying29 z5, zst hroom hz0, true_and]
        rw [zgk hsn hdl rfl]
        refine ⟨fun _ => by kernel_rfl, ?_⟩
        simp (maxSteps:=1000000) (disch:=first|assumption|omega|rfl) only [List.replicate_zero, eq_self, gd, ga, Nat.reduceAdd, ↓gq, vso]
        refine ⟨by kernel_rfl, ?_⟩
        simp (maxSteps:=1000000) (disch:=first|assumption|omega|rfl) only [↓gp, gc, Nat.reduceAdd, zgt, ffB, srB, z1i, z22]
        subst hr
        unfold z42
        rw [hsw]
        exact qJ rfl rfl (x := .agg [.d (.int .i64 0), .d (.int .i64 0), .d (.int .i64 0), .d (.int .i64 0), .d (.int .i64 0), .ts [], .ts []]) (by kernel_rfl) rfl rfl rfl rfl
       ·have hsw : z71 n o = o.off + o.data.length := if_neg c4
        have hroom : room Try.prog 5 (o.off + o.data.length).toNat = true := zd5 (by omega)
        have hsn : (o.off + o.data.length).toNat < 1000000 := by omega
        have hbl : (layN (List.replicate (o.off + o.data.length).toNat 0) 0 n.data).length < 1000000 := by rw [z30, List.length_replicate]; omega
        simp (maxSteps:=1000000) (disch:=first|assumption|omega|rfl) only [↓gp, gc, Nat.reduceAdd, lenB, ffB]
        refine qS (is := [0, 2, 3, 1, 4, 5]) (h := 6) (by kernel_rfl) (by kernel_rfl) ?_
        simp (maxSteps:=1000000) (disch:=first|assumption|omega|rfl) only [List.replicate_zero, eq_self, gd, ga, Nat.reduceAdd, ↓gq, vso, z5h, zgc, zgg Try.underlying29 z5, zst hroom hz0, true_and]
        rw [zgk hsn hdl rfl]
        refine ⟨fun _ => by kernel_rfl, ?_⟩
        simp (maxSteps:=1000000) (disch:=first|assumption|omega|rfl) only [List.replicate_zero, eq_self, gd, ga, Nat.reduceAdd, ↓gq, vso]
        refine ⟨by kernel_rfl, ?_⟩
        simp (maxSteps:=1000000) (disch:=first|assumption|omega|rfl) only [↓gp, gc, Nat.reduceAdd, zgt, ffB, srB, z1i, z22]
        subst hr
        unfold z42
        rw [hsw]
        exact qJ rfl rfl (x := .agg [.d (.int .i64 0), .d (.int .i64 0), .d (.int .i64 0), .d (.int .i64 0), .d (.int .i64 0), .ts [], .ts []]) (by kernel_rfl) rfl rfl rfl rfl
   ·rw [if_neg d7] at hr
    by_cases d8 : o.does = 8
    ·have d9 : ¬ o.does = 9 := by omega
     rw [if_pos d8] at hr
     by_cases c1 : o.off < 0
     ·skip
      simp (maxSteps:=1000000) (disch:=first|assumption|omega|rfl) only [↓gp, gc, Nat.reduceAdd, qP]
      rw [if_pos c1] at hr
      subst hr
      exact qJ rfl rfl (x := .d (zT (qU 1))) (by kernel_rfl) rfl rfl rfl rfl
     ·rw [if_neg c1] at hr
      by_cases c2 : o.n < 0
      ·skip
       simp (maxSteps:=1000000) (disch:=first|assumption|omega|rfl) only [↓gp, gc, Nat.reduceAdd, qP]
       rw [if_pos c2] at hr
       subst hr
       exact qJ rfl rfl (x := .d (zT (qU 1))) (by kernel_rfl) rfl rfl rfl rfl
      ·rw [if_neg c2] at hr
       simp (maxSteps:=1000000) (disch:=first|assumption|omega|rfl) only [↓gp, gc, Nat.reduceAdd, zm4, zvx]
       subst hr
       exact qJ rfl rfl (x := .agg [.d (.int .i64 0), .d (.int .i64 0), .d (.int .i64 0), .d (.int .i64 0), .d (.int .i64 0), .d (encB (z7u n.data o.off o.n)), .ts []]) (by kernel_rfl) rfl rfl rfl rfl
    ·have d9 : o.does = 9 := by omega
     rw [if_neg d8] at hr
     by_cases c2 : o.n < 0
     ·skip
      simp (maxSteps:=1000000) (disch:=first|assumption|omega|rfl) only [↓gp, gc, Nat.reduceAdd, qP]
      rw [if_pos c2] at hr
      subst hr
      exact qJ rfl rfl (x := .d (zT (qU 1))) (by kernel_rfl) rfl rfl rfl rfl
     ·rw [if_neg c2] at hr
      by_cases c3 : o.n > 34304
      ·skip
       simp (maxSteps:=1000000) (disch:=first|assumption|omega|rfl) only [↓gp, gc, Nat.reduceAdd, qP]
       rw [if_pos c3] at hr
       subst hr
       exact qJ rfl rfl (x := .d (zT (qU 11))) (by kernel_rfl) rfl rfl rfl rfl
      ·rw [if_neg c3] at hr
       have hz0 : qI Try.prog 5 (.d (.int .u8 0)) = true := zp4 0
       have hroom : room Try.prog 5 o.n.toNat = true := zd5 (by omega)
       have hsn : o.n.toNat < 1000000 := by omega
       simp (maxSteps:=1000000) (disch:=first|assumption|omega|rfl) only [↓gp, gc, Nat.reduceAdd]
       refine qS (is := [0, 2, 3, 1, 4, 5]) (h := 6) (by kernel_rfl) (by kernel_rfl) ?_
       simp (maxSteps:=1000000) (disch:=first|assumption|omega|rfl) only [List.replicate_zero, eq_self, gd, ga, Nat.reduceAdd, ↓gq, vso, z5h, zgc, zgg Try.underlying29 z5, zst hroom hz0, true_and]
       rw [zgk hsn hdl rfl]
       refine ⟨fun _ => by kernel_rfl, ?_⟩
       simp (maxSteps:=1000000) (disch:=first|assumption|omega|rfl) only [List.replicate_zero, eq_self, gd, ga, Nat.reduceAdd, ↓gq, vso]
       refine ⟨by kernel_rfl, ?_⟩
       simp (maxSteps:=1000000) (disch:=first|assumption|omega|rfl) only [↓gp, gc, Nat.reduceAdd, ffB, srB, z1i, z22]
       subst hr
       exact qJ rfl rfl (x := .agg [.d (.int .i64 0), .d (.int .i64 0), .d (.int .i64 0), .d (.int .i64 0), .d (.int .i64 0), .ts [], .ts []]) (by kernel_rfl) rfl rfl rfl rfl
 ·skip
  simp (maxSteps:=1000000) (disch:=first|assumption|omega|rfl) only [↓gp, gc, Nat.reduceAdd, qP]
  rw [if_pos h1] at hr
  subst hr
  exact qJ rfl rfl (x := .d (zT (qU e))) (by kernel_rfl) rfl rfl rfl rfl
theorem zhy {ops : Array Oper} {dst : Option Tmp} {l : List Oper} {T : List V} {S : zA} {F : Dfs} {Q : Post} {t : List Node} {o : Opn} {k0 : Nat} (hS : Small k0 t) (hk0 : k0 < 200000) (ha : o.a.length < 1000000) (hd : o.data.length ≤ 1024) (hdo : o.does = 7 ∨ o.does = 8 ∨ o.does = 9) :
  WpR cfg ops dst l T S F Q (some (.enter 51 [.d (.sl (t.map zB)), .d (encOpn o)])) = WpL cfg ops l (putT T dst (.tup [.d (.sl ((wC t o).1.map zB)), .d (zT (wC t o).2)])) S F Q :=
 zX (ds := [.sl (t.map zB), encOpn o]) rfl (zob t k0 hk0 hS o ha hd hdo)
def mayN (o : Opn) : Bool := decide (o.does ≥ 1 ∧ o.does ≤ 13 ∧ o.data.length ≤ 1024)
theorem zx0 (o : Opn) : Ev cfg 45 [encOpn o] (.ret (.d (.bool (mayN o)))) := by
 refine kQ rfl rfl zz9 ?_
 show Wp cfg (Try.f45.body.getD .skip) ((.d (encOpn o)) :: uZ ((.tup []) :: (.tup []) :: (.tup []) :: (.tup []) :: (.tup []) :: (.tup []) :: [])) [] [] _
 unfold uZ
 conv => arg 2; whnf
 by_cases c1 : o.does ≥ 1
 ·by_cases c2 : o.does ≤ 13
  ·by_cases c3 : (o.data.length : Int) ≤ 1024
   ·have e : mayN o = true := decide_eq_true ⟨c1, c2, by omega⟩
    simp (maxSteps:=1000000) (disch:=first|assumption|omega|rfl) only [↓gp, gc, Nat.reduceAdd, lenB]
    rw [e]
    exact zV rfl rfl rfl
   ·have e : mayN o = false := decide_eq_false (fun h => c3 (by omega))
    simp (maxSteps:=1000000) (disch:=first|assumption|omega|rfl) only [↓gp, gc, Nat.reduceAdd, lenB]
    rw [e]
    exact zV rfl rfl rfl
  ·have e : mayN o = false := decide_eq_false (fun h => c2 h.2.1)
   simp (maxSteps:=1000000) (disch:=first|assumption|omega|rfl) only [↓gp, gc, Nat.reduceAdd, lenB]
   rw [e]
   exact zV rfl rfl rfl
 ·have e : mayN o = false := decide_eq_false (fun h => c1 h.1)
  simp (maxSteps:=1000000) (disch:=first|assumption|omega|rfl) only [↓gp, gc, Nat.reduceAdd, lenB]
  rw [e]
  exact zV rfl rfl rfl
theorem z1x {ops : Array Oper} {dst : Option Tmp} {l : List Oper} {T : List V} {S : zA} {F : Dfs} {Q : Post} {o : Opn} :
  WpR cfg ops dst l T S F Q (some (.enter 45 [.d (encOpn o)])) = WpL cfg ops l (putT T dst (.d (.bool (mayN o)))) S F Q :=
 zX (ds := [encOpn o]) rfl (zx0 o)
def newN : List Node := [⟨1, 2, 1, 1, 0, [], []⟩]
theorem q10 : vP Try.prog 91 [(0, .d (.int .i64 1)), (1, .d (.int .i64 2)), (2, .d (.int .i64 1)), (3, .d (.int .i64 1))] = some (.agg [.d (.int .i64 1), .d (.int .i64 2), .d (.int .i64 1), .d (.int .i64 1), .d (.int .i64 0), .ts [], .ts []]) := by kernel_rfl
theorem q1w {S : zA} : bs1 Try.prog S 27 (.agg [.d (.int .i64 1), .d (.int .i64 2), .d (.int .i64 1), .d (.int .i64 1), .d (.int .i64 0), .ts [], .ts []]) = some (.val (.ts (newN.map zB)) S 0) := by kernel_rfl
theorem zxt : Ev cfg 18 [] (.ret (.d (.sl (newN.map zB)))) := by
 refine kQ rfl rfl zv8 ?_
 show Wp cfg (Try.f18.body.getD .skip) ((.tup []) :: (.tup []) :: (.tup []) :: []) [] [] _
 conv => arg 2; whnf
 simp (maxSteps:=1000000) (disch:=first|assumption|omega|rfl) only [↓gp, gc, Nat.reduceAdd, ↓vbs, q10, q1w]
 exact zV rfl rfl rfl
def zm6 (l : List (List UInt8)) : Ans := ⟨0, 0, 0, 0, 0, [], l⟩
def zgb (n : Node) (ino : Int) (o : Opn) : Ans :=
 if o.does = 11 then ⟨0, ino, n.kind, n.links, n.size, [], []⟩
 else if o.does = 12 then okN
 else if n.kind ≠ 2 then qU 6
 else zm6 (n.names.map (·.name))
def z14 (t : List Node) (o : Opn) : Ans := if (zH t o.a).2 ≠ 0 then qU (zH t o.a).2 else zgb (getN t (zH t o.a).1) (zH t o.a).1 o
theorem zr0 {a b c d : Int} : vP Try.prog 52 [(1, .d (.int .i64 a)), (2, .d (.int .i64 b)), (3, .d (.int .i64 c)), (4, .d (.int .i64 d))] = some (.agg [.d (.int .i64 0), .d (.int .i64 a), .d (.int .i64 b), .d (.int .i64 c), .d (.int .i64 d), .ts [], .ts []]) := by kernel_rfl
theorem zx5 {S : zA} {v : V} {e : TypeId} {xs : List V} (h : OwnS S v e xs) : vP Try.prog 52 [(6, v)] = some (.agg [.d (.int .i64 0), .d (.int .i64 0), .d (.int .i64 0), .d (.int .i64 0), .d (.int .i64 0), .ts [], v]) := by
 rcases h with ⟨rfl, _⟩ | ⟨id, rfl, _⟩ <;> kernel_rfl
theorem ztl {S : zA} {v : V} {g : List (List UInt8)} (h : OwnS S v 9 (g.map fun x => .d (.str x))) :
  frz S zO (.agg [.d (.int .i64 0), .d (.int .i64 0), .d (.int .i64 0), .d (.int .i64 0), .d (.int .i64 0), .ts [], v]) = some (zT (zm6 g)) := by
 have h1 : frz S 11 v = some (.sl (g.map .str)) := z82 (n := 9) (z6p h)
 show (match allO (frz S 11) [.d (.int .i64 0), .d (.int .i64 0), .d (.int .i64 0), .d (.int .i64 0), .d (.int .i64 0), .ts [], v] with | some ds => if ds.any D.isAgg then none else some (D.agg ds) | none => none) = _
 have h2 : ∀ x : D, frz S 11 (.d x) = some x := fun _ => rfl
 have h3 : frz S 11 (.ts []) = some (.sl []) := rfl
 simp only [allO, h1, h2, h3]
 rfl
theorem zzg (n : Node) (hn : n.names.length < 400000) (a : V) (R : Post) (g0 g1 g2 g3 g5 g6 : V) : ∀ (k i : Nat) (xs : List (List UInt8)) (S : zA) (v8 gI gJ gF gA gB gG gH gC gD gE gK gL gO gM gN gP gQ gV gR gS gT gU gW gX gY gZ gf gg gh gi gj gk gm gn gr gz hC hH hJ hY hZ xA xB xC xD xE xF xG xH xI xJ : V),
 n.names.length - i = k → i ≤ n.names.length → xs.length = i → OwnS S v8 9 (xs.map fun x => .d (.str x)) → S[2]? = some (.row [.d (zB n)] 91) → S[1]? = some (.row [a] 52) → NotAt v8 2 → NotAt v8 1 →
 (∀ S v8 i' ys gI gJ gF gA gB gG gH gC gD gE gK gL gO gM gN gP gQ gV gR gS gT gU gW gX gY gZ gf gg gh gi gj gk gm gn gr gz hC hH hJ hY hZ xA xB xC xD xE xF xG xH xI xJ, ys = xs ++ (n.names.drop i).map (·.name) → OwnS S v8 9 (ys.map fun x => .d (.str x)) → S[1]? = some (.row [a] 52) → NotAt v8 1 → R (.exit 0) (g0 :: g1 :: g2 :: g3 :: (.ref 1 0 0) :: g5 :: g6 :: (.ref 2 0 0) :: v8 :: i' :: gI :: gJ :: gF :: gA :: gB :: gG :: gH :: gC :: gD :: gE :: gK :: gL :: gO :: gM :: gN :: gP :: gQ :: gV :: gR :: gS :: gT :: gU :: gW :: gX :: gY :: gZ :: gf :: gg :: gh :: gi :: gj :: gk :: gm :: gn :: gr :: gz :: hC :: hH :: hJ :: hY :: hZ :: xA :: xB :: xC :: xD :: xE :: xF :: xG :: xH :: xI :: xJ :: []) S []) →
 Wp cfg (.loop (lpOf (Try.f52.body.getD .skip) 0)) (g0 :: g1 :: g2 :: g3 :: (.ref 1 0 0) :: g5 :: g6 :: (.ref 2 0 0) :: v8 :: (.d (.int .i64 i)) :: gI :: gJ :: gF :: gA :: gB :: gG :: gH :: gC :: gD :: gE :: gK :: gL :: gO :: gM :: gN :: gP :: gQ :: gV :: gR :: gS :: gT :: gU :: gW :: gX :: gY :: gZ :: gf :: gg :: gh :: gi :: gj :: gk :: gm :: gn :: gr :: gz :: hC :: hH :: hJ :: hY :: hZ :: xA :: xB :: xC :: xD :: xE :: xF :: xG :: xH :: xI :: xJ :: []) S [] R := by
 intro k
 induction k with
 | zero =>
  intro i xs S v8 gI gJ gF gA gB gG gH gC gD gE gK gL gO gM gN gP gQ gV gR gS gT gU gW gX gY gZ gf gg gh gi gj gk gm gn gr gz hC hH hJ hY hZ xA xB xC xD xE xF xG xH xI xJ hk hi hxl ho hb hc hna hnc hR
  have hie : i = n.names.length := by omega
  have hr : rowE S 2 0 = some (.d (zB n)) := zE hb
  rw [qK]
  refine zS ?_
  conv => arg 2; whnf
  simp (maxSteps:=1000000) (disch:=first|assumption|omega|rfl) only [↓gp, gc, Nat.reduceAdd, hr]
  exact hR _ _ _ xs _ _ _ _ _ _ _ _ _ _ _ _ _ _ _ _ _ _ _ _ _ _ _ _ _ _ _ _ _ _ _ _ _ _ _ _ _ _ _ _ _ _ _ _ _ _ _ _ _ _ _ (by rw [hie, List.drop_length]; simp) ho hc hnc
 | succ k ih =>
  intro i xs S v8 gI gJ gF gA gB gG gH gC gD gE gK gL gO gM gN gP gQ gV gR gS gT gU gW gX gY gZ gf gg gh gi gj gk gm gn gr gz hC hH hJ hY hZ xA xB xC xD xE xF xG xH xI xJ hk hi hxl ho hb hc hna hnc hR
  have hlt : i < n.names.length := by omega
  have hdr : n.names.drop i = n.names[i] :: n.names.drop (i + 1) := List.drop_eq_getElem_cons hlt
  rw [hdr] at hR
  have hr : rowE S 2 0 = some (.d (zB n)) := zE hb
  obtain ⟨v', S', c, ha, ho', hfr, hlen⟩ := ap42 n.names[i].name ho (by omega)
  obtain ⟨hb', hna'⟩ := hfr _ _ hb hna
  obtain ⟨hc', hnc'⟩ := hfr _ _ hc hnc
  rw [qK]
  refine zS ?_
  conv => arg 2; whnf
  simp (maxSteps:=1000000) (disch:=first|assumption|omega|rfl) only [↓gp, gc, Nat.reduceAdd, hr, ha]
  exact ih (i + 1) (xs ++ [n.names[i].name]) S' v' _ _ _ _ _ _ _ _ _ _ _ _ _ _ _ _ _ _ _ _ _ _ _ _ _ _ _ _ _ _ _ _ _ _ _ _ _ _ _ _ _ _ _ _ _ _ _ _ _ _ _ (by omega) (by omega) (by simp; omega) ho' hb' hc' hna' hnc' (fun S v8 i' ys gI gJ gF gA gB gG gH gC gD gE gK gL gO gM gN gP gQ gV gR gS gT gU gW gX gY gZ gf gg gh gi gj gk gm gn gr gz hC hH hJ hY hZ xA xB xC xD xE xF xG xH xI xJ hy => hR S v8 i' ys gI gJ gF gA gB gG gH gC gD gE gK gL gO gM gN gP gQ gV gR gS gT gU gW gX gY gZ gf gg gh gi gj gk gm gn gr gz hC hH hJ hY hZ xA xB xC xD xE xF xG xH xI xJ (by rw [hy, List.map_cons, List.append_assoc]; rfl))
theorem ztp (t : List Node) (k0 : Nat) (hk0 : k0 < 200000) (hS : Small k0 t) (o : Opn) (ha : o.a.length < 1000000) : Ev cfg 52 [.sl (t.map zB), encOpn o] (.ret (.d (zT (z14 t o)))) := by
 refine kQ rfl rfl zzb ?_
 show Wp cfg (Try.f52.body.getD .skip) ((.d (.sl (t.map zB))) :: (.d (encOpn o)) :: uZ (uZ (uZ (uZ (uZ ((.tup []) :: (.tup []) :: (.tup []) :: (.tup []) :: (.tup []) :: (.tup []) :: (.tup []) :: (.tup []) :: (.tup []) :: [])))))) [] [] _
 unfold uZ
 conv => arg 2; whnf
 have hk1 : k0 < 300000 := by omega
 have hlt : t.length < 400000 := Nat.lt_of_le_of_lt hS.len (by omega)
 have hlt' : t.length < 1000000 := by omega
 simp (maxSteps:=1000000) (disch:=first|assumption|omega|rfl) only [↓gp, gc, Nat.reduceAdd, vJ hS hk1]
 generalize hr : z14 t o = r
 unfold z14 at hr
 generalize zH t o.a = w at hr ⊢
 obtain ⟨ino, e⟩ := w
 simp only at hr
 have hgn : (getN t ino).names.length < 400000 := Nat.lt_of_le_of_lt (hS.gnms _) (by omega)
 by_cases h1 : e = 0
 ·simp (maxSteps:=1000000) (disch:=first|assumption|omega|rfl) only [↓gp, gc, Nat.reduceAdd, jP]
  rw [if_neg (by simp [h1])] at hr
  generalize getN t ino = n at hr hgn ⊢
  unfold zgb at hr
  by_cases d1 : o.does = 11
  ·skip
   simp (maxSteps:=1000000) (disch:=first|assumption|omega|rfl) only [↓gp, gc, Nat.reduceAdd, zr0]
   rw [if_pos d1] at hr
   subst hr
   exact vU rfl (v := .agg [.d (.int .i64 0), .d (.int .i64 ino), .d (.int .i64 n.kind), .d (.int .i64 n.links), .d (.int .i64 n.size), .ts [], .ts []]) (by kernel_rfl) rfl rfl
  ·rw [if_neg d1] at hr
   by_cases d2 : o.does = 12
   ·skip
    simp (maxSteps:=1000000) (disch:=first|assumption|omega|rfl) only [↓gp, gc, Nat.reduceAdd, z22]
    rw [if_pos d2] at hr
    subst hr
    exact vU rfl (v := .agg [.d (.int .i64 0), .d (.int .i64 0), .d (.int .i64 0), .d (.int .i64 0), .d (.int .i64 0), .ts [], .ts []]) (by kernel_rfl) rfl rfl
   ·rw [if_neg d2] at hr
    by_cases k2 : n.kind = 2
    ·rw [if_neg (by simp [k2])] at hr
     simp (maxSteps:=1000000) (disch:=first|assumption|omega|rfl) only [↓gp, gc, Nat.reduceAdd]
     refine zzg n hgn _ _ _ _ _ _ _ _ n.names.length 0 [] _ _ _ _ _ _ _ _ _ _ _ _ _ _ _ _ _ _ _ _ _ _ _ _ _ _ _ _ _ _ _ _ _ _ _ _ _ _ _ _ _ _ _ _ _ _ _ _ _ _ _ _ _ rfl (by omega) rfl OwnS.nil rfl rfl NotAt.ts NotAt.ts ?_
     intro S v8 i' ys gI gJ gF gA gB gG gH gC gD gE gK gL gO gM gN gP gQ gV gR gS gT gU gW gX gY gZ gf gg gh gi gj gk gm gn gr gz hC hH hJ hY hZ xA xB xC xD xE xF xG xH xI xJ hy ho hc hnc
     have hr1 : rowE S 1 0 = some _ := zE hc
     have hpr := fun y => qD (y := y) hc
     have hbd := zx5 ho
     simp (maxSteps:=1000000) (disch:=first|assumption|omega|rfl) only [↓gp, gc, Nat.reduceAdd, hr1, hbd, hpr]
     rw [List.nil_append, List.drop_zero] at hy
     have ho2 := fun y => vC (o := .row [y] 52) ho hnc
     subst hr
     rw [← hy]
     have hld : jV Try.prog (S.set 1 (.row [(.agg [.d (.int .i64 0), .d (.int .i64 0), .d (.int .i64 0), .d (.int .i64 0), .d (.int .i64 0), .ts [], v8])] 52)) 52 (.ref 1 0 0) = some (.agg [.d (.int .i64 0), .d (.int .i64 0), .d (.int .i64 0), .d (.int .i64 0), .d (.int .i64 0), .ts [], v8]) := by rw [jS (zE (jR hc))]; kernel_rfl
     exact vU rfl hld rfl (ztl (ho2 _))
    ·skip
     simp (maxSteps:=1000000) (disch:=first|assumption|omega|rfl) only [↓gp, gc, Nat.reduceAdd, qP]
     rw [if_pos k2] at hr
     subst hr
     exact vU rfl (v := .d (zT (qU 6))) (by kernel_rfl) rfl rfl
 ·skip
  simp (maxSteps:=1000000) (disch:=first|assumption|omega|rfl) only [↓gp, gc, Nat.reduceAdd, qP]
  rw [if_pos h1] at hr
  subst hr
  exact vU rfl (v := .d (zT (qU e))) (by kernel_rfl) rfl rfl
theorem zkt {ops : Array Oper} {dst : Option Tmp} {l : List Oper} {T : List V} {S : zA} {F : Dfs} {Q : Post} {t : List Node} {o : Opn} {k0 : Nat} (hS : Small k0 t) (hk0 : k0 < 200000) (ha : o.a.length < 1000000) :
  WpR cfg ops dst l T S F Q (some (.enter 52 [.d (.sl (t.map zB)), .d (encOpn o)])) = WpL cfg ops l (putT T dst (.d (zT (z14 t o)))) S F Q :=
 zX (ds := [.sl (t.map zB), encOpn o]) rfl (ztp t k0 hk0 hS o ha)
def qR (t : List Node) (o : Opn) : List Node × Ans :=
 if mayN o = false then (t, qU 1)
 else if o.does < 3 then z0h t o
 else if o.does = 3 then vR t o
 else if o.does < 6 then kU t o
 else if o.does = 6 then kT t o
 else if o.does < 10 then wC t o
 else if o.does < 13 then (t, z14 t o)
 else (t, okN)
theorem zt0 (t : List Node) (k0 : Nat) (hk0 : k0 < 190000) (hS : Small k0 t) (o : Opn) (ha : o.a.length < 1000000) (hb : o.b.length < 1000000) : Ev cfg 21 [.sl (t.map zB), encOpn o] (.ret (.tup [.d (.sl ((qR t o).1.map zB)), .d (zT (qR t o).2)])) := by
 refine kQ rfl rfl zvb ?_
 show Wp cfg (Try.f21.body.getD .skip) ((.d (.sl (t.map zB))) :: (.d (encOpn o)) :: uZ (uZ (uZ (uZ (uZ ((.tup []) :: (.tup []) :: (.tup []) :: (.tup []) :: (.tup []) :: (.tup []) :: (.tup []) :: (.tup []) :: [])))))) [] [] _
 unfold uZ
 conv => arg 2; whnf
 have hk1 : k0 < 200000 := by omega
 generalize hr : qR t o = r
 unfold qR at hr
 cases hm : mayN o with
 | false =>
  simp (maxSteps:=1000000) (disch:=first|assumption|omega|rfl) only [↓gp, gc, Nat.reduceAdd, z1x, hm, qP, z0g, Bool.not_false]
  rw [if_pos hm] at hr
  subst hr
  exact qJ rfl rfl (x := .d (zT (qU 1))) (by kernel_rfl) rfl rfl rfl rfl
 | true =>
  rw [if_neg (by rw [hm]; exact Bool.noConfusion)] at hr
  have hm2 := of_decide_eq_true hm
  have hd : o.data.length ≤ 1024 := hm2.2.2
  by_cases d1 : o.does < 3
  ·simp (maxSteps:=1000000) (disch:=first|assumption|omega|rfl) only [↓gp, gc, Nat.reduceAdd, z1x, hm, z0g, Bool.not_true, zkz hS hk1]
   rw [if_pos d1] at hr
   subst hr
   exact qJ rfl rfl (x := .d (zT (z0h t o).2)) (by kernel_rfl) rfl rfl rfl rfl
  ·rw [if_neg d1] at hr
   by_cases d2 : o.does = 3
   ·simp (maxSteps:=1000000) (disch:=first|assumption|omega|rfl) only [↓gp, gc, Nat.reduceAdd, z1x, hm, z0g, Bool.not_true, zkb hS hk1]
    rw [if_pos d2] at hr
    subst hr
    exact qJ rfl rfl (x := .d (zT (vR t o).2)) (by kernel_rfl) rfl rfl rfl rfl
   ·rw [if_neg d2] at hr
    by_cases d3 : o.does < 6
    ·simp (maxSteps:=1000000) (disch:=first|assumption|omega|rfl) only [↓gp, gc, Nat.reduceAdd, z1x, hm, z0g, Bool.not_true, zgh hS hk1]
     rw [if_pos d3] at hr
     subst hr
     exact qJ rfl rfl (x := .d (zT (kU t o).2)) (by kernel_rfl) rfl rfl rfl rfl
    ·rw [if_neg d3] at hr
     by_cases d4 : o.does = 6
     ·simp (maxSteps:=1000000) (disch:=first|assumption|omega|rfl) only [↓gp, gc, Nat.reduceAdd, z1x, hm, z0g, Bool.not_true, zgi hS hk1]
      rw [if_pos d4] at hr
      subst hr
      exact qJ rfl rfl (x := .d (zT (kT t o).2)) (by kernel_rfl) rfl rfl rfl rfl
     ·rw [if_neg d4] at hr
      by_cases d5 : o.does < 10
      ·have h789 : o.does = 7 ∨ o.does = 8 ∨ o.does = 9 := by omega
       simp (maxSteps:=1000000) (disch:=first|assumption|omega|rfl) only [↓gp, gc, Nat.reduceAdd, z1x, hm, z0g, Bool.not_true, zhy hS hk1]
       rw [if_pos d5] at hr
       subst hr
       exact qJ rfl rfl (x := .d (zT (wC t o).2)) (by kernel_rfl) rfl rfl rfl rfl
      ·rw [if_neg d5] at hr
       by_cases d6 : o.does < 13
       ·simp (maxSteps:=1000000) (disch:=first|assumption|omega|rfl) only [↓gp, gc, Nat.reduceAdd, z1x, hm, z0g, Bool.not_true, zkt hS hk1]
        rw [if_pos d6] at hr
        subst hr
        exact qJ rfl rfl (x := .d (zT (z14 t o))) (by kernel_rfl) rfl rfl rfl rfl
       ·rw [if_neg d6] at hr
        simp (maxSteps:=1000000) (disch:=first|assumption|omega|rfl) only [↓gp, gc, Nat.reduceAdd, z1x, hm, z0g, Bool.not_true, z22]
        subst hr
        exact qJ rfl rfl (x := .agg [.d (.int .i64 0), .d (.int .i64 0), .d (.int .i64 0), .d (.int .i64 0), .d (.int .i64 0), .ts [], .ts []]) (by kernel_rfl) rfl rfl rfl rfl
theorem Small.make {k : Nat} {t : List Node} {o : Opn} (h : Small k t) : Small (k + 5) (z0h t o).1 := by
 unfold z0h
 split
 ·exact h.mono (by omega)
 ·split
  ·exact h.mono (by omega)
  ·have hmk : SmallN (k + 1) (qA t o) := by unfold qA; split <;> exact ⟨Nat.zero_le _, fun e he => by simp at he, ⟨by simp; omega, by simp; omega⟩, by simp⟩
   exact ((h.with hmk).put (by have := z1l t o.a; omega)).mono (by omega)
theorem SmallN.more {k : Nat} {n : Node} (h : SmallN k n) : SmallN (k + 1) (more n) :=
 ⟨Nat.le_succ_of_le h.nms, h.nam, ⟨by have := h.lnk.1; show -((k + 1 : Nat) : Int) ≤ n.links + 1; omega, by have := h.lnk.2; show n.links + 1 ≤ ((k + 1 : Nat) : Int); omega⟩, h.siz⟩
theorem Small.link {k : Nat} {t : List Node} {o : Opn} (h : Small k t) : Small (k + 5) (vR t o).1 := by
 unfold vR
 split
 ·exact h.mono (by omega)
 ·split
  ·exact h.mono (by omega)
  ·split
   ·exact h.mono (by omega)
   ·split
    ·exact h.mono (by omega)
    ·exact ((h.with (h.get _).more).put (by have := z1l t o.b; omega)).mono (by omega)
theorem Small.remove {k : Nat} {t : List Node} {o : Opn} (h : Small k t) : Small (k + 5) (kU t o).1 := by
 unfold kU
 repeat' split
 all_goals first | exact h.mono (by omega) | exact (h.drop.loses).mono (by omega)
theorem SmallN.moved {k : Nat} {n : Node} {p : Int} (h : SmallN k n) : SmallN k (moved n p) := ⟨h.nms, h.nam, h.lnk, h.siz⟩
theorem Small.rename {k : Nat} {t : List Node} {o : Opn} (h : Small k t) : Small (k + 5) (kT t o).1 := by
 unfold kT
 split
 ·exact h.mono (by omega)
 ·split
  ·exact h.mono (by omega)
  ·split
   ·exact h.mono (by omega)
   ·unfold z39
    split
    ·exact h.mono (by omega)
    ·split
     ·exact h.mono (by omega)
     ·split
      ·exact h.mono (by omega)
      ·split
       ·exact h.mono (by omega)
       ·unfold renamed
        have hln := z1l t o.b
        generalize zK t o.a = w1 at *
        generalize zK t o.b = w2 at *
        have h1 : Small (k + 2) (if 0 ≤ qQ (getN t w2.1).names w2.2.1 then jN (zU t w2.1 w2.2.1) (qQ (getN t w2.1).names w2.2.1) else t) := by
         split
         ·exact h.drop.loses
         ·exact h.mono (by omega)
        have h2 := (h1.drop (dir := w1.1) (s := w1.2.1)).put (dir := w2.1) (s := w2.2.1) (ino := qQ (getN t w1.1).names w1.2.1) (by omega)
        simp only
        split
        ·exact h2.with ((h2.get _).moved.mono (by omega))
        ·exact h2.mono (by omega)
theorem Small.bytes {k : Nat} {t : List Node} {o : Opn} (h : Small k t) (hd : o.data.length ≤ 1024) : Small (k + 5) (wC t o).1 := by
 unfold wC
 split
 ·exact h.mono (by omega)
 ·have hg := (h.get (zH t o.a).1).mono (Nat.le_succ k)
  generalize getN t (zH t o.a).1 = n at hg ⊢
  unfold z47
  split
  ·exact h.mono (by omega)
  ·split
   ·split
    ·exact h.mono (by omega)
    ·split
     ·exact h.mono (by omega)
     ·split
      ·exact h.mono (by omega)
      ·rename_i c1 c2 c3
       have hs := hg.siz
       have hw : 0 ≤ z71 n o ∧ z71 n o ≤ 34304 := by unfold z71; split <;> omega
       refine (h.with (n := z42 n o) ⟨hg.nms, hg.nam, hg.lnk, hw.1, hw.2, ?_⟩).mono (by omega)
       show ((layN (layN (List.replicate (z71 n o).toNat 0) 0 n.data) o.off o.data).length : Int) = z71 n o
       rw [z30, z30, List.length_replicate]
       omega
   ·split
    ·split
     ·exact h.mono (by omega)
     ·split <;> exact h.mono (by omega)
    ·split
     ·exact h.mono (by omega)
     ·split
      ·exact h.mono (by omega)
      ·rename_i c1 c2
       refine (h.with (n := cutN n o.n) ⟨hg.nms, hg.nam, hg.lnk, by show 0 ≤ o.n; omega, by show o.n ≤ 34304; omega, ?_⟩).mono (by omega)
       show ((layN (List.replicate o.n.toNat 0) 0 n.data).length : Int) = o.n
       rw [z30, List.length_replicate]
       omega
theorem Small.step {k : Nat} {t : List Node} {o : Opn} (h : Small k t) : Small (k + 5) (qR t o).1 := by
 unfold qR
 split
 ·exact h.mono (by omega)
 ·rename_i hm
  have hd : o.data.length ≤ 1024 := by
   cases hm' : mayN o with
   | false => exact absurd hm' hm
   | true => exact (of_decide_eq_true hm').2.2
  repeat' split
  ·exact h.make
  ·exact h.link
  ·exact h.remove
  ·exact h.rename
  ·exact h.bytes hd
  ·exact h.mono (by omega)
  ·exact h.mono (by omega)
theorem Small.new : Small 1 newN := ⟨by simp [newN], fun n hn => by simp [newN] at hn; subst hn; simp, fun n hn => by simp [newN] at hn; subst hn; simp, fun n hn => by simp [newN] at hn; subst hn; simp, fun n hn => by simp [newN] at hn; subst hn; simp⟩
def zjp (l : List Opn) : List Node := l.foldl (fun t o => (qR t o).1) newN
structure Script (l : List Opn) : Prop where
 len : l.length ≤ 1000
 a : ∀ o ∈ l, o.a.length ≤ 300
 b : ∀ o ∈ l, o.b.length ≤ 300
 data : ∀ o ∈ l, o.data.length ≤ 1100
theorem z0f {S S' : zA} {v : V} {e : TypeId} {xs : List V} (h : OwnS S v e xs) (hk : ∀ (j : Nat) (o : Ob), S[j]? = some o → S'[j]? = some o) : OwnS S' v e xs := by
 rcases h with h | ⟨j, rfl, h1⟩
 ·exact .inl h
 ·exact .inr ⟨j, rfl, hk _ _ h1⟩
theorem zqe {S : zA} {v : V} {e : TypeId} {xs : List V} {j : Nat} (h : OwnS S v e xs) (hn : ∀ o, S[j]? = some o → ∀ xs e, o ≠ .row xs e) : NotAt v j := by
 rcases h with ⟨rfl, _⟩ | ⟨i, rfl, h1⟩
 ·exact NotAt.ts
 ·intro off l hh
  cases hh
  exact hn _ h1 _ _ rfl
def badO (o : Opn) : Bool := decide ((o.a.length : Int) > 300 ∨ (o.b.length : Int) > 300 ∨ (o.data.length : Int) > 1100)
theorem zu7 (l : List Opn) (hl : l.length < 1000000) (R : Post) (S : zA) (g1 g4 : V) : ∀ (k i : Nat) (g6 g7 g8 g9 gI gJ gF gA gB gG gH gC gD gE gK gL gO gM gN gP gQ gV gR gS gT gU gW gX gY gZ gf gg gh gi gj : V), l.length - i = k → i ≤ l.length →
 (∀ i' g6 g7 g8 g9 gI gJ gF gA gB gG gH gC gD gE gK gL gO gM gN gP gQ gV gR gS gT gU gW gX gY gZ gf gg gh gi gj, (l.drop i).any badO = false → R (.exit 0) ((.d (.sl (l.map encOpn))) :: g1 :: (.tup []) :: (.tup []) :: g4 :: i' :: g6 :: g7 :: g8 :: g9 :: gI :: gJ :: gF :: gA :: gB :: gG :: gH :: gC :: gD :: gE :: gK :: gL :: gO :: gM :: gN :: gP :: gQ :: gV :: gR :: gS :: gT :: gU :: gW :: gX :: gY :: gZ :: gf :: gg :: gh :: gi :: gj :: []) S []) →
 (∀ i' g6 g7 g8 g9 gI gJ gF gA gB gG gH gC gD gE gK gL gO gM gN gP gQ gV gR gS gT gU gW gX gY gZ gf gg gh gi gj, (l.drop i).any badO = true → R .ret ((.d (.sl (l.map encOpn))) :: g1 :: (.tup []) :: (.tup []) :: (.d (.bool true)) :: i' :: g6 :: g7 :: g8 :: g9 :: gI :: gJ :: gF :: gA :: gB :: gG :: gH :: gC :: gD :: gE :: gK :: gL :: gO :: gM :: gN :: gP :: gQ :: gV :: gR :: gS :: gT :: gU :: gW :: gX :: gY :: gZ :: gf :: gg :: gh :: gi :: gj :: []) S []) →
 Wp cfg (.loop (lpOf (Try.f10.body.getD .skip) 0)) ((.d (.sl (l.map encOpn))) :: g1 :: (.tup []) :: (.tup []) :: g4 :: (.d (.int .i64 i)) :: g6 :: g7 :: g8 :: g9 :: gI :: gJ :: gF :: gA :: gB :: gG :: gH :: gC :: gD :: gE :: gK :: gL :: gO :: gM :: gN :: gP :: gQ :: gV :: gR :: gS :: gT :: gU :: gW :: gX :: gY :: gZ :: gf :: gg :: gh :: gi :: gj :: []) S [] R := by
 intro k
 induction k with
 | zero =>
  intro i g6 g7 g8 g9 gI gJ gF gA gB gG gH gC gD gE gK gL gO gM gN gP gQ gV gR gS gT gU gW gX gY gZ gf gg gh gi gj hk hi hE hR
  have hie : i = l.length := by omega
  rw [qK]
  refine zS ?_
  conv => arg 2; whnf
  simp (maxSteps:=1000000) (disch:=first|assumption|omega|rfl) only [↓gp, gc, Nat.reduceAdd]
  exact hE _ _ _ _ _ _ _ _ _ _ _ _ _ _ _ _ _ _ _ _ _ _ _ _ _ _ _ _ _ _ _ _ _ _ _ _ (by rw [hie, List.drop_length]; rfl)
 | succ k ih =>
  intro i g6 g7 g8 g9 gI gJ gF gA gB gG gH gC gD gE gK gL gO gM gN gP gQ gV gR gS gT gU gW gX gY gZ gf gg gh gi gj hk hi hE hR
  have hlt : i < l.length := by omega
  have hdr : l.drop i = l[i] :: l.drop (i + 1) := List.drop_eq_getElem_cons hlt
  rw [hdr, List.any_cons] at hE hR
  rw [qK]
  refine zS ?_
  conv => arg 2; whnf
  by_cases c1 : (l[i].a.length : Int) > 300
  ·skip
   have hb : badO l[i] = true := decide_eq_true (.inl c1)
   simp (maxSteps:=1000000) (disch:=first|assumption|omega|rfl) only [↓gp, gc, Nat.reduceAdd, ldB, lenB]
   exact hR _ _ _ _ _ _ _ _ _ _ _ _ _ _ _ _ _ _ _ _ _ _ _ _ _ _ _ _ _ _ _ _ _ _ _ _ (by rw [hb]; rfl)
  ·by_cases c2 : (l[i].b.length : Int) > 300
   ·have hb : badO l[i] = true := decide_eq_true (.inr (.inl c2))
    simp (maxSteps:=1000000) (disch:=first|assumption|omega|rfl) only [↓gp, gc, Nat.reduceAdd, ldB, lenB]
    exact hR _ _ _ _ _ _ _ _ _ _ _ _ _ _ _ _ _ _ _ _ _ _ _ _ _ _ _ _ _ _ _ _ _ _ _ _ (by rw [hb]; rfl)
   ·by_cases c3 : (l[i].data.length : Int) > 1100
    ·have hb : badO l[i] = true := decide_eq_true (.inr (.inr c3))
     simp (maxSteps:=1000000) (disch:=first|assumption|omega|rfl) only [↓gp, gc, Nat.reduceAdd, ldB, lenB]
     exact hR _ _ _ _ _ _ _ _ _ _ _ _ _ _ _ _ _ _ _ _ _ _ _ _ _ _ _ _ _ _ _ _ _ _ _ _ (by rw [hb]; rfl)
    ·have hb : badO l[i] = false := decide_eq_false (by omega)
     rw [hb, Bool.false_or] at hE hR
     simp (maxSteps:=1000000) (disch:=first|assumption|omega|rfl) only [↓gp, gc, Nat.reduceAdd, ldB, lenB]
     exact ih (i + 1) _ _ _ _ _ _ _ _ _ _ _ _ _ _ _ _ _ _ _ _ _ _ _ _ _ _ _ _ _ _ _ _ _ _ _ (by omega) (by omega) hE hR
def zfr (l : List Opn) (m : Int) : Bool := decide ((l.length : Int) > m) || l.any badO
theorem zsd (l : List Opn) (m : Int) (hm : m ≤ 1000) : Ev cfg 10 [.sl (l.map encOpn), .int .i64 m] (.ret (.d (.bool (zfr l m)))) := by
 refine kQ rfl rfl zxn ?_
 show Wp cfg (Try.f10.body.getD .skip) ((.d (.sl (l.map encOpn))) :: (.d (.int .i64 m)) :: uZ (uZ (uZ ((.tup []) :: (.tup []) :: (.tup []) :: (.tup []) :: (.tup []) :: (.tup []) :: (.tup []) :: (.tup []) :: (.tup []) :: [])))) [] [] _
 unfold uZ
 conv => arg 2; whnf
 unfold zfr
 by_cases c : (l.length : Int) > m
 ·skip
  simp (maxSteps:=1000000) (disch:=first|assumption|omega|rfl) only [↓gp, gc, Nat.reduceAdd]
  exact zV rfl rfl rfl
 ·rw [decide_eq_false c, Bool.false_or]
  have hl : l.length < 1000000 := by omega
  simp (maxSteps:=1000000) (disch:=first|assumption|omega|rfl) only [↓gp, gc, Nat.reduceAdd]
  refine zu7 l hl _ _ _ _ l.length 0 _ _ _ _ _ _ _ _ _ _ _ _ _ _ _ _ _ _ _ _ _ _ _ _ _ _ _ _ _ _ _ _ _ _ _ rfl (by omega) ?_ ?_
  ·intro i' g6 g7 g8 g9 gI gJ gF gA gB gG gH gC gD gE gK gL gO gM gN gP gQ gV gR gS gT gU gW gX gY gZ gf gg gh gi gj h
   rw [List.drop_zero] at h
   simp (maxSteps:=1000000) (disch:=first|assumption|omega|rfl) only [↓gp, gc, Nat.reduceAdd]
   rw [h]
   exact zV rfl rfl rfl
  ·intro i' g6 g7 g8 g9 gI gJ gF gA gB gG gH gC gD gE gK gL gO gM gN gP gQ gV gR gS gT gU gW gX gY gZ gf gg gh gi gj h
   rw [List.drop_zero] at h
   simp (maxSteps:=1000000) (disch:=first|assumption|omega|rfl) only [↓gp, gc, Nat.reduceAdd]
   rw [h]
   exact zV rfl rfl rfl
theorem zcp {S : zA} {T : List V} {dst : Option Tmp} {ty : TypeId} {pos : String} {after : Array Edge} {g : Option (Nat × Bool)} : opV Try.prog S T ⟨dst, .buildSlice 29 0 #[], ty, pos, after, g⟩ = some (.val (.ts []) S 0) := by kernel_rfl
theorem zpe {S : zA} {T : List V} {dst : Option Tmp} {ty : TypeId} {pos : String} {after : Array Edge} {g : Option (Nat × Bool)} : opV Try.prog S T ⟨dst, .buildSlice 30 0 #[], ty, pos, after, g⟩ = some (.val (.ts []) S 0) := by kernel_rfl
theorem apB {S : zA} {l : List UInt8} (h : l.length ≤ 1000000) : ∃ v' S' c, qF Try.prog S 29 29 (.ts []) (.d (encB l)) = some (v', S', c) ∧ OwnS S' v' 5 (l.map fun b => .d (.int .u8 b.toNat)) ∧ (∀ j o, S[j]? = some o → S'[j]? = some o ∧ NotAt v' j) ∧ S.length ≤ S'.length := by
 obtain ⟨v', S', c, h1, h2, h3, h4⟩ := zao (S := S) (xs := l.map fun b => D.int .u8 b.toNat) Try.underlying29 zuk zr3 (by simp only [List.mem_map]; rintro x ⟨b, _, rfl⟩; exact zo2 _) (by rw [List.length_map]; exact zd5 h)
 exact ⟨v', S', c, h1, by simpa [List.map_map, Function.comp_def] using h2, h3, h4⟩
theorem apE {S : zA} {l : List Ent} (h : l.length ≤ 1000000) : ∃ v' S' c, qF Try.prog S 30 30 (.ts []) (.d (.sl (l.map zI))) = some (v', S', c) ∧ OwnS S' v' 88 (l.map fun b => .d (zI b)) ∧ (∀ j o, S[j]? = some o → S'[j]? = some o ∧ NotAt v' j) ∧ S.length ≤ S'.length := by
 obtain ⟨v', S', c, h1, h2, h3, h4⟩ := zao (S := S) (xs := l.map zI) Try.underlying30 ztu zww (by simp only [List.mem_map]; rintro x ⟨b, _, rfl⟩; exact zgo _) (by rw [List.length_map]; exact zpo h)
 exact ⟨v', S', c, h1, by simpa [List.map_map, Function.comp_def] using h2, h3, h4⟩
def zD (n : Node) (v1 v2 : V) : V := .agg [.d (.int .i64 n.ino), .d (.int .i64 n.kind), .d (.int .i64 n.links), .d (.int .i64 n.parent), .d (.int .i64 n.size), v1, v2]
theorem zcv {k : Nat} {S : zA} {n : Node} {v1 v2 : V} (h1 : OwnS S v1 5 (n.data.map fun b => .d (.int .u8 b.toNat))) (h2 : OwnS S v2 88 (n.names.map fun x => .d (zI x))) :
  frz S (k + 3) (zD n v1 v2) = some (zB n) := by
 have e1 : frz S (k + 2) v1 = some (encB n.data) := z82 (n := k) (z6p (enc := fun b : UInt8 => D.int .u8 b.toNat) h1)
 have e2 : frz S (k + 2) v2 = some (.sl (n.names.map zI)) := z82 (n := k) (z6p h2)
 show (match allO (frz S (k + 2)) [.d (.int .i64 n.ino), .d (.int .i64 n.kind), .d (.int .i64 n.links), .d (.int .i64 n.parent), .d (.int .i64 n.size), v1, v2] with | some ds => if ds.any D.isAgg then none else some (D.agg ds) | none => none) = _
 have h2 : ∀ x : D, frz S (k + 2) (.d x) = some x := fun _ => rfl
 simp only [allO, e1, e2, h2]
 rfl
def hasN (t : List Node) (ino : Int) : Bool := (t.find? (fun n => decide (n.ino = ino))).isSome
def Sep (w v : V) : Prop := ∀ j off l, v = .rs j off l → NotAt w j
def Frame (S : zA) (w : V) (S' : zA) (w' : V) : Prop := ∀ (j : Nat) (o : Ob), S[j]? = some o → NotAt w j → S'[j]? = some o ∧ NotAt w' j
theorem z63 {S S' : zA} {w w' v : V} {e : TypeId} {xs : List V} (h : OwnS S v e xs) (hs : Sep w v) (hf : Frame S w S' w') : OwnS S' v e xs ∧ Sep w' v := by
 rcases h with ⟨rfl, rfl⟩ | ⟨i, rfl, h1⟩
 ·exact ⟨.inl ⟨rfl, rfl⟩, fun j off l hv => by cases hv⟩
 ·obtain ⟨h2, h3⟩ := hf i _ h1 (hs i _ _ rfl)
  exact ⟨.inr ⟨i, rfl, h2⟩, fun j off l hv => by cases hv; exact h3⟩
def NodeV (S : zA) (w : V) (n : Node) (u : V) : Prop := u = .d (zB n) ∨ ∃ v1 v2, u = zD n v1 v2 ∧ OwnS S v1 5 (n.data.map fun b => .d (.int .u8 b.toNat)) ∧ OwnS S v2 88 (n.names.map fun x => .d (zI x)) ∧ Sep w v1 ∧ Sep w v2
theorem NodeV.keep {S S' : zA} {w : V} {n : Node} {u : V} (h : NodeV S w n u) (hk : ∀ (j : Nat) (o : Ob), S[j]? = some o → S'[j]? = some o) : NodeV S' w n u := by
 rcases h with h | ⟨v1, v2, h0, h1, h2, h3, h4⟩
 ·exact .inl h
 ·exact .inr ⟨v1, v2, h0, z0f h1 hk, z0f h2 hk, h3, h4⟩
theorem NodeV.frame {S S' : zA} {w w' : V} {n : Node} {u : V} (h : NodeV S w n u) (hf : Frame S w S' w') : NodeV S' w' n u := by
 rcases h with h | ⟨v1, v2, h0, h1, h2, h3, h4⟩
 ·exact .inl h
 ·exact .inr ⟨v1, v2, h0, (z63 h1 h3 hf).1, (z63 h2 h4 hf).1, (z63 h1 h3 hf).2, (z63 h2 h4 hf).2⟩
theorem NodeV.frz {S : zA} {w : V} {n : Node} {u : V} (h : NodeV S w n u) : frz S 11 u = some (zB n) := by
 rcases h with rfl | ⟨v1, v2, rfl, h1, h2, _, _⟩
 ·rfl
 ·exact zcv (k := 8) h1 h2
def AllN (S : zA) (w : V) : List Node → List V → Prop
 | [], [] => True
 | n :: ns, u :: us => NodeV S w n u ∧ AllN S w ns us
 | _, _ => False
theorem AllN.keep {S S' : zA} {w : V} (hk : ∀ (j : Nat) (o : Ob), S[j]? = some o → S'[j]? = some o) : ∀ {ns : List Node} {us : List V}, AllN S w ns us → AllN S' w ns us
 | [], [], _ => trivial
 | n :: ns, u :: us, h => ⟨h.1.keep hk, AllN.keep hk h.2⟩
theorem AllN.frame {S S' : zA} {w w' : V} (hf : Frame S w S' w') : ∀ {ns : List Node} {us : List V}, AllN S w ns us → AllN S' w' ns us
 | [], [], _ => trivial
 | n :: ns, u :: us, h => ⟨h.1.frame hf, AllN.frame hf h.2⟩
theorem AllN.snoc {S : zA} {w : V} {n : Node} {u : V} (hn : NodeV S w n u) : ∀ {ns : List Node} {us : List V}, AllN S w ns us → AllN S w (ns ++ [n]) (us ++ [u])
 | [], [], _ => ⟨hn, trivial⟩
 | m :: ns, v :: us, h => ⟨h.1, AllN.snoc hn h.2⟩
theorem AllN.len {S : zA} {w : V} : ∀ {ns : List Node} {us : List V}, AllN S w ns us → us.length = ns.length
 | [], [], _ => rfl
 | m :: ns, v :: us, h => by simp [AllN.len h.2]
theorem AllN.frz {S : zA} {w : V} : ∀ {ns : List Node} {us : List V}, AllN S w ns us → allO (frz S 11) us = some (ns.map zB)
 | [], [], _ => rfl
 | m :: ns, v :: us, h => by simp only [allO, h.1.frz, AllN.frz h.2, List.map_cons]
theorem zn5 {S : zA} {v : V} {e : TypeId} {us : List V} {ds : List D} (h : OwnS S v e us) (ha : allO (frz S 11) us = some ds) : frz S zO v = some (.sl ds) := by
 rcases h with ⟨rfl, rfl⟩ | ⟨id, rfl, h1⟩
 ·simp only [allO, Option.some.injEq] at ha
  subst ha; rfl
 ·show (match S[id]? with
   | some (.row xs e) => if 0 + us.length ≤ xs.length && (allO (Go.Vm.frz S 11) xs).isSome then (allO (Go.Vm.frz S 11) ((xs.drop 0).take us.length)).map D.sl else none
   | some (.fz xs e) => if 0 + us.length ≤ xs.length then some (D.sl ((xs.drop 0).take us.length)) else none
   | _ => none) = _
  have h2 : (us.drop 0).take us.length = us := by rw [List.drop_zero, List.take_of_length_le (Nat.le_refl _)]
  simp only [h1, h2, ha, Option.isSome_some, Bool.and_true, Option.map_some]
  simp
theorem zix {P : Program} {S : zA} {t e : TypeId} {v w u : V} {xs : List V} (hu : P.underlying t = some (.slice e)) (hz : zOk P e = true) (hsrc : srcV P S e t w = some [u]) (ho : OwnS S v e xs) (hr : room P e (xs.length + 1) = true) :
  ∃ v' S' c, qF P S t t v w = some (v', S', c) ∧ OwnS S' v' e (xs ++ [u]) ∧ Frame S v S' v' := by
 rcases ho with ⟨rfl, rfl⟩ | ⟨id, rfl, h1⟩
 ·refine ⟨.rs S.length 0 1, S ++ [.row [u] e], 2, ?_, .inr ⟨S.length, rfl, by simp⟩, fun j o hj _ => ⟨?_, ?_⟩⟩
  ·simp only [qF, hu, hsrc, hz, if_true]
   have hr1 : room P e 1 = true := by simpa using hr
   simp [hr1]
  ·rw [List.getElem?_append_left (qN hj)]; exact hj
  ·intro off l h
   have := qN hj
   cases h; omega
 ·refine ⟨.rs S.length 0 (xs.length + 1), S.set id .dead ++ [.row (xs ++ [u]) e], 3, ?_, .inr ⟨S.length, by simp, by simp⟩, fun j o hj hn => ⟨?_, ?_⟩⟩
  ·simp only [qF, hu, hsrc, hz, if_true, h1]
   simp [hr]
  ·have hj' := qN hj
   rw [List.getElem?_append_left (by simpa using hj'), List.getElem?_set_ne]
   ·exact hj
   ·rintro rfl; exact hn 0 _ rfl
  ·intro off l h
   have := qN hj
   cases h; omega
theorem zts {S : zA} {a b c d e : Int} : bs1 Try.prog S 25 (.agg [.d (.int .i64 a), .d (.int .i64 b), .d (.int .i64 c), .d (.int .i64 d), .d (.int .i64 e), .ts [], .ts []]) = some (.val (.ts [.agg [.int .i64 a, .int .i64 b, .int .i64 c, .int .i64 d, .int .i64 e, .sl [], .sl []]]) S 0) := by kernel_rfl
end Go.Proofs.Ytghllhghboaagaa
end
section
namespace Go.Vm
theorem zn9 (s : List UInt8) (i : Nat) : (⟨s.toArray⟩ : ByteArray).get! i = s.getD i 0 := by
 show s.toArray[i]! = _
 simp [List.getD_eq_getElem?_getD, List.getElem!_eq_getElem?_getD]
 rfl
theorem zgy (s : List UInt8) (pos : Nat) (h : pos < s.length) : 1 ≤ (Utf8.decode ⟨s.toArray⟩ pos).2 ∧ pos + (Utf8.decode ⟨s.toArray⟩ pos).2 ≤ s.length ∧ (s[pos] = 47 → Utf8.decode ⟨s.toArray⟩ pos = (47, 1)) ∧ (s[pos] ≠ 47 → (Utf8.decode ⟨s.toArray⟩ pos).1 ≠ 47) ∧ ∀ k, pos < k → k < pos + (Utf8.decode ⟨s.toArray⟩ pos).2 → s.getD k 0 ≠ 47 := by
 have h0 : (s.getD (pos + 0) 0) = s[pos] := by simp [List.getD_eq_getElem?_getD, h]
 have e47 : s[pos] = 47 ↔ s[pos].toNat = 47 := ⟨fun h => by rw [h]; rfl, fun h => UInt8.toNat_inj.1 h⟩
 have n47 : ∀ k, s.getD k 0 = 47 → (s.getD k 0).toNat = 47 := fun k h => by rw [h]; rfl
 have hsz : (⟨s.toArray⟩ : ByteArray).size = s.length := rfl
 unfold Utf8.decode
 simp only [zn9, hsz, h0, e47, ne_eq]
 generalize hb : s[pos].toNat = b at *
 generalize h1 : (s.getD (pos + 1) 0).toNat = b1
 generalize h2 : (s.getD (pos + 2) 0).toNat = b2
 generalize h3 : (s.getD (pos + 3) 0).toNat = b3
 have k1 : ∀ k, k = pos + 1 → s.getD k 0 = 47 → b1 = 47 := fun k hk hh => by rw [← h1, ← hk]; exact n47 k hh
 have k2 : ∀ k, k = pos + 2 → s.getD k 0 = 47 → b2 = 47 := fun k hk hh => by rw [← h2, ← hk]; exact n47 k hh
 have k3 : ∀ k, k = pos + 3 → s.getD k 0 = 47 → b3 = 47 := fun k hk hh => by rw [← h3, ← hk]; exact n47 k hh
 clear n47 hsz h0 e47 h1 h2 h3 hb
 split
 ·rename_i c
  refine ⟨by omega, by simp only; omega, fun hh => by rw [hh], fun hh => hh, fun k a b => by simp only at b; omega⟩
 ·rename_i c
  have hne : ¬ b = 47 := by omega
  split
  ·rename_i c1
   simp only [Bool.and_eq_true, decide_eq_true_eq, beq_iff_eq] at c1
   split
   ·rename_i c2
    refine ⟨by simp, by simp only; omega, fun hh => absurd hh hne, fun _ => by simp only; omega, fun k a b hh => ?_⟩
    simp only at b
    have := k1 k (by omega) hh
    omega
   ·refine ⟨by simp, by simp only; omega, fun hh => absurd hh hne, fun _ => by simp [Utf8.runeError], fun k a b => by simp only at b; omega⟩
  ·split
   ·rename_i c1
    simp only [Bool.and_eq_true, decide_eq_true_eq, beq_iff_eq] at c1
    split
    ·rename_i c2
     simp only [Bool.and_eq_true, decide_eq_true_eq] at c2
     refine ⟨by simp, by simp only; omega, fun hh => absurd hh hne, fun _ => by simp only; omega, fun k a b hh => ?_⟩
     simp only at b
     rcases (by omega : k = pos + 1 ∨ k = pos + 2) with hk | hk
     ·have := k1 k hk hh; omega
     ·have := k2 k hk hh; omega
    ·refine ⟨by simp, by simp only; omega, fun hh => absurd hh hne, fun _ => by simp [Utf8.runeError], fun k a b => by simp only at b; omega⟩
   ·split
    ·rename_i c1
     simp only [Bool.and_eq_true, decide_eq_true_eq, beq_iff_eq] at c1
     split
     ·rename_i c2
      simp only [Bool.and_eq_true, decide_eq_true_eq] at c2
      refine ⟨by simp, by simp only; omega, fun hh => absurd hh hne, fun _ => by simp only; omega, fun k a b hh => ?_⟩
      simp only at b
      rcases (by omega : k = pos + 1 ∨ k = pos + 2 ∨ k = pos + 3) with hk | hk | hk
      ·have := k1 k hk hh; omega
      ·have := k2 k hk hh; omega
      ·have := k3 k hk hh; omega
     ·refine ⟨by simp, by simp only; omega, fun hh => absurd hh hne, fun _ => by simp [Utf8.runeError], fun k a b => by simp only at b; omega⟩
    ·refine ⟨by simp, by simp only; omega, fun hh => absurd hh hne, fun _ => by simp [Utf8.runeError], fun k a b => by simp only at b; omega⟩
end Go.Vm
end
section
namespace Go.Proofs.Ytghllhghboaagaa
open Go.Vm
theorem q0e (s : List UInt8) (hl : s.length < 1000000) (R : Post) (S : zA) (g2 : V) : ∀ (k i : Nat) (g3 g4 g5 g6 g7 g8 g9 gI gJ gF gA gB gG gH gC gD gE gM gN gP gQ gV gR gS gT gU gW gX gY gZ : V), s.length - i = k → i ≤ s.length →
 (∀ i' g3 g4 g5 g6 g7 g8 g9 gI gJ gF gA gB gG gH gC gD gE gM gN gP gQ gV gR gS gT gU gW gX gY gZ, (s.drop i).all z0i = true → R (.exit 0) ((.d (.str s)) :: (.tup []) :: g2 :: g3 :: g4 :: g5 :: g6 :: g7 :: g8 :: g9 :: gI :: gJ :: gF :: gA :: gB :: gG :: gH :: gC :: gD :: gE :: (.d (.str s)) :: (.d (.int .i64 s.length)) :: i' :: gM :: gN :: gP :: gQ :: gV :: gR :: gS :: gT :: gU :: gW :: gX :: gY :: gZ :: []) S []) →
 (∀ i' g3 g4 g5 g6 g7 g8 g9 gI gJ gF gA gB gG gH gC gD gE gM gN gP gQ gV gR gS gT gU gW gX gY gZ, (s.drop i).all z0i = false → R .ret ((.d (.str s)) :: (.tup []) :: (.d (.int .i64 3)) :: g3 :: g4 :: g5 :: g6 :: g7 :: g8 :: g9 :: gI :: gJ :: gF :: gA :: gB :: gG :: gH :: gC :: gD :: gE :: (.d (.str s)) :: (.d (.int .i64 s.length)) :: i' :: gM :: gN :: gP :: gQ :: gV :: gR :: gS :: gT :: gU :: gW :: gX :: gY :: gZ :: []) S []) →
 Wp cfg (.loop (lpOf (Try.f96.body.getD .skip) 0)) ((.d (.str s)) :: (.tup []) :: g2 :: g3 :: g4 :: g5 :: g6 :: g7 :: g8 :: g9 :: gI :: gJ :: gF :: gA :: gB :: gG :: gH :: gC :: gD :: gE :: (.d (.str s)) :: (.d (.int .i64 s.length)) :: (.d (.int .i64 i)) :: gM :: gN :: gP :: gQ :: gV :: gR :: gS :: gT :: gU :: gW :: gX :: gY :: gZ :: []) S [] R := by
 intro k
 induction k with
 | zero =>
  intro i g3 g4 g5 g6 g7 g8 g9 gI gJ gF gA gB gG gH gC gD gE gM gN gP gQ gV gR gS gT gU gW gX gY gZ hk hi hE hR
  have hie : i = s.length := by omega
  rw [qK]
  refine zS ?_
  conv => arg 2; whnf
  simp (maxSteps:=1000000) (disch:=first|assumption|omega|rfl) only [↓gp, gc, Nat.reduceAdd]
  exact hE _ _ _ _ _ _ _ _ _ _ _ _ _ _ _ _ _ _ _ _ _ _ _ _ _ _ _ _ _ _ _ (by rw [hie, List.drop_length]; rfl)
 | succ k ih =>
  intro i g3 g4 g5 g6 g7 g8 g9 gI gJ gF gA gB gG gH gC gD gE gM gN gP gQ gV gR gS gT gU gW gX gY gZ hk hi hE hR
  have hlt : i < s.length := by omega
  have hdr : s.drop i = s[i] :: s.drop (i + 1) := List.drop_eq_getElem_cons hlt
  rw [hdr, List.all_cons] at hE hR
  have e0 : s[i] = 0 ↔ (s[i].toNat : Int) = 0 := ⟨fun h => by rw [h]; rfl, fun h => UInt8.toNat_inj.1 (by simpa using h)⟩
  have e47 : s[i] = 47 ↔ (s[i].toNat : Int) = 47 := ⟨fun h => by rw [h]; rfl, fun h => UInt8.toNat_inj.1 (by show s[i].toNat = 47; omega)⟩
  rw [qK]
  refine zS ?_
  conv => arg 2; whnf
  by_cases c0 : (s[i].toNat : Int) = 0
  ·have hr : z0i s[i] = false := by simp [z0i, e0.2 c0]
   simp (maxSteps:=1000000) (disch:=first|assumption|omega|rfl) only [↓gp, gc, Nat.reduceAdd]
   exact hR _ _ _ _ _ _ _ _ _ _ _ _ _ _ _ _ _ _ _ _ _ _ _ _ _ _ _ _ _ _ _ (by rw [hr]; rfl)
  ·by_cases c1 : (s[i].toNat : Int) = 47
   ·have hr : z0i s[i] = false := by simp [z0i, e47.2 c1]
    simp (maxSteps:=1000000) (disch:=first|assumption|omega|rfl) only [↓gp, gc, Nat.reduceAdd]
    exact hR _ _ _ _ _ _ _ _ _ _ _ _ _ _ _ _ _ _ _ _ _ _ _ _ _ _ _ _ _ _ _ (by rw [hr]; rfl)
   ·have hr : z0i s[i] = true := by simp only [z0i, decide_eq_true_eq]; exact ⟨fun h => c0 (e0.1 h), fun h => c1 (e47.1 h)⟩
    rw [hr, Bool.true_and] at hE hR
    simp (maxSteps:=1000000) (disch:=first|assumption|omega|rfl) only [↓gp, gc, Nat.reduceAdd]
    exact ih (i + 1) _ _ _ _ _ _ _ _ _ _ _ _ _ _ _ _ _ _ _ _ _ _ _ _ _ _ _ _ _ _ (by omega) (by omega) hE hR
def z4u (s : List UInt8) : Int := if wM s = true then 0 else 3
theorem znu (s : List UInt8) (hl : s.length < 1000000) : Ev cfg 96 [.str s] (.ret (.d (.int .i64 (z4u s)))) := by
 refine kQ rfl rfl zyc ?_
 show Wp cfg (Try.f96.body.getD .skip) ((.d (.str s)) :: uZ (uZ (uZ ((.tup []) :: (.tup []) :: (.tup []) :: (.tup []) :: (.tup []) :: [])))) [] [] _
 unfold uZ
 conv => arg 2; whnf
 have bad : ¬ (1 ≤ s.length ∧ s.length ≤ 24 ∧ s ≠ [46] ∧ s ≠ [46, 46]) → z4u s = 3 := fun h => by
  unfold z4u
  rw [if_neg]
  intro hr
  simp only [wM, Bool.and_eq_true, decide_eq_true_eq] at hr
  exact h hr.1
 by_cases c1 : (s.length : Int) < 1
 ·simp (maxSteps:=1000000) (disch:=first|assumption|omega|rfl) only [↓gp, gc, Nat.reduceAdd]
  rw [bad (fun h => by omega)]
  exact zV rfl rfl rfl
 ·by_cases c2 : (s.length : Int) > 24
  ·simp (maxSteps:=1000000) (disch:=first|assumption|omega|rfl) only [↓gp, gc, Nat.reduceAdd]
   rw [bad (fun h => by omega)]
   exact zV rfl rfl rfl
  ·by_cases c3 : s = [46]
   ·simp (maxSteps:=1000000) (disch:=first|assumption|omega|rfl) only [↓gp, gc, Nat.reduceAdd]
    rw [bad (fun h => h.2.2.1 c3)]
    exact zV rfl rfl rfl
   ·by_cases c4 : s = [46, 46]
    ·simp (maxSteps:=1000000) (disch:=first|assumption|omega|rfl) only [↓gp, gc, Nat.reduceAdd]
     rw [bad (fun h => h.2.2.2 c4)]
     exact zV rfl rfl rfl
    ·simp (maxSteps:=1000000) (disch:=first|assumption|omega|rfl) only [↓gp, gc, Nat.reduceAdd]
     have good : z4u s = if s.all z0i = true then 0 else 3 := by
      unfold z4u wM
      rw [decide_eq_true (⟨by omega, by omega, c3, c4⟩ : 1 ≤ s.length ∧ s.length ≤ 24 ∧ s ≠ [46] ∧ s ≠ [46, 46]), Bool.true_and]
     refine q0e s hl _ _ _ s.length 0 _ _ _ _ _ _ _ _ _ _ _ _ _ _ _ _ _ _ _ _ _ _ _ _ _ _ _ _ _ _ rfl (by omega) ?_ ?_
     ·intro i' g3 g4 g5 g6 g7 g8 g9 gI gJ gF gA gB gG gH gC gD gE gM gN gP gQ gV gR gS gT gU gW gX gY gZ h
      rw [List.drop_zero] at h
      simp (maxSteps:=1000000) (disch:=first|assumption|omega|rfl) only [↓gp, gc, Nat.reduceAdd]
      rw [good, if_pos h]
      exact zV rfl rfl rfl
     ·intro i' g3 g4 g5 g6 g7 g8 g9 gI gJ gF gA gB gG gH gC gD gE gM gN gP gQ gV gR gS gT gU gW gX gY gZ h
      rw [List.drop_zero] at h
      simp (maxSteps:=1000000) (disch:=first|assumption|omega|rfl) only [↓gp, gc, Nat.reduceAdd]
      rw [good, if_neg (by rw [h]; exact Bool.noConfusion)]
      exact zV rfl rfl rfl
theorem zat {ops : Array Oper} {dst : Option Tmp} {k : List Oper} {T : List V} {S : zA} {F : Dfs} {Q : Post} {s : List UInt8} (hl : s.length < 1000000) :
  WpR cfg ops dst k T S F Q (some (.enter 96 [.d (.str s)])) = WpL cfg ops k (putT T dst (.d (.int .i64 (z4u s)))) S F Q :=
 zX (ds := [.str s]) rfl (znu s hl)
end Go.Proofs.Ytghllhghboaagaa
end
