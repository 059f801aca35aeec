/- num.Get, num.At, mix.Of: bytes as numbers, and a hash. -/
import Derived.Test.YtobgdmgldagjkaaK07
/-! num.Get, num.At, mix.Of: bytes as numbers, and a hash. -/
section
set_option linter.unusedVariables false
set_option linter.unusedSimpArgs false
set_option maxRecDepth 100000
set_option maxHeartbeats 4000000
namespace Go.Proofs.Ytobgdmgldagjkaa
open Go.Vm
theorem u64_in {n : Int} (h0 : 0 ≤ n) (h1 : n < 18446744073709551616) : IntKind.u64.wrap n = n := by
  have : IntKind.u64.wrap n = n % 18446744073709551616 := rfl
  rw [this]
  omega
theorem or_nat {a x i : Nat} (ha : a < 256 ^ i) : a ||| x * 256 ^ i = a + x * 256 ^ i := by
  have e : (256 : Nat) ^ i = 2 ^ (8 * i) := by rw [Nat.pow_mul]
  rw [e] at ha ⊢
  have := Nat.shiftLeft_add_eq_or_of_lt (i := 8 * i) (b := a) ha x
  rw [Nat.shiftLeft_eq] at this
  rw [Nat.or_comm, ← this, Nat.add_comm]
theorem or_at {a x i : Nat} {t : TypeId} (ha : a < 256 ^ i) (h : a + x * 256 ^ i < 18446744073709551616) : binV Try.prog .or t (.d (.int .u64 (a : Int))) (.d (.int .u64 ((x * 256 ^ i : Nat) : Int))) = some (.d (.int .u64 ((a + x * 256 ^ i : Nat) : Int))) := by
  have e1 : BitVec.ofInt IntKind.u64.bits (a : Int) = BitVec.ofNat 64 a := BitVec.ofInt_natCast ..
  have e2 : BitVec.ofInt IntKind.u64.bits ((x * 256 ^ i : Nat) : Int) = BitVec.ofNat 64 (x * 256 ^ i) := BitVec.ofInt_natCast ..
  have e3 : (BitVec.ofNat 64 a ||| BitVec.ofNat 64 (x * 256 ^ i)).toNat = a + x * 256 ^ i := by
    rw [BitVec.toNat_or, BitVec.toNat_ofNat, BitVec.toNat_ofNat, Nat.mod_eq_of_lt (by omega), Nat.mod_eq_of_lt (by omega), or_nat ha]
  simp only [binV, intBin, e1, e2]
  show some (V.d (.int .u64 (IntKind.u64.wrap (((BitVec.ofNat 64 a ||| BitVec.ofNat 64 (x * 256 ^ i)).toNat : Nat) : Int)))) = _
  rw [e3, u64_in (by omega) (by omega)]
theorem or_ati {a x i : Nat} {t : TypeId} (ha : a < 256 ^ i) (h : a + x * 256 ^ i < 9223372036854775808) : binV Try.prog .or t (.d (.int .i64 (a : Int))) (.d (.int .i64 ((x * 256 ^ i : Nat) : Int))) = some (.d (.int .i64 ((a + x * 256 ^ i : Nat) : Int))) := by
  have e1 : BitVec.ofInt IntKind.i64.bits (a : Int) = BitVec.ofNat 64 a := BitVec.ofInt_natCast ..
  have e2 : BitVec.ofInt IntKind.i64.bits ((x * 256 ^ i : Nat) : Int) = BitVec.ofNat 64 (x * 256 ^ i) := BitVec.ofInt_natCast ..
  have e3 : (BitVec.ofNat 64 a ||| BitVec.ofNat 64 (x * 256 ^ i)).toNat = a + x * 256 ^ i := by
    rw [BitVec.toNat_or, BitVec.toNat_ofNat, BitVec.toNat_ofNat, Nat.mod_eq_of_lt (by omega), Nat.mod_eq_of_lt (by omega), or_nat ha]
  simp only [binV, intBin, e1, e2]
  show some (V.d (.int .i64 (IntKind.i64.wrap (((BitVec.ofNat 64 a ||| BitVec.ofNat 64 (x * 256 ^ i)).toNat : Nat) : Int)))) = _
  rw [e3, wrap64 (by omega)]
theorem shl_at {x i : Nat} {K' : IntKind} {t : TypeId} (hi : i < 8) (h : x * 256 ^ i < 18446744073709551616) : binV Try.prog .shl t (.d (.int .u64 (x : Int))) (.d (.int K' ((8 * i : Nat) : Int))) = some (.d (.int .u64 ((x * 256 ^ i : Nat) : Int))) := by
  have e : min ((8 * i : Nat) : Int).toNat IntKind.u64.bits = 8 * i := by show min ((8 * i : Nat) : Int).toNat 64 = 8 * i; omega
  have e2 : (x : Int) * 2 ^ (8 * i) = ((x * 256 ^ i : Nat) : Int) := by
    have : (256 : Nat) ^ i = 2 ^ (8 * i) := by rw [Nat.pow_mul]
    rw [this]; push_cast; rfl
  simp only [binV, intBin]
  rw [if_neg (by omega), e, e2, u64_in (by omega) (by omega)]
  rfl
theorem shl_ati {x i : Nat} {K' : IntKind} {t : TypeId} (hi : i < 8) (h : x * 256 ^ i < 9223372036854775808) : binV Try.prog .shl t (.d (.int .i64 (x : Int))) (.d (.int K' ((8 * i : Nat) : Int))) = some (.d (.int .i64 ((x * 256 ^ i : Nat) : Int))) := by
  have e : min ((8 * i : Nat) : Int).toNat IntKind.i64.bits = 8 * i := by show min ((8 * i : Nat) : Int).toNat 64 = 8 * i; omega
  have e2 : (x : Int) * 2 ^ (8 * i) = ((x * 256 ^ i : Nat) : Int) := by
    have : (256 : Nat) ^ i = 2 ^ (8 * i) := by rw [Nat.pow_mul]
    rw [this]; push_cast; rfl
  simp only [binV, intBin]
  rw [if_neg (by omega), e, e2, wrap64 (by omega)]
  rfl
theorem cv522 {S : Store} {x : UInt8} : convertV Try.prog S 5 22 (.d (.int .u8 (x.toNat : Int))) = some (.d (.int .u64 (x.toNat : Int)), 0) := by
  have h1 : Try.prog.underlying 5 = some (.int .u8) := by kernel_rfl
  have h2 : Try.prog.underlying 22 = some (.int .u64) := by kernel_rfl
  have : x.toNat < 256 := x.toNat_lt
  simp only [convertV, h1, h2]
  rw [u64_in (by omega) (by omega)]
theorem cv53 {S : Store} {x : UInt8} : convertV Try.prog S 5 3 (.d (.int .u8 (x.toNat : Int))) = some (.d (.int .i64 (x.toNat : Int)), 0) := by
  have h1 : Try.prog.underlying 5 = some (.int .u8) := by kernel_rfl
  have h2 : Try.prog.underlying 3 = some (.int .i64) := by kernel_rfl
  have : x.toNat < 256 := x.toNat_lt
  simp only [convertV, h1, h2]
  rw [wrap64 (by omega)]
theorem leN_next {t : List UInt8} {i : Nat} (h : i < t.length) : leN (t.take (i + 1)) = leN (t.take i) + t[i].toNat * 256 ^ i := by
  rw [List.take_add_one, List.getElem?_eq_getElem h]
  show leN (t.take i ++ [t[i]]) = _
  rw [leN_snoc, List.length_take, Nat.min_eq_left (by omega), Nat.mul_comm]
theorem leN_take_lt {t : List UInt8} {i : Nat} (h : i ≤ t.length) : leN (t.take i) < 256 ^ i := by
  have := leN_lt (t.take i)
  rwa [List.length_take, Nat.min_eq_left h] at this
theorem pow_le {i w : Nat} (h : i ≤ w) : (256 : Nat) ^ i ≤ 256 ^ w := Nat.pow_le_pow_right (by decide) h
theorem get_l (b : List UInt8) (hb : b.length ≤ 1000) (k0 : Nat) (t : List UInt8) (ht : t = (b.drop k0).take t.length) (hk0 : k0 + t.length ≤ b.length) (hw8 : t.length ≤ 8) (x6 x7 : V) (R : Post) (S : Store) : ∀ (k i : Nat) (g2 g3 g4 g5 g9 g10 g11 g12 g13 g14 g15 g16 g17 g18 g19 g22 g23 g24 g25 g26 g27 g28 g29 g30 g31 g32 g33 g34 g35 g36 g37 g38 : V), t.length - i = k → i ≤ t.length →
   (∀ i' g2 g3 g4 g5 g9 g10 g11 g12 g13 g14 g15 g16 g17 g18 g19 g22 g23 g24 g25 g26 g27 g28 g29 g30 g31 g32 g33 g34 g35 g36 g37 g38, R (.exit 0) ((.d (encB b)) :: (.d (.int .i64 (k0 : Int))) :: g2 :: g3 :: g4 :: g5 :: x6 :: x7 :: (.d (.int .u64 (leN t : Int))) :: g9 :: g10 :: g11 :: g12 :: g13 :: g14 :: g15 :: g16 :: g17 :: g18 :: g19 :: (.d (.int .i64 (t.length : Int))) :: i' :: g22 :: g23 :: g24 :: g25 :: g26 :: g27 :: g28 :: g29 :: g30 :: g31 :: g32 :: g33 :: g34 :: g35 :: g36 :: g37 :: g38 :: []) S []) →
   Wp cfg (.loop (lpOf (Try.f97.body.getD .skip) 0)) ((.d (encB b)) :: (.d (.int .i64 (k0 : Int))) :: g2 :: g3 :: g4 :: g5 :: x6 :: x7 :: (.d (.int .u64 (leN (t.take i) : Int))) :: g9 :: g10 :: g11 :: g12 :: g13 :: g14 :: g15 :: g16 :: g17 :: g18 :: g19 :: (.d (.int .i64 (t.length : Int))) :: (.d (.int .i64 (i : Int))) :: g22 :: g23 :: g24 :: g25 :: g26 :: g27 :: g28 :: g29 :: g30 :: g31 :: g32 :: g33 :: g34 :: g35 :: g36 :: g37 :: g38 :: []) S [] R := by
  intro k
  induction k with
  | zero =>
    intro i g2 g3 g4 g5 g9 g10 g11 g12 g13 g14 g15 g16 g17 g18 g19 g22 g23 g24 g25 g26 g27 g28 g29 g30 g31 g32 g33 g34 g35 g36 g37 g38 hk hi hR
    have hie : i = t.length := by omega
    subst hie
    rw [List.take_length]
    rw [wk_of]
    refine wk_loop ?_
    conv => arg 2; whnf
    simp (maxSteps := 1000000) (disch := first | assumption | omega | rfl) only [↓vmp, vme, vmb, ty, hP, dec_t, dec_f, wrap64, List.length_map, Int.toNat_natCast, Nat.reduceAdd, List.cons_append, List.nil_append, Option.map_some, Option.map_none, strOf_mk, sb_eql, sb_neq, vmg, ↓vgd, ↓vst, ↓vix]
    exact hR _ _ _ _ _ _ _ _ _ _ _ _ _ _ _ _ _ _ _ _ _ _ _ _ _ _ _ _ _ _ _ _ _
  | succ k ih =>
    intro i g2 g3 g4 g5 g9 g10 g11 g12 g13 g14 g15 g16 g17 g18 g19 g22 g23 g24 g25 g26 g27 g28 g29 g30 g31 g32 g33 g34 g35 g36 g37 g38 hk hi hR
    have hlt : i < t.length := by omega
    have h1 : IntKind.i64.wrap ((k0 : Int) + (i : Int)) = ((k0 + i : Nat) : Int) := by rw [wrap64 (by omega)]; omega
    have h2 : IntKind.i64.wrap (8 * (i : Int)) = ((8 * i : Nat) : Int) := by rw [wrap64 (by omega)]; omega
    have h3 : IntKind.i64.wrap ((i : Int) + 1) = ((i + 1 : Nat) : Int) := by rw [wrap64 (by omega)]; omega
    have hcv := fun S => cvu (S := S) (i := 8 * i) (by omega)
    have he : b[k0 + i] = t[i] := by
      have : t[i] = ((b.drop k0).take t.length)[i]'(by rw [← ht]; exact hlt) := by congr 1
      rw [this]; simp
    have hix : ∀ S : Store, indexAddrV Try.prog S 40 (.d (encB b)) (.d (.int .i64 ((k0 + i : Nat) : Int))) = some (.d (.ptr (.int .u8 (t[i].toNat : Int)))) := fun S => by rw [encB, ix40 (l := b) (i := k0 + i) (by omega), he]
    have hn := leN_next hlt
    have hlow := leN_take_lt (t := t) (i := i) (by omega)
    have hhi := leN_take_lt (t := t) (i := i + 1) (by omega)
    have hp := pow_le (i := i + 1) (w := 8) (by omega)
    have hp8 : (256 : Nat) ^ 8 = 18446744073709551616 := by decide
    rw [hn] at hhi
    have hcx := fun S => cv522 (S := S) (x := t[i])
    have hsh := fun K' => shl_at (K' := K') (t := 22) (x := t[i].toNat) (i := i) (by omega) (by omega)
    have hor := or_at (t := 22) (a := leN (t.take i)) (x := t[i].toNat) (i := i) hlow (by omega)
    rw [← hn] at hor
    rw [wk_of]
    refine wk_loop ?_
    conv => arg 2; whnf
    simp (maxSteps := 1000000) (disch := first | assumption | omega | rfl) only [↓vmp, vme, vmb, ty, hP, dec_t, dec_f, wrap64, List.length_map, Int.toNat_natCast, Nat.reduceAdd, List.cons_append, List.nil_append, Option.map_some, Option.map_none, strOf_mk, sb_eql, sb_neq, vmg, ↓vgd, ↓vst, ↓vix, h1, h2, h3, hcv, hix, hcx, hsh, hor]
    exact ih (i + 1) _ _ _ _ _ _ _ _ _ _ _ _ _ _ _ _ _ _ _ _ _ _ _ _ _ _ _ _ _ _ _ _ (by omega) (by omega) hR
theorem get_ok (b : List UInt8) (hb : b.length ≤ 1000) (k0 w : Nat) (hk0 : k0 + w ≤ b.length) (hw1 : 1 ≤ w) (hw8 : w ≤ 8) : Ev cfg 97 [encB b, .int .i64 (k0 : Int), .int .i64 (w : Int)] (.ret (.tup [.d (.int .u64 (leN ((b.drop k0).take w) : Int)), .d (.bool true)])) := by
  refine ev_of rfl rfl body97 ?_
  show Wp cfg (Try.f97.body.getD .skip) ((.d (encB b)) :: (.d (.int .i64 (k0 : Int))) :: (.d (.int .i64 (w : Int))) :: (.tup []) :: (.tup []) :: (.tup []) :: (.tup []) :: (.tup []) :: (.tup []) :: (.tup []) :: (.tup []) :: (.tup []) :: (.tup []) :: (.tup []) :: (.tup []) :: (.tup []) :: (.tup []) :: (.tup []) :: (.tup []) :: (.tup []) :: (.tup []) :: (.tup []) :: (.tup []) :: (.tup []) :: (.tup []) :: (.tup []) :: (.tup []) :: (.tup []) :: (.tup []) :: (.tup []) :: (.tup []) :: (.tup []) :: (.tup []) :: (.tup []) :: (.tup []) :: (.tup []) :: (.tup []) :: (.tup []) :: (.tup []) :: []) [] [] _
  conv => arg 2; whnf
  have c4 : ¬ (w : Int) > 8 := by omega
  have ct := fun {ops dst k T S F Q} => call_there (ops := ops) (dst := dst) (k := k) (T := T) (S := S) (F := F) (Q := Q) (a := k0) (w := w) (n := b.length) (by omega) (by omega) (by omega)
  rw [decide_eq_true (show 1 ≤ w ∧ k0 + w ≤ b.length from ⟨hw1, hk0⟩)] at ct
  have hln : ∀ S : Store, builtinV Try.prog S .len [40] [.d (encB b)] = some (.val (.d (.int .i64 b.length)) S 0) := fun S => by rw [encB, len40, List.length_map]
  simp (maxSteps := 1000000) (disch := first | assumption | omega | rfl) only [↓vmp, vme, vmb, ty, hP, dec_t, dec_f, wrap64, List.length_map, Int.toNat_natCast, Nat.reduceAdd, List.cons_append, List.nil_append, Option.map_some, Option.map_none, strOf_mk, sb_eql, sb_neq, vmg, ↓vgd, ↓vst, ↓vix, ct, bo116, hln]
  have hl : ((b.drop k0).take w).length = w := by rw [List.length_take, List.length_drop]; omega
  have ht : (b.drop k0).take w = (b.drop k0).take ((b.drop k0).take w).length := by rw [hl]
  generalize (b.drop k0).take w = t at *
  subst hl
  refine get_l b hb k0 t ht hk0 hw8 _ _ _ _ t.length 0 _ _ _ _ _ _ _ _ _ _ _ _ _ _ _ _ _ _ _ _ _ _ _ _ _ _ _ _ _ _ _ _ rfl (Nat.zero_le _) ?_
  intro i' g2 g3 g4 g5 g9 g10 g11 g12 g13 g14 g15 g16 g17 g18 g19 g22 g23 g24 g25 g26 g27 g28 g29 g30 g31 g32 g33 g34 g35 g36 g37 g38
  simp (maxSteps := 1000000) (disch := first | assumption | omega | rfl) only [↓vmp, vme, vmb, ty, hP, dec_t, dec_f, wrap64, List.length_map, Int.toNat_natCast, Nat.reduceAdd, List.cons_append, List.nil_append, Option.map_some, Option.map_none, strOf_mk, sb_eql, sb_neq, vmg, ↓vgd, ↓vst, ↓vix]
  exact retQ_two rfl rfl rfl rfl rfl rfl
theorem at_l (b : List UInt8) (hb : b.length = 256) (k0 : Nat) (t : List UInt8) (ht : t = (b.drop k0).take t.length) (hk0 : k0 + t.length ≤ b.length) (hw4 : t.length ≤ 4) (x6 : V) (R : Post) : ∀ (k i : Nat) (g0 g2 g4 g5 g8 g9 g10 g11 g12 g13 g14 g15 g16 g19 g20 g21 g22 g23 g24 g25 g26 g27 g28 g29 g30 g31 g32 g33 g34 : V), t.length - i = k → i ≤ t.length →
   (∀ i' g0 g2 g4 g5 g8 g9 g10 g11 g12 g13 g14 g15 g16 g19 g20 g21 g22 g23 g24 g25 g26 g27 g28 g29 g30 g31 g32 g33 g34, R (.exit 0) (g0 :: (.d (.int .i64 (k0 : Int))) :: g2 :: (.ref 0 0 0) :: g4 :: g5 :: x6 :: (.d (.int .i64 (leN t : Int))) :: g8 :: g9 :: g10 :: g11 :: g12 :: g13 :: g14 :: g15 :: g16 :: (.d (.int .i64 (t.length : Int))) :: i' :: g19 :: g20 :: g21 :: g22 :: g23 :: g24 :: g25 :: g26 :: g27 :: g28 :: g29 :: g30 :: g31 :: g32 :: g33 :: g34 :: []) [.row [.d (blkD b)] 42] []) →
   Wp cfg (.loop (lpOf (Try.f98.body.getD .skip) 0)) (g0 :: (.d (.int .i64 (k0 : Int))) :: g2 :: (.ref 0 0 0) :: g4 :: g5 :: x6 :: (.d (.int .i64 (leN (t.take i) : Int))) :: g8 :: g9 :: g10 :: g11 :: g12 :: g13 :: g14 :: g15 :: g16 :: (.d (.int .i64 (t.length : Int))) :: (.d (.int .i64 (i : Int))) :: g19 :: g20 :: g21 :: g22 :: g23 :: g24 :: g25 :: g26 :: g27 :: g28 :: g29 :: g30 :: g31 :: g32 :: g33 :: g34 :: []) [.row [.d (blkD b)] 42] [] R := by
  intro k
  induction k with
  | zero =>
    intro i g0 g2 g4 g5 g8 g9 g10 g11 g12 g13 g14 g15 g16 g19 g20 g21 g22 g23 g24 g25 g26 g27 g28 g29 g30 g31 g32 g33 g34 hk hi hR
    have hie : i = t.length := by omega
    subst hie
    rw [List.take_length]
    rw [wk_of]
    refine wk_loop ?_
    conv => arg 2; whnf
    simp (maxSteps := 1000000) (disch := first | assumption | omega | rfl) only [↓vmp, vme, vmb, ty, hP, dec_t, dec_f, wrap64, List.length_map, Int.toNat_natCast, Nat.reduceAdd, List.cons_append, List.nil_append, Option.map_some, Option.map_none, strOf_mk, sb_eql, sb_neq, vmg, ↓vgd, ↓vst, ↓vix]
    exact hR _ _ _ _ _ _ _ _ _ _ _ _ _ _ _ _ _ _ _ _ _ _ _ _ _ _ _ _ _ _
  | succ k ih =>
    intro i g0 g2 g4 g5 g8 g9 g10 g11 g12 g13 g14 g15 g16 g19 g20 g21 g22 g23 g24 g25 g26 g27 g28 g29 g30 g31 g32 g33 g34 hk hi hR
    have hlt : i < t.length := by omega
    have h1 : IntKind.i64.wrap ((k0 : Int) + (i : Int)) = ((k0 + i : Nat) : Int) := by rw [wrap64 (by omega)]; omega
    have h2 : IntKind.i64.wrap (8 * (i : Int)) = ((8 * i : Nat) : Int) := by rw [wrap64 (by omega)]; omega
    have h3 : IntKind.i64.wrap ((i : Int) + 1) = ((i + 1 : Nat) : Int) := by rw [wrap64 (by omega)]; omega
    have hcv := fun S => cvu (S := S) (i := 8 * i) (by omega)
    have hia := fun S j x => ia42 (S := S) (j := j) (x := x) (i := k0 + i) (by omega)
    have hg := bt42.get (v := .d (blkD b)) isB_d hb (i := k0 + i) (by omega)
    have he : b[k0 + i] = t[i] := by
      have : t[i] = ((b.drop k0).take t.length)[i]'(by rw [← ht]; exact hlt) := by congr 1
      rw [this]; simp
    rw [he] at hg
    have hn := leN_next hlt
    have hlow := leN_take_lt (t := t) (i := i) (by omega)
    have hhi := leN_take_lt (t := t) (i := i + 1) (by omega)
    have hp := pow_le (i := i + 1) (w := 4) (by omega)
    have hp8 : (256 : Nat) ^ 4 = 4294967296 := by decide
    rw [hn] at hhi
    have hcx := fun S => cv53 (S := S) (x := t[i])
    have hsh := fun K' => shl_ati (K' := K') (t := 3) (x := t[i].toNat) (i := i) (by omega) (by omega)
    have hor := or_ati (t := 3) (a := leN (t.take i)) (x := t[i].toNat) (i := i) hlow (by omega)
    rw [← hn] at hor
    rw [wk_of]
    refine wk_loop ?_
    conv => arg 2; whnf
    simp (maxSteps := 1000000) (disch := first | assumption | omega | rfl) only [↓vmp, vme, vmb, ty, hP, dec_t, dec_f, wrap64, List.length_map, Int.toNat_natCast, Nat.reduceAdd, List.cons_append, List.nil_append, Option.map_some, Option.map_none, strOf_mk, sb_eql, sb_neq, vmg, ↓vgd, ↓vst, ↓vix, h1, h2, h3, hcv, hia, hg, hcx, hsh, hor]
    exact ih (i + 1) _ _ _ _ _ _ _ _ _ _ _ _ _ _ _ _ _ _ _ _ _ _ _ _ _ _ _ _ _ (by omega) (by omega) hR
theorem at_ok (b : List UInt8) (hb : b.length = 256) (k0 w : Nat) (hk0 : k0 + w ≤ 256) (hw1 : 1 ≤ w) (hw4 : w ≤ 4) : Ev cfg 98 [blkD b, .int .i64 (k0 : Int), .int .i64 (w : Int)] (.ret (.d (.int .i64 (leN ((b.drop k0).take w) : Int)))) := by
  refine ev_of rfl rfl body98 ?_
  show Wp cfg (Try.f98.body.getD .skip) ((.d (blkD b)) :: (.d (.int .i64 (k0 : Int))) :: (.d (.int .i64 (w : Int))) :: (.tup []) :: (.tup []) :: (.tup []) :: (.tup []) :: (.tup []) :: (.tup []) :: (.tup []) :: (.tup []) :: (.tup []) :: (.tup []) :: (.tup []) :: (.tup []) :: (.tup []) :: (.tup []) :: (.tup []) :: (.tup []) :: (.tup []) :: (.tup []) :: (.tup []) :: (.tup []) :: (.tup []) :: (.tup []) :: (.tup []) :: (.tup []) :: (.tup []) :: (.tup []) :: (.tup []) :: (.tup []) :: (.tup []) :: (.tup []) :: (.tup []) :: (.tup []) :: []) [] [] _
  conv => arg 2; whnf
  have c4 : ¬ (w : Int) > 4 := by omega
  have hf := fd42 hb
  have ct := fun {ops dst k T S F Q} => call_there (ops := ops) (dst := dst) (k := k) (T := T) (S := S) (F := F) (Q := Q) (a := k0) (w := w) (n := 256) (by omega) (by omega) (by omega)
  rw [decide_eq_true (show 1 ≤ w ∧ k0 + w ≤ 256 from ⟨hw1, hk0⟩)] at ct
  simp only [nl256] at ct
  simp (maxSteps := 1000000) (disch := first | assumption | omega | rfl) only [↓vmp, vme, vmb, ty, hP, dec_t, dec_f, wrap64, List.length_map, Int.toNat_natCast, Nat.reduceAdd, List.cons_append, List.nil_append, Option.map_some, Option.map_none, strOf_mk, sb_eql, sb_neq, vmg, ↓vgd, ↓vst, ↓vix, hf, ct, bo116]
  have hl : ((b.drop k0).take w).length = w := by rw [List.length_take, List.length_drop]; omega
  have ht : (b.drop k0).take w = (b.drop k0).take ((b.drop k0).take w).length := by rw [hl]
  generalize (b.drop k0).take w = t at *
  subst hl
  refine at_l b hb k0 t ht (by omega) hw4 _ _ t.length 0 _ _ _ _ _ _ _ _ _ _ _ _ _ _ _ _ _ _ _ _ _ _ _ _ _ _ _ _ _ rfl (Nat.zero_le _) ?_
  intro i' g0 g2 g4 g5 g8 g9 g10 g11 g12 g13 g14 g15 g16 g19 g20 g21 g22 g23 g24 g25 g26 g27 g28 g29 g30 g31 g32 g33 g34
  simp (maxSteps := 1000000) (disch := first | assumption | omega | rfl) only [↓vmp, vme, vmb, ty, hP, dec_t, dec_f, wrap64, List.length_map, Int.toNat_natCast, Nat.reduceAdd, List.cons_append, List.nil_append, Option.map_some, Option.map_none, strOf_mk, sb_eql, sb_neq, vmg, ↓vgd, ↓vst, ↓vix]
  exact retQ_one rfl rfl rfl
theorem u32_mod {n : Int} : IntKind.u32.wrap n = n % 4294967296 := rfl
theorem xor_at {h : Nat} {x : UInt8} (hh : h < 4294967296) : binV Try.prog .xor 139 (.d (.int .u32 (h : Int))) (.d (.int .u32 (x.toNat : Int))) = some (.d (.int .u32 ((h ^^^ x.toNat : Nat) : Int))) := by
  have hx : x.toNat < 256 := x.toNat_lt
  have e1 : BitVec.ofInt IntKind.u32.bits (h : Int) = BitVec.ofNat 32 h := BitVec.ofInt_natCast ..
  have e2 : BitVec.ofInt IntKind.u32.bits (x.toNat : Int) = BitVec.ofNat 32 x.toNat := BitVec.ofInt_natCast ..
  have e3 : (BitVec.ofNat 32 h ^^^ BitVec.ofNat 32 x.toNat).toNat = h ^^^ x.toNat := by
    rw [BitVec.toNat_xor, BitVec.toNat_ofNat, BitVec.toNat_ofNat, Nat.mod_eq_of_lt (by omega), Nat.mod_eq_of_lt (by omega)]
  have hlt : h ^^^ x.toNat < 4294967296 := Nat.xor_lt_two_pow (n := 32) hh (by omega)
  simp only [binV, intBin, e1, e2]
  show some (V.d (.int .u32 (IntKind.u32.wrap (((BitVec.ofNat 32 h ^^^ BitVec.ofNat 32 x.toNat).toNat : Nat) : Int)))) = _
  rw [e3, u32_mod]
  congr 3
  omega
theorem mul_at {h : Nat} {x : UInt8} : binV Try.prog .mul 139 (.d (.int .u32 ((h ^^^ x.toNat : Nat) : Int))) (.d (.int .u32 16777619)) = some (.d (.int .u32 (mixS h x : Int))) := by
  have : IntKind.u32.wrap (((h ^^^ x.toNat : Nat) : Int) * 16777619) = (mixS h x : Int) := by
    rw [u32_mod]; unfold mixS; omega
  simp only [binV, intBin, this]
  rfl
theorem cv5139 {S : Store} {x : UInt8} : convertV Try.prog S 5 139 (.d (.int .u8 (x.toNat : Int))) = some (.d (.int .u32 (x.toNat : Int)), 0) := by
  have h1 : Try.prog.underlying 5 = some (.int .u8) := by kernel_rfl
  have h2 : Try.prog.underlying 139 = some (.int .u32) := by kernel_rfl
  have hx : x.toNat < 256 := x.toNat_lt
  simp only [convertV, h1, h2]
  have : IntKind.u32.wrap (x.toNat : Int) = (x.toNat : Int) := by rw [u32_mod]; omega
  rw [this]
theorem mixL_snoc {s : List UInt8} {x : UInt8} {h : Nat} : mixL h (s ++ [x]) = mixS (mixL h s) x := by
  unfold mixL
  rw [List.foldl_append, List.foldl_cons, List.foldl_nil]
theorem mixL_take {s : List UInt8} {i h : Nat} (hi : i < s.length) : mixL h (s.take (i + 1)) = mixS (mixL h (s.take i)) s[i] := by
  rw [List.take_succ_eq_append_getElem hi, mixL_snoc]
theorem more_l (s : List UInt8) (hs : s.length ≤ 1000000) (h : Nat) (hh : h < 4294967296) (x4 : V) (R : Post) (S : Store) : ∀ (k i : Nat) (g2 g3 g5 g6 g9 g10 g11 g12 g13 g14 g15 g16 g17 g18 g19 : V), s.length - i = k → i ≤ s.length →
   (∀ i' g2 g3 g5 g6 g9 g10 g11 g12 g13 g14 g15 g16 g17 g18 g19, R (.exit 0) ((.d (.int .u32 (mixL h s : Int))) :: (.d (.str s)) :: g2 :: g3 :: x4 :: g5 :: g6 :: (.d (.int .i64 (s.length : Int))) :: i' :: g9 :: g10 :: g11 :: g12 :: g13 :: g14 :: g15 :: g16 :: g17 :: g18 :: g19 :: []) S []) →
   Wp cfg (.loop (lpOf (Try.f117.body.getD .skip) 0)) ((.d (.int .u32 (mixL h (s.take i) : Int))) :: (.d (.str s)) :: g2 :: g3 :: x4 :: g5 :: g6 :: (.d (.int .i64 (s.length : Int))) :: (.d (.int .i64 (i : Int))) :: g9 :: g10 :: g11 :: g12 :: g13 :: g14 :: g15 :: g16 :: g17 :: g18 :: g19 :: []) S [] R := by
  intro k
  induction k with
  | zero =>
    intro i g2 g3 g5 g6 g9 g10 g11 g12 g13 g14 g15 g16 g17 g18 g19 hk hi hR
    have hie : i = s.length := by omega
    subst hie
    rw [List.take_length]
    rw [wk_of]
    refine wk_loop ?_
    conv => arg 2; whnf
    simp (maxSteps := 1000000) (disch := first | assumption | omega | rfl) only [↓vmp, vme, vmb, ty, hP, dec_t, dec_f, wrap64, List.length_map, Int.toNat_natCast, Nat.reduceAdd, List.cons_append, List.nil_append, Option.map_some, Option.map_none, strOf_mk, sb_eql, sb_neq, vmg, ↓vgd, ↓vst, ↓vix]
    exact hR _ _ _ _ _ _ _ _ _ _ _ _ _ _ _ _
  | succ k ih =>
    intro i g2 g3 g5 g6 g9 g10 g11 g12 g13 g14 g15 g16 g17 g18 g19 hk hi hR
    have hlt : i < s.length := by omega
    have h3 : IntKind.i64.wrap ((i : Int) + 1) = ((i + 1 : Nat) : Int) := by rw [wrap64 (by omega)]; omega
    have hix := ixstr hlt
    have hcx := fun S => cv5139 (S := S) (x := s[i])
    have hlt2 := mixL_lt (s.take i) h hh
    have hxo := xor_at (x := s[i]) hlt2
    have hmu := mul_at (h := mixL h (s.take i)) (x := s[i])
    rw [← mixL_take hlt] at hmu
    rw [wk_of]
    refine wk_loop ?_
    conv => arg 2; whnf
    simp (maxSteps := 1000000) (disch := first | assumption | omega | rfl) only [↓vmp, vme, vmb, ty, hP, dec_t, dec_f, wrap64, List.length_map, Int.toNat_natCast, Nat.reduceAdd, List.cons_append, List.nil_append, Option.map_some, Option.map_none, strOf_mk, sb_eql, sb_neq, vmg, ↓vgd, ↓vst, ↓vix, h3, hix, hcx, hxo, hmu]
    exact ih (i + 1) _ _ _ _ _ _ _ _ _ _ _ _ _ _ _ (by omega) (by omega) hR
theorem more_ok (s : List UInt8) (hs : s.length ≤ 1000000) (h : Nat) (hh : h < 4294967296) : Ev cfg 117 [.int .u32 (h : Int), .str s] (.ret (.d (.int .u32 (mixL h s : Int)))) := by
  refine ev_of rfl rfl body117 ?_
  show Wp cfg (Try.f117.body.getD .skip) ((.d (.int .u32 (h : Int))) :: (.d (.str s)) :: (.tup []) :: (.tup []) :: (.tup []) :: (.tup []) :: (.tup []) :: (.tup []) :: (.tup []) :: (.tup []) :: (.tup []) :: (.tup []) :: (.tup []) :: (.tup []) :: (.tup []) :: (.tup []) :: (.tup []) :: (.tup []) :: (.tup []) :: (.tup []) :: []) [] [] _
  conv => arg 2; whnf
  simp (maxSteps := 1000000) (disch := first | assumption | omega | rfl) only [↓vmp, vme, vmb, ty, hP, dec_t, dec_f, wrap64, List.length_map, Int.toNat_natCast, Nat.reduceAdd, List.cons_append, List.nil_append, Option.map_some, Option.map_none, strOf_mk, sb_eql, sb_neq, vmg, ↓vgd, ↓vst, ↓vix]
  refine more_l s hs h hh _ _ _ s.length 0 _ _ _ _ _ _ _ _ _ _ _ _ _ _ _ rfl (Nat.zero_le _) ?_
  intro i' g2 g3 g5 g6 g9 g10 g11 g12 g13 g14 g15 g16 g17 g18 g19
  simp (maxSteps := 1000000) (disch := first | assumption | omega | rfl) only [↓vmp, vme, vmb, ty, hP, dec_t, dec_f, wrap64, List.length_map, Int.toNat_natCast, Nat.reduceAdd, List.cons_append, List.nil_append, Option.map_some, Option.map_none, strOf_mk, sb_eql, sb_neq, vmg, ↓vgd, ↓vst, ↓vix]
  exact retQ_one rfl rfl rfl
section
variable {ops : Array Oper} {dst : Option Tmp} {k : List Oper} {T : List V} {S : Store} {F : Dfs} {Q : Post}
theorem call_more {s : List UInt8} (hs : s.length ≤ 1000000) : WpR cfg ops dst k T S F Q (some (.enter 117 [.d (.int .u32 2166136261), .d (.str s)])) = WpL cfg ops k (putT T dst (.d (.int .u32 (hashL s : Int)))) S F Q :=
  wr_call_d (ds := [.int .u32 2166136261, .str s]) rfl (more_ok s hs 2166136261 (by decide))
end
theorem mix_ok (s : List UInt8) (hs : s.length ≤ 1000000) : Ev cfg 90 [.str s] (.ret (.d (.int .u32 (hashL s : Int)))) := by
  refine ev_of rfl rfl body90 ?_
  show Wp cfg (Try.f90.body.getD .skip) ((.d (.str s)) :: (.tup []) :: (.tup []) :: (.tup []) :: (.tup []) :: []) [] [] _
  conv => arg 2; whnf
  simp (maxSteps := 1000000) (disch := first | assumption | omega | rfl) only [↓vmp, vme, vmb, ty, hP, dec_t, dec_f, wrap64, List.length_map, Int.toNat_natCast, Nat.reduceAdd, List.cons_append, List.nil_append, Option.map_some, Option.map_none, strOf_mk, sb_eql, sb_neq, vmg, ↓vgd, ↓vst, ↓vix, call_more hs, bo117]
  exact retQ_one rfl rfl rfl
end Go.Proofs.Ytobgdmgldagjkaa
end
/-! super.Put, super.Get: the first block of a device. -/
section
set_option linter.unusedVariables false
set_option linter.unusedSimpArgs false
set_option maxRecDepth 100000
set_option maxHeartbeats 4000000
namespace Go.Proofs.Ytobgdmgldagjkaa
open Go.Vm
section
variable {ops : Array Oper} {dst : Option Tmp} {k : List Oper} {T : List V} {S : Store} {F : Dfs} {Q : Post}
theorem wl_pair' {o o2 : Oper} {T2 : List V} (h : litPair cfg.P T o (o2 :: k) = some T2) : WpL cfg ops (o :: o2 :: k) T S F Q = WpL cfg ops k T2 S F Q := by
  have e : ∀ n, seqV cfg (run cfg n) ops (o :: o2 :: k) T S F = seqV cfg (run cfg n) ops k T2 S F := fun n => by
    conv => lhs; unfold seqV
    simp only [h]
  unfold WpL
  simp only [e]
theorem wl_magic {d : Nat} {dst2 : Option Tmp} {ty ty2 : TypeId} {pos pos2 : String} {af af2 : Array Edge} (hd : Nat.ble (d + 1) T.length = true) :
    WpL cfg ops (⟨some d, .buildSlice 40 8 #[(0, .const (.int .u8 101)), (1, .const (.int .u8 115)), (2, .const (.int .u8 99)), (3, .const (.int .u8 104)), (4, .const (.int .u8 101)), (5, .const (.int .u8 97)), (6, .const (.int .u8 116)), (7, .const (.int .u8 49))], ty, pos, af, none⟩ :: ⟨dst2, .convert 40 40 (.tmp d), ty2, pos2, af2, none⟩ :: k) T S F Q = WpL cfg ops k (putT (putT T (some d) .junk) dst2 (.ts (magicB.map byD))) S F Q := by
  refine wl_pair' ?_
  have hd' : d < T.length := Nat.le_of_ble_eq_true hd
  have hu : Try.prog.underlying 40 = some (.slice 5) := Try.underlying40
  unfold litPair
  simp only
  rw [if_pos ⟨rfl, rfl, trivial, trivial, trivial, hd'⟩]
  rfl
end
theorem nl65536 : ((65536 : Nat) : Int) = 65536 := rfl
theorem call_check {ops : Array Oper} {dst : Option Tmp} {k : List Oper} {T : List V} {S : Store} {F : Dfs} {Q : Post} {l : Lay} (hb : InB l.blocks) (hi : InB l.inodes) : WpR cfg ops dst k T S F Q (some (.enter 67 [.d (encLay l)])) = WpL cfg ops k (putT T dst (.d (.int .i64 (if MayL l then 0 else 1)))) S F Q :=
  wr_call_d (ds := [encLay l]) rfl (check_ok l hb hi)
theorem call_Of {ops : Array Oper} {dst : Option Tmp} {k : List Oper} {T : List V} {S : Store} {F : Dfs} {Q : Post} : WpR cfg ops dst k T S F Q (some (.enter 86 [.ts (magicB.map byD)])) = WpL cfg ops k (putT T dst (.d (blkD (magicB ++ zeros 248)))) S F Q :=
  wr_call_v (ds := [encB magicB]) rfl (by kernel_rfl) (by kernel_rfl) (by rw [← (sup_way 0 0 0).1]; exact Of_ok magicB (by decide))
theorem cut_call {ops : Array Oper} {dst : Option Tmp} {k : List Oper} {T : List V} {S : Store} {F : Dfs} {Q : Post} {b : List UInt8} (hb : b.length = 256) {k0 n : Nat} (hn : 1 ≤ n) (hk0 : k0 + n ≤ 256) : WpR cfg ops dst k T S F Q (some (.enter 69 [.d (blkD b), .d (.int .i64 (k0 : Int)), .d (.int .i64 (n : Int))])) = WpL cfg ops k (putT T dst (.d (encB ((b.drop k0).take n)))) S F Q :=
  wr_call_d (ds := [blkD b, .int .i64 (k0 : Int), .int .i64 (n : Int)]) rfl (cut_ok b hb k0 n hn hk0)
theorem mix_call {ops : Array Oper} {dst : Option Tmp} {k : List Oper} {T : List V} {S : Store} {F : Dfs} {Q : Post} {s : List UInt8} (hs : s.length ≤ 1000000) : WpR cfg ops dst k T S F Q (some (.enter 90 [.d (.str s)])) = WpL cfg ops k (putT T dst (.d (.int .u32 (hashL s : Int)))) S F Q :=
  wr_call_d (ds := [.str s]) rfl (mix_ok s hs)
theorem bytesD_B {l : List UInt8} : bytesD (l.map fun b => V.d (.int .u8 b.toNat)) = some l := by
  induction l with
  | nil => rfl
  | cons b r ih =>
    simp only [List.map_cons, bytesD, ih]
    rw [Int.toNat_natCast, UInt8.ofNat_toNat]
theorem retQ_ct {P : Program} {T : List V} {S : Store} {t a u : Nat} {v w x : V} {d e : D} (hv : T.getD t (.tup []) = v) (ha : T.getD a (.tup []) = w) (hl : loadV P S u w = some x) (h1 : v.one = true) (h2 : x.one = true) (h3 : Go.Vm.frz S frzFuel v = some d) (h4 : Go.Vm.frz S frzFuel x = some e) : RetQ P #[.cell a u, .tmp t] (.ret (.tup [.d e, .d d])) .ret T S [] :=
  retQ_many (r1 := .cell a u) (r2 := .tmp t) (l := []) (vs := [x, v]) (ds := [e, d]) (by simp only [allO, resultV, hv, ha, hl]) (by simp [h1, h2]) (by simp only [allO, h3, h4])
theorem eqLs_self : ∀ l : List UInt8, eqLs Try.prog 5 l.length (l.map byD) (l.map byD) = some true
  | [] => rfl
  | x :: r => by
    have h : eqLeaf Try.prog 5 (byD x) (byD x) = some true := by
      have h5 : Try.prog.underlying 5 = some (.int .u8) := by kernel_rfl
      simp [eqLeaf, h5, byD]
    simp only [List.length_cons, List.map_cons, eqLs, h, eqLs_self r]
theorem neq42 {b : List UInt8} (hb : b.length = 256) : binV Try.prog .neq 42 (.d (blkD b)) (.d (blkD b)) = some (.d (.bool false)) := by
  have h1 : ptrT Try.prog 42 = false := by kernel_rfl
  have h2 : mapT Try.prog 42 = false := by kernel_rfl
  have h3 : fnT Try.prog 42 = false := by kernel_rfl
  have h4 : Try.prog.eqGuardType Try.prog.depth 42 = false := by kernel_rfl
  have h5 : sz Try.prog 5 = some 1 := by kernel_rfl
  have h6 := eqLs_self b
  rw [hb] at h6
  have h7 : eqD Try.prog 8 42 (.agg (b.map byD)) (.agg (b.map byD)) = some true := by
    simp only [eqD, Try.underlying42, h5, h6]
    rfl
  have h8 : eqV Try.prog 42 (.d (.agg (b.map byD))) (.d (.agg (b.map byD))) = some true := by
    simp only [eqV, h1, h2, h3, asD, h4, h7, Bool.false_eq_true, if_false]
  show (eqV Try.prog 42 (.d (.agg (b.map byD))) (.d (.agg (b.map byD)))).map (fun b => V.d (.bool (!b))) = _
  rw [h8]
  rfl
theorem cv409 {S : Store} {l : List UInt8} : convertV Try.prog S 40 9 (.d (encB l)) = some (.d (.str l), 1) := by
  have hu : Try.prog.underlying 9 = some .string := by kernel_rfl
  have h5 : Try.prog.underlying 5 = some (.int .u8) := by kernel_rfl
  unfold encB
  simp only [convertV, Try.underlying40, hu, h5, elemsV, List.map_map, Function.comp_def, bytesD_B, Option.map_some]
theorem cv1393 {S : Store} {h : Nat} (hh : h < 4294967296) : convertV Try.prog S 139 3 (.d (.int .u32 (h : Int))) = some (.d (.int .i64 (h : Int)), 0) := by
  have h1 : Try.prog.underlying 139 = some (.int .u32) := by kernel_rfl
  have h2 : Try.prog.underlying 3 = some (.int .i64) := by kernel_rfl
  simp only [convertV, h1, h2]
  rw [wrap64 (by omega)]
theorem len_lay0 {n v : Nat} : layB (zeros n) 0 (leB n v) = leB n v := by
  have := layB_end (a := []) (n := n) (d := leB n v) (by rw [leB_len]; omega)
  rw [leB_len, Nat.sub_self] at this
  simpa [zeros] using this
theorem dr_put {ops : Array Oper} {F : Dfs} {Q : Post} {K : List Nat → List (Nat × Nat) → List V → Store → Prop} {rd : List Nat} {cs : List (Nat × Nat)} {i id : Nat} {dst : Option Tmp} {T : List V} {S : Store} {M : Nat} (hr : S[id]? = some (.row (List.replicate 8 (.d (.int .u8 0))) 5)) :
    WpE cfg ops F Q K rd cs i dst T S (some (.enter 88 [.rs id 0 8, .d (.int .i64 0), .d (.int .i64 8), .d (.int .u64 (M : Int))])) = (bitsOk ops rd i 3 ∧ K rd (cs ++ [(i, 3)]) (putT T dst (.tup [.d (encB (leB 8 M)), .d (.bool true)])) (S.set id (.fz ((zeros 8).map byD) 5))) := by
  have hr' : S[id]? = some (rowY (zeros 8)) := hr
  have hr2 : S[id]? = some (.row (((zeros 8).map byD).map .d) 5) := hr
  refine we_call_row (ds := [encB (zeros 8), .int .i64 ((0 : Nat) : Int), .int .i64 ((8 : Nat) : Int), .int .u64 (M : Int)]) rfl ?_ ?_ hr2 rfl ?_
  · have h1 : Go.Vm.frz S frzFuel (.rs id 0 8) = some (encB (zeros 8)) := frz_Y hr' rfl
    simp only [allO, frz_d, h1]
    rfl
  · have h1 : frzIds S frzFuel (.rs id 0 8) = [id] := by
      show (match S[id]? with | some (.row xs e) => id :: xs.flatMap (frzIds S 11) | _ => []) = _
      rw [hr2]
      simp only [flat_d]
    simp only [List.flatMap_cons, h1, List.flatMap_nil, frzIds_d, List.append_nil]
  · have := put_ok (zeros 8) (by decide) (by decide) 0 8 M (by decide) (by omega) (by omega)
    rw [len_lay0] at this
    exact this
theorem put_sup (l : Lay) (B I M : Nat) (hl : l = ⟨(B : Int), (I : Int), (M : Int)⟩) (hB : B ≤ 512) (hI : I ≤ 128) (hM : M < 18446744073709551616) (hm : MayL l) : Ev cfg 48 [encLay l] (.ret (.tup [.d (blkD (supB B I M)), .d (.int .i64 0)])) := by
  refine ev_of rfl rfl body48 ?_
  show Wp cfg (Try.f48.body.getD .skip) ((.d (encLay l)) :: (.tup []) :: (.tup []) :: (.tup []) :: (.tup []) :: (.tup []) :: (.tup []) :: (.tup []) :: (.tup []) :: (.tup []) :: (.tup []) :: (.tup []) :: (.tup []) :: (.tup []) :: (.tup []) :: (.tup []) :: (.tup []) :: (.tup []) :: (.tup []) :: (.tup []) :: (.tup []) :: (.tup []) :: (.tup []) :: (.tup []) :: (.tup []) :: (.tup []) :: (.tup []) :: (.tup []) :: (.tup []) :: (.tup []) :: (.tup []) :: (.tup []) :: (.tup []) :: (.tup []) :: (.tup []) :: (.tup []) :: (.tup []) :: (.tup []) :: (.tup []) :: (.tup []) :: (.tup []) :: (.tup []) :: (.tup []) :: (.tup []) :: []) [] [] _
  conv => arg 2; whnf
  have hc := fun {ops dst k T S F Q} => call_check (ops := ops) (dst := dst) (k := k) (T := T) (S := S) (F := F) (Q := Q) (l := l) (by subst hl; unfold InB; simp only; omega) (by subst hl; unfold InB; simp only; omega)
  rw [if_pos hm] at hc
  subst hl
  obtain ⟨w1, w2, w3, w4, w5, w6⟩ := sup_way B I M
  have l1 : (magicB ++ zeros 248).length = 256 := by decide
  have l2 : ((magicB ++ leB 2 B) ++ zeros 246).length = 256 := by simp [magicB, leB_len, zeros_len]
  have l3 : ((magicB ++ leB 2 B ++ leB 2 I) ++ zeros 244).length = 256 := by simp [magicB, leB_len, zeros_len]
  have l4 : (supL B I M ++ zeros 236).length = 256 := by rw [List.length_append, supL_len, zeros_len]
  have l5 := supB_len B I M
  have hx := hashL_lt (supL B I M)
  have c1 := fun {ops dst k T S F Q} => call_with (ops := ops) (dst := dst) (k := k) (T := T) (S := S) (F := F) (Q := Q) (u := .d (blkD (magicB ++ zeros 248))) (b := magicB ++ zeros 248) isB_d l1 (k0 := 8) (w := 2) (v := B) (by omega) (by omega) (by omega)
  have c2 := fun {ops dst k T S F Q} => call_with (ops := ops) (dst := dst) (k := k) (T := T) (S := S) (F := F) (Q := Q) (u := .d (blkD ((magicB ++ leB 2 B) ++ zeros 246))) isB_d l2 (k0 := 10) (w := 2) (v := I) (by omega) (by omega) (by omega)
  have c3 := fun {ops dst k T S F Q} => call_lay (ops := ops) (dst := dst) (k := k) (T := T) (S := S) (F := F) (Q := Q) (u := .d (blkD ((magicB ++ leB 2 B ++ leB 2 I) ++ zeros 244))) (d := leB 8 M) isB_d l3 (k0 := 12) (by omega) (by rw [leB_len]; omega)
  have c4 := fun {ops dst k T S F Q} => cut_call (ops := ops) (dst := dst) (k := k) (T := T) (S := S) (F := F) (Q := Q) l4 (k0 := 0) (n := 20) (by omega) (by omega)
  have c5 := fun {ops dst k T S F Q} => mix_call (ops := ops) (dst := dst) (k := k) (T := T) (S := S) (F := F) (Q := Q) (s := supL B I M) (by rw [supL_len]; omega)
  have c6 := fun {ops dst k T S F Q} => call_with (ops := ops) (dst := dst) (k := k) (T := T) (S := S) (F := F) (Q := Q) (u := .d (blkD (supL B I M ++ zeros 236))) isB_d l4 (k0 := 20) (w := 4) (v := hashL (supL B I M)) (by omega) (by omega) (by omega)
  rw [w2] at c1
  rw [w3] at c2
  rw [w4] at c3
  rw [w5] at c4
  rw [w6] at c6
  simp only [nl0, nl1, nl2, nl4, nl8, nl10, nl12, nl16, nl20, nl256] at c1 c2 c3 c4 c5 c6
  have l0 := z256
  have hcv := fun S => cv1393 (S := S) hx
  simp (maxSteps := 1000000) (disch := first | assumption | omega | rfl) only [↓vmp, vme, vmb, ty, hP, dec_t, dec_f, wrap64, List.length_map, Int.toNat_natCast, Nat.reduceAdd, List.cons_append, List.nil_append, Option.map_some, Option.map_none, strOf_mk, sb_eql, sb_neq, vmg, ↓vgd, ↓vst, ↓vix, z42, zf42, hc, bo67]
  rw [wl_magic (by kernel_rfl)]
  simp (maxSteps := 1000000) (disch := first | assumption | omega | rfl) only [↓vmp, vme, vmb, ty, hP, dec_t, dec_f, wrap64, List.length_map, Int.toNat_natCast, Nat.reduceAdd, List.cons_append, List.nil_append, Option.map_some, Option.map_none, strOf_mk, sb_eql, sb_neq, vmg, ↓vgd, ↓vst, ↓vix, z42, zf42, call_Of, bo86, c1, c2, bo87, sdd42, sdv42, ldd42, ldv42]
  have hroom : room Try.prog 5 (8 : Int).toNat = true := by kernel_rfl
  have hz0 : fitsT Try.prog 5 (.d (.int .u8 0)) = true := by kernel_rfl
  have z5 : zeroV Try.prog 5 = some (.d (.int .u8 0)) := by kernel_rfl
  refine wk_draw (is := [1, 2, 0, 3, 4, 5, 6, 7, 8]) (h := 9) (by kernel_rfl) (by kernel_rfl) ?_
  simp (maxSteps := 1000000) (disch := first | assumption | omega | rfl) only [List.replicate_zero, eq_self, vmd, vmk, vmo, vmg, vme, vmb, ty, hP, dec_t, dec_f, wrap64, List.length_map, Int.toNat_natCast, Nat.reduceAdd, ↓vgd, ↓vst, ↓vix, vso, wa_some, ak_make, ad_make Try.underlying40 z5, mk_in hroom hz0, true_and]
  rw [show Int.toNat 8 = 8 from rfl, dr_put rfl]
  refine ⟨fun _ => by kernel_rfl, ?_⟩
  simp (maxSteps := 1000000) (disch := first | assumption | omega | rfl) only [List.replicate_zero, eq_self, vmd, vmk, vmo, vmg, vme, vmb, ty, hP, dec_t, dec_f, wrap64, List.length_map, Int.toNat_natCast, Nat.reduceAdd, ↓vgd, ↓vst, ↓vix, vso]
  refine ⟨by kernel_rfl, ?_⟩
  simp (maxSteps := 1000000) (disch := first | assumption | omega | rfl) only [↓vmp, vme, vmb, ty, hP, dec_t, dec_f, wrap64, List.length_map, Int.toNat_natCast, Nat.reduceAdd, List.cons_append, List.nil_append, Option.map_some, Option.map_none, strOf_mk, sb_eql, sb_neq, vmg, ↓vgd, ↓vst, ↓vix, c3, bo89, c4, bo69, c5, bo90, c6, bo87, cv409, hcv, sdd42, sdv42, ldd42, ldv42]
  exact retQ_ct rfl rfl ((loadV_row rfl).trans (ldd42 l5)) rfl rfl rfl rfl
theorem put_bad (l : Lay) (hb : InB l.blocks) (hi : InB l.inodes) (hm : ¬ MayL l) : Ev cfg 48 [encLay l] (.ret (.tup [.d (blkD (zeros 256)), .d (.int .i64 1)])) := by
  refine ev_of rfl rfl body48 ?_
  show Wp cfg (Try.f48.body.getD .skip) ((.d (encLay l)) :: (.tup []) :: (.tup []) :: (.tup []) :: (.tup []) :: (.tup []) :: (.tup []) :: (.tup []) :: (.tup []) :: (.tup []) :: (.tup []) :: (.tup []) :: (.tup []) :: (.tup []) :: (.tup []) :: (.tup []) :: (.tup []) :: (.tup []) :: (.tup []) :: (.tup []) :: (.tup []) :: (.tup []) :: (.tup []) :: (.tup []) :: (.tup []) :: (.tup []) :: (.tup []) :: (.tup []) :: (.tup []) :: (.tup []) :: (.tup []) :: (.tup []) :: (.tup []) :: (.tup []) :: (.tup []) :: (.tup []) :: (.tup []) :: (.tup []) :: (.tup []) :: (.tup []) :: (.tup []) :: (.tup []) :: (.tup []) :: (.tup []) :: []) [] [] _
  conv => arg 2; whnf
  have hc := fun {ops dst k T S F Q} => call_check (ops := ops) (dst := dst) (k := k) (T := T) (S := S) (F := F) (Q := Q) (l := l) hb hi
  rw [if_neg hm] at hc
  have l0 := z256
  simp (maxSteps := 1000000) (disch := first | assumption | omega | rfl) only [↓vmp, vme, vmb, ty, hP, dec_t, dec_f, wrap64, List.length_map, Int.toNat_natCast, Nat.reduceAdd, List.cons_append, List.nil_append, Option.map_some, Option.map_none, strOf_mk, sb_eql, sb_neq, vmg, ↓vgd, ↓vst, ↓vix, z42, zf42, hc, bo67, bd42, svv42]
  exact retQ_ct rfl rfl ((loadV_row rfl).trans (ldv42 z256)) rfl one_v rfl frz_v
section
variable {ops : Array Oper} {dst : Option Tmp} {k : List Oper} {T : List V} {S : Store} {F : Dfs} {Q : Post}
theorem call_get8 {b : List UInt8} (hb : b.length = 8) : WpR cfg ops dst k T S F Q (some (.enter 97 [.d (encB b), .d (.int .i64 0), .d (.int .i64 8)])) = WpL cfg ops k (putT T dst (.tup [.d (.int .u64 (leN b : Int)), .d (.bool true)])) S F Q := by
  have := get_ok b (by omega) 0 8 (by omega) (by omega) (by omega)
  rw [List.drop_zero, List.take_of_length_le (by omega)] at this
  exact wr_call_d (ds := [encB b, .int .i64 0, .int .i64 8]) rfl this
theorem call_sput {l : Lay} {v : V} (h : Ev cfg 48 [encLay l] (.ret v)) : WpR cfg ops dst k T S F Q (some (.enter 48 [.d (encLay l)])) = WpL cfg ops k (putT T dst v) S F Q :=
  wr_call_d (ds := [encLay l]) rfl h
theorem bd24 {a b : Int} {c : Int} : buildV Try.prog 24 [(0, .d (.int .i64 a)), (1, .d (.int .i64 b)), (2, .d (.int .u64 c))] = some (.agg [.d (.int .i64 a), .d (.int .i64 b), .d (.int .u64 c)]) := by kernel_rfl
theorem bd24z : buildV Try.prog 24 [] = some (.agg [.d (.int .i64 0), .d (.int .i64 0), .d (.int .u64 0)]) := by kernel_rfl
end
theorem st24 {a b a' b' : Int} {c c' : Int} : storeR Try.prog 24 0 (.agg [.d (.int .i64 a), .d (.int .i64 b), .d (.int .u64 c)]) (.agg [.d (.int .i64 a'), .d (.int .i64 b'), .d (.int .u64 c')]) = some (.agg [.d (.int .i64 a), .d (.int .i64 b), .d (.int .u64 c)]) := by kernel_rfl
theorem call_lv {ops : Array Oper} {dst : Option Tmp} {k : List Oper} {T : List V} {S : Store} {F : Dfs} {Q : Post} {a b : Int} {c : Int} {v : V} (h : Ev cfg 48 [.agg [.int .i64 a, .int .i64 b, .int .u64 c]] (.ret v)) : WpR cfg ops dst k T S F Q (some (.enter 48 [.agg [.d (.int .i64 a), .d (.int .i64 b), .d (.int .u64 c)]])) = WpL cfg ops k (putT T dst v) S F Q :=
  wr_call_v (ds := [.agg [.int .i64 a, .int .i64 b, .int .u64 c]]) rfl rfl rfl h
theorem dr_at {ops : Array Oper} {F : Dfs} {Q : Post} {K : List Nat → List (Nat × Nat) → List V → Store → Prop} {rd : List Nat} {cs : List (Nat × Nat)} {i : Nat} {dst : Option Tmp} {T : List V} {S : Store} {b : List UInt8} (hb : b.length = 256) {k0 w : Nat} (hk0 : k0 + w ≤ 256) (hw1 : 1 ≤ w) (hw4 : w ≤ 4) :
    WpE cfg ops F Q K rd cs i dst T S (some (.enter 98 [.d (blkD b), .d (.int .i64 (k0 : Int)), .d (.int .i64 (w : Int))])) = K (i :: rd) (cs ++ [(i, 1)]) (putT T dst (.d (.int .i64 (leN ((b.drop k0).take w) : Int)))) S :=
  we_call_v (ds := [blkD b, .int .i64 (k0 : Int), .int .i64 (w : Int)]) rfl rfl rfl (at_ok b hb k0 w hk0 hw1 hw4)
theorem get_sup (B I M : Nat) (hB : B ≤ 512) (hI : I ≤ 128) (hM : M < 18446744073709551616) (hm : MayL ⟨(B : Int), (I : Int), (M : Int)⟩) : Ev cfg 57 [blkD (supB B I M)] (.ret (.tup [.d (encLay ⟨(B : Int), (I : Int), (M : Int)⟩), .d (.int .i64 0)])) := by
  refine ev_of rfl rfl body57 ?_
  show Wp cfg (Try.f57.body.getD .skip) ((.d (blkD (supB B I M))) :: (.tup []) :: (.tup []) :: (.tup []) :: (.tup []) :: (.tup []) :: (.tup []) :: (.tup []) :: (.tup []) :: (.tup []) :: (.tup []) :: (.tup []) :: (.tup []) :: (.tup []) :: (.tup []) :: (.tup []) :: (.tup []) :: (.tup []) :: (.tup []) :: (.tup []) :: (.tup []) :: (.tup []) :: (.tup []) :: (.tup []) :: (.tup []) :: (.tup []) :: (.tup []) :: (.tup []) :: (.tup []) :: (.tup []) :: (.tup []) :: (.tup []) :: (.tup []) :: (.tup []) :: (.tup []) :: []) [] [] _
  conv => arg 2; whnf
  have l5 := supB_len B I M
  have hf := fd42 l5
  have hp := put_sup _ B I M rfl hB hI hM hm
  have l0 := z256
  have e1 : ((supB B I M).drop 12).take 8 = leB 8 M := by
    unfold supB supL
    simp [magicB, leB_len, List.drop_append, List.take_append]
  have c1 := fun {ops dst k T S F Q} => cut_call (ops := ops) (dst := dst) (k := k) (T := T) (S := S) (F := F) (Q := Q) l5 (k0 := 12) (n := 8) (by omega) (by omega)
  rw [e1] at c1
  have c2 := fun {ops dst k T S F Q} => call_get8 (ops := ops) (dst := dst) (k := k) (T := T) (S := S) (F := F) (Q := Q) (leB_len 8 M)
  rw [leN_leB, Nat.mod_eq_of_lt (by omega)] at c2
  simp only [nl0, nl1, nl2, nl4, nl8, nl10, nl12, nl16, nl20, nl256] at c1 c2
  simp (maxSteps := 1000000) (disch := first | assumption | omega | rfl) only [↓vmp, vme, vmb, ty, hP, dec_t, dec_f, wrap64, List.length_map, Int.toNat_natCast, Nat.reduceAdd, List.cons_append, List.nil_append, Option.map_some, Option.map_none, strOf_mk, sb_eql, sb_neq, vmg, ↓vgd, ↓vst, ↓vix, hf, c1, c2, bo69, bo97, ldd42]
  have a1 : ((supB B I M).drop 8).take 2 = leB 2 B := by
    unfold supB supL
    simp [magicB, leB_len, List.drop_append, List.take_append]
  have a2 : ((supB B I M).drop 10).take 2 = leB 2 I := by
    unfold supB supL
    simp [magicB, leB_len, List.drop_append, List.take_append]
  have d1 := fun {ops F Q K rd cs i dst T S} => dr_at (ops := ops) (F := F) (Q := Q) (K := K) (rd := rd) (cs := cs) (i := i) (dst := dst) (T := T) (S := S) l5 (k0 := 8) (w := 2) (by omega) (by omega) (by omega)
  have d2 := fun {ops F Q K rd cs i dst T S} => dr_at (ops := ops) (F := F) (Q := Q) (K := K) (rd := rd) (cs := cs) (i := i) (dst := dst) (T := T) (S := S) l5 (k0 := 10) (w := 2) (by omega) (by omega) (by omega)
  rw [a1, leN_leB, Nat.mod_eq_of_lt (by omega)] at d1
  rw [a2, leN_leB, Nat.mod_eq_of_lt (by omega)] at d2
  simp only [nl0, nl1, nl2, nl4, nl8, nl10, nl12, nl16, nl20, nl256] at d1 d2
  refine wk_draw (is := [0, 2, 4, 1, 3, 5, 6, 7]) (h := 8) (by kernel_rfl) (by kernel_rfl) ?_
  simp (maxSteps := 1000000) (disch := first | assumption | omega | rfl) only [List.replicate_zero, eq_self, vmd, vmk, vmo, vmg, vme, vmb, ty, hP, dec_t, dec_f, wrap64, List.length_map, Int.toNat_natCast, Nat.reduceAdd, ↓vgd, ↓vst, ↓vix, vso, d1, d2, bo98, ldd42, bd24, ad_alloc z24 zf24, wa_some, true_and, st24]
  refine ⟨fun _ => by kernel_rfl, ?_⟩
  refine ⟨by kernel_rfl, ?_⟩
  simp (maxSteps := 1000000) (disch := first | assumption | omega | rfl) only [↓vmp, vme, vmb, ty, hP, dec_t, dec_f, wrap64, List.length_map, Int.toNat_natCast, Nat.reduceAdd, List.cons_append, List.nil_append, Option.map_some, Option.map_none, strOf_mk, sb_eql, sb_neq, vmg, ↓vgd, ↓vst, ↓vix, call_lv hp, bo48, z42, zf42, sdv42, ldd42, neq42, st24]
  exact retQ_ct rfl rfl (x := .agg [.d (.int .i64 (B : Int)), .d (.int .i64 (I : Int)), .d (.int .u64 (M : Int))]) ((loadV_row rfl).trans (by kernel_rfl)) rfl rfl rfl rfl
theorem get_bad : Ev cfg 57 [blkD (zeros 256)] (.ret (.tup [.d (encLay ⟨0, 0, 0⟩), .d (.int .i64 13)])) := by
  refine ev_of rfl rfl body57 ?_
  show Wp cfg (Try.f57.body.getD .skip) ((.d (blkD (zeros 256))) :: (.tup []) :: (.tup []) :: (.tup []) :: (.tup []) :: (.tup []) :: (.tup []) :: (.tup []) :: (.tup []) :: (.tup []) :: (.tup []) :: (.tup []) :: (.tup []) :: (.tup []) :: (.tup []) :: (.tup []) :: (.tup []) :: (.tup []) :: (.tup []) :: (.tup []) :: (.tup []) :: (.tup []) :: (.tup []) :: (.tup []) :: (.tup []) :: (.tup []) :: (.tup []) :: (.tup []) :: (.tup []) :: (.tup []) :: (.tup []) :: (.tup []) :: (.tup []) :: (.tup []) :: (.tup []) :: []) [] [] _
  conv => arg 2; whnf
  have l0 := z256
  have hf := fd42 z256
  have hp := put_bad ⟨0, 0, 0⟩ (by unfold InB; simp only; omega) (by unfold InB; simp only; omega) (by unfold MayL; simp only; omega)
  have e1 : ((zeros 256).drop 12).take 8 = zeros 8 := by decide
  have c1 := fun {ops dst k T S F Q} => cut_call (ops := ops) (dst := dst) (k := k) (T := T) (S := S) (F := F) (Q := Q) z256 (k0 := 12) (n := 8) (by omega) (by omega)
  rw [e1] at c1
  have c2 := fun {ops dst k T S F Q} => call_get8 (ops := ops) (dst := dst) (k := k) (T := T) (S := S) (F := F) (Q := Q) (zeros_len 8)
  rw [show leN (zeros 8) = 0 from by decide] at c2
  simp only [nl0, nl1, nl2, nl4, nl8, nl10, nl12, nl16, nl20, nl256] at c1 c2
  have a1 : ((zeros 256).drop 8).take 2 = zeros 2 := by decide
  have a2 : ((zeros 256).drop 10).take 2 = zeros 2 := by decide
  have n2 : leN (zeros 2) = 0 := by decide
  have d1 := fun {ops F Q K rd cs i dst T S} => dr_at (ops := ops) (F := F) (Q := Q) (K := K) (rd := rd) (cs := cs) (i := i) (dst := dst) (T := T) (S := S) z256 (k0 := 8) (w := 2) (by omega) (by omega) (by omega)
  have d2 := fun {ops F Q K rd cs i dst T S} => dr_at (ops := ops) (F := F) (Q := Q) (K := K) (rd := rd) (cs := cs) (i := i) (dst := dst) (T := T) (S := S) z256 (k0 := 10) (w := 2) (by omega) (by omega) (by omega)
  rw [a1, n2] at d1
  rw [a2, n2] at d2
  simp only [nl0, nl1, nl2, nl4, nl8, nl10, nl12, nl16, nl20, nl256] at d1 d2
  simp (maxSteps := 1000000) (disch := first | assumption | omega | rfl) only [↓vmp, vme, vmb, ty, hP, dec_t, dec_f, wrap64, List.length_map, Int.toNat_natCast, Nat.reduceAdd, List.cons_append, List.nil_append, Option.map_some, Option.map_none, strOf_mk, sb_eql, sb_neq, vmg, ↓vgd, ↓vst, ↓vix, hf, c1, c2, bo69, bo97, ldd42]
  refine wk_draw (is := [0, 2, 4, 1, 3, 5, 6, 7]) (h := 8) (by kernel_rfl) (by kernel_rfl) ?_
  simp (maxSteps := 1000000) (disch := first | assumption | omega | rfl) only [List.replicate_zero, eq_self, vmd, vmk, vmo, vmg, vme, vmb, ty, hP, dec_t, dec_f, wrap64, List.length_map, Int.toNat_natCast, Nat.reduceAdd, ↓vgd, ↓vst, ↓vix, vso, d1, d2, bo98, ldd42, bd24, ad_alloc z24 zf24, wa_some, true_and, st24]
  refine ⟨fun _ => by kernel_rfl, ?_⟩
  refine ⟨by kernel_rfl, ?_⟩
  simp (maxSteps := 1000000) (disch := first | assumption | omega | rfl) only [↓vmp, vme, vmb, ty, hP, dec_t, dec_f, wrap64, List.length_map, Int.toNat_natCast, Nat.reduceAdd, List.cons_append, List.nil_append, Option.map_some, Option.map_none, strOf_mk, sb_eql, sb_neq, vmg, ↓vgd, ↓vst, ↓vix, call_lv hp, bo48, z42, zf42, sdv42, ldd42, neq42, st24, bd24z]
  exact retQ_ct rfl rfl (x := .agg [.d (.int .i64 0), .d (.int .i64 0), .d (.int .u64 0)]) ((loadV_row rfl).trans (by kernel_rfl)) rfl rfl rfl rfl
end Go.Proofs.Ytobgdmgldagjkaa
end
/-! geom: where the parts of a device are; chart.Make, table.With: what is laid there. -/
section
set_option linter.unusedVariables false
set_option linter.unusedSimpArgs false
set_option maxRecDepth 100000
set_option maxHeartbeats 4000000
namespace Go.Proofs.Ytobgdmgldagjkaa
open Go.Vm
theorem Map_ok : Ev cfg 50 [] (.ret (.d (.int .i64 1))) := ⟨50, by kernel_rfl⟩
theorem ok_ok (l : Lay) (hb : InB l.blocks) (hi : InB l.inodes) (hm : MayL l) : Ev cfg 112 [encLay l] (.ret (.d (.bool true))) := by
  refine ev_of rfl rfl body112 ?_
  show Wp cfg (Try.f112.body.getD .skip) ((.d (encLay l)) :: (.tup []) :: (.tup []) :: (.tup []) :: (.tup []) :: (.tup []) :: []) [] [] _
  conv => arg 2; whnf
  have hc := fun {ops dst k T S F Q} => call_check (ops := ops) (dst := dst) (k := k) (T := T) (S := S) (F := F) (Q := Q) (l := l) hb hi
  rw [if_pos hm] at hc
  simp (maxSteps := 1000000) (disch := first | assumption | omega | rfl) only [↓vmp, vme, vmb, ty, hP, dec_t, dec_f, wrap64, List.length_map, Int.toNat_natCast, Nat.reduceAdd, List.cons_append, List.nil_append, Option.map_some, Option.map_none, strOf_mk, sb_eql, sb_neq, vmg, ↓vgd, ↓vst, ↓vix, hc, bo67]
  exact retQ_one rfl rfl rfl
theorem Table_ok (l : Lay) (hb : InB l.blocks) (hi : InB l.inodes) (hm : MayL l) : Ev cfg 91 [encLay l] (.ret (.tup [.d (.int .i64 2), .d (.int .i64 (l.inodes.tdiv 8))])) := by
  refine ev_of rfl rfl body91 ?_
  show Wp cfg (Try.f91.body.getD .skip) ((.d (encLay l)) :: (.tup []) :: (.tup []) :: (.tup []) :: (.tup []) :: (.tup []) :: (.tup []) :: (.tup []) :: (.tup []) :: (.tup []) :: (.tup []) :: (.tup []) :: []) [] [] _
  conv => arg 2; whnf
  have hc := fun {ops dst k T S F Q} => wr_call_d (C := cfg) (ops := ops) (dst := dst) (l := k) (T := T) (S := S) (F := F) (Q := Q) (ds := [encLay l]) rfl (ok_ok l hb hi hm)
  have hc : ∀ {ops dst k T S F Q}, WpR cfg ops dst k T S F Q (some (.enter 112 [.d (encLay l)])) = WpL cfg ops k (putT T dst (.d (.bool true))) S F Q := hc
  have hq := quo8 hi
  have hM := fun {ops F Q K rd cs i dst T S} => we_call_d (C := cfg) (ops := ops) (F := F) (Q := Q) (K := K) (rd := rd) (cs := cs) (i := i) (dst := dst) (T := T) (S := S) (ds := []) rfl Map_ok
  simp only [List.map_nil] at hM
  simp (maxSteps := 1000000) (disch := first | assumption | omega | rfl) only [↓vmp, vme, vmb, ty, hP, dec_t, dec_f, wrap64, List.length_map, Int.toNat_natCast, Nat.reduceAdd, List.cons_append, List.nil_append, Option.map_some, Option.map_none, strOf_mk, sb_eql, sb_neq, vmg, ↓vgd, ↓vst, ↓vix, hc, bo112]
  refine wk_draw (is := [2, 3, 4, 0, 1, 5, 6]) (h := 0) (by kernel_rfl) (by kernel_rfl) ?_
  simp (maxSteps := 1000000) (disch := first | assumption | omega | rfl) only [List.replicate_zero, eq_self, vmd, vmk, vmo, vmg, vme, vmb, ty, hP, dec_t, dec_f, wrap64, List.length_map, Int.toNat_natCast, Nat.reduceAdd, ↓vgd, ↓vst, ↓vix, vso, hM, bo50, hq]
  refine ⟨by kernel_rfl, ?_⟩
  simp (maxSteps := 1000000) (disch := first | assumption | omega | rfl) only [↓vmp, vme, vmb, ty, hP, dec_t, dec_f, wrap64, List.length_map, Int.toNat_natCast, Nat.reduceAdd, List.cons_append, List.nil_append, Option.map_some, Option.map_none, strOf_mk, sb_eql, sb_neq, vmg, ↓vgd, ↓vst, ↓vix]
  exact retQ_two rfl rfl rfl rfl rfl rfl
theorem Data_ok (l : Lay) (hb : InB l.blocks) (hi : InB l.inodes) (hm : MayL l) : Ev cfg 51 [encLay l] (.ret (.d (.int .i64 (2 + l.inodes.tdiv 8)))) := by
  refine ev_of rfl rfl body51 ?_
  show Wp cfg (Try.f51.body.getD .skip) ((.d (encLay l)) :: (.tup []) :: (.tup []) :: (.tup []) :: (.tup []) :: (.tup []) :: (.tup []) :: (.tup []) :: (.tup []) :: (.tup []) :: (.tup []) :: (.tup []) :: (.tup []) :: []) [] [] _
  conv => arg 2; whnf
  have hc : ∀ {ops dst k T S F Q}, WpR cfg ops dst k T S F Q (some (.enter 91 [.d (encLay l)])) = WpL cfg ops k (putT T dst (.tup [.d (.int .i64 2), .d (.int .i64 (l.inodes.tdiv 8))])) S F Q := fun {ops dst k T S F Q} => wr_call_d (C := cfg) (ops := ops) (dst := dst) (l := k) (T := T) (S := S) (F := F) (Q := Q) (ds := [encLay l]) rfl (Table_ok l hb hi hm)
  have hd : 0 ≤ l.inodes.tdiv 8 ∧ l.inodes.tdiv 8 ≤ 16 := by
    have h1 := hm.2.2.1
    have h2 := hm.2.2.2.1
    rw [Int.tdiv_eq_ediv_of_nonneg (by omega)]; omega
  have hw : IntKind.i64.wrap (2 + l.inodes.tdiv 8) = 2 + l.inodes.tdiv 8 := wrap64 (by omega)
  simp (maxSteps := 1000000) (disch := first | assumption | omega | rfl) only [↓vmp, vme, vmb, ty, hP, dec_t, dec_f, wrap64, List.length_map, Int.toNat_natCast, Nat.reduceAdd, List.cons_append, List.nil_append, Option.map_some, Option.map_none, strOf_mk, sb_eql, sb_neq, vmg, ↓vgd, ↓vst, ↓vix, hc, bo91, hw]
  exact retQ_one rfl rfl rfl
def upto (n : Nat) : List Int := (List.range n).map fun i : Nat => (i : Int)
theorem upto_succ (n : Nat) : upto (n + 1) = upto n ++ [(n : Int)] := by unfold upto; rw [List.range_succ, List.map_append]; rfl
theorem upto_len (n : Nat) : (upto n).length = n := by unfold upto; simp
def encI (l : List Int) : D := .sl (l.map (D.int .i64))
theorem own_l (l : Lay) (n : Nat) (hn : n ≤ 1000) (R : Post) : ∀ (k i : Nat) (S : Store) (v3 g0 g1 g2 g4 g5 g8 g9 g10 g11 g12 g13 g14 g15 : V), n - i = k → i ≤ n → OwnS S v3 3 ((upto i).map fun x => .d (D.int .i64 x)) →
   (∀ S v3 i' g0 g1 g2 g4 g5 g8 g9 g10 g11 g12 g13 g14 g15, OwnS S v3 3 ((upto n).map fun x => .d (D.int .i64 x)) → R (.exit 0) (g0 :: g1 :: g2 :: v3 :: g4 :: g5 :: (.d (.int .i64 (n : Int))) :: i' :: g8 :: g9 :: g10 :: g11 :: g12 :: g13 :: g14 :: g15 :: []) S []) →
   Wp cfg (.loop (lpOf (Try.f55.body.getD .skip) 0)) (g0 :: g1 :: g2 :: v3 :: g4 :: g5 :: (.d (.int .i64 (n : Int))) :: (.d (.int .i64 (i : Int))) :: g8 :: g9 :: g10 :: g11 :: g12 :: g13 :: g14 :: g15 :: []) S [] R := by
  intro k
  induction k with
  | zero =>
    intro i S v3 g0 g1 g2 g4 g5 g8 g9 g10 g11 g12 g13 g14 g15 hk hi ho hR
    have hie : i = n := by omega
    subst hie
    rw [wk_of]
    refine wk_loop ?_
    conv => arg 2; whnf
    simp (maxSteps := 1000000) (disch := first | assumption | omega | rfl) only [↓vmp, vme, vmb, ty, hP, dec_t, dec_f, wrap64, List.length_map, Int.toNat_natCast, Nat.reduceAdd, List.cons_append, List.nil_append, Option.map_some, Option.map_none, strOf_mk, sb_eql, sb_neq, vmg, ↓vgd, ↓vst, ↓vix]
    exact hR _ _ _ _ _ _ _ _ _ _ _ _ _ _ _ _ ho
  | succ k ih =>
    intro i S v3 g0 g1 g2 g4 g5 g8 g9 g10 g11 g12 g13 g14 g15 hk hi ho hR
    have hlt : i < n := by omega
    have h3 : IntKind.i64.wrap ((i : Int) + 1) = ((i + 1 : Nat) : Int) := by rw [wrap64 (by omega)]; omega
    obtain ⟨v', S', c, ha, ho', hfr, hlen⟩ := ap46 (i : Int) ho (by rw [upto_len]; omega)
    rw [← upto_succ] at ho'
    rw [wk_of]
    refine wk_loop ?_
    conv => arg 2; whnf
    simp (maxSteps := 1000000) (disch := first | assumption | omega | rfl) only [↓vmp, vme, vmb, ty, hP, dec_t, dec_f, wrap64, List.length_map, Int.toNat_natCast, Nat.reduceAdd, List.cons_append, List.nil_append, Option.map_some, Option.map_none, strOf_mk, sb_eql, sb_neq, vmg, ↓vgd, ↓vst, ↓vix, ha, h3]
    exact ih (i + 1) S' v' _ _ _ _ _ _ _ _ _ _ _ _ _ (by omega) (by omega) ho' hR
theorem Own_ok (l : Lay) (n : Nat) (hb : InB l.blocks) (hi : InB l.inodes) (hm : MayL l) (hn : 2 + l.inodes.tdiv 8 = (n : Int)) (hn1 : n ≤ 1000) : Ev cfg 55 [encLay l] (.ret (.d (encI (upto n)))) := by
  refine ev_of rfl rfl body55 ?_
  show Wp cfg (Try.f55.body.getD .skip) ((.d (encLay l)) :: (.tup []) :: (.tup []) :: (.tup []) :: (.tup []) :: (.tup []) :: (.tup []) :: (.tup []) :: (.tup []) :: (.tup []) :: (.tup []) :: (.tup []) :: (.tup []) :: (.tup []) :: (.tup []) :: (.tup []) :: []) [] [] _
  conv => arg 2; whnf
  have hc : ∀ {ops dst k T S F Q}, WpR cfg ops dst k T S F Q (some (.enter 51 [.d (encLay l)])) = WpL cfg ops k (putT T dst (.d (.int .i64 (2 + l.inodes.tdiv 8)))) S F Q := fun {ops dst k T S F Q} => wr_call_d (C := cfg) (ops := ops) (dst := dst) (l := k) (T := T) (S := S) (F := F) (Q := Q) (ds := [encLay l]) rfl (Data_ok l hb hi hm)
  rw [hn] at hc
  simp (maxSteps := 1000000) (disch := first | assumption | omega | rfl) only [↓vmp, vme, vmb, ty, hP, dec_t, dec_f, wrap64, List.length_map, Int.toNat_natCast, Nat.reduceAdd, List.cons_append, List.nil_append, Option.map_some, Option.map_none, strOf_mk, sb_eql, sb_neq, vmg, ↓vgd, ↓vst, ↓vix, hc, bo51]
  refine own_l l n hn1 _ n 0 _ _ _ _ _ _ _ _ _ _ _ _ _ _ _ rfl (by omega) OwnS.nil ?_
  intro S v3 i' g0 g1 g2 g4 g5 g8 g9 g10 g11 g12 g13 g14 g15 ho
  simp (maxSteps := 1000000) (disch := first | assumption | omega | rfl) only [↓vmp, vme, vmb, ty, hP, dec_t, dec_f, wrap64, List.length_map, Int.toNat_natCast, Nat.reduceAdd, List.cons_append, List.nil_append, Option.map_some, Option.map_none, strOf_mk, sb_eql, sb_neq, vmg, ↓vgd, ↓vst, ↓vix]
  exact retQ_one rfl (own_one ho) (own_frz' (enc := D.int .i64) ho)
/-! chart.Make of the first numbers. -/
theorem with_tab : ∀ k, k < 18 → Ev cfg 95 [blkD (mapB k), .int .i64 (k : Int), .bool true] (.ret (.d (blkD (mapB (k + 1)))))
  | 0, _ => ⟨200, by kernel_rfl⟩
  | 1, _ => ⟨200, by kernel_rfl⟩
  | 2, _ => ⟨200, by kernel_rfl⟩
  | 3, _ => ⟨200, by kernel_rfl⟩
  | 4, _ => ⟨200, by kernel_rfl⟩
  | 5, _ => ⟨200, by kernel_rfl⟩
  | 6, _ => ⟨200, by kernel_rfl⟩
  | 7, _ => ⟨200, by kernel_rfl⟩
  | 8, _ => ⟨200, by kernel_rfl⟩
  | 9, _ => ⟨200, by kernel_rfl⟩
  | 10, _ => ⟨200, by kernel_rfl⟩
  | 11, _ => ⟨200, by kernel_rfl⟩
  | 12, _ => ⟨200, by kernel_rfl⟩
  | 13, _ => ⟨200, by kernel_rfl⟩
  | 14, _ => ⟨200, by kernel_rfl⟩
  | 15, _ => ⟨200, by kernel_rfl⟩
  | 16, _ => ⟨200, by kernel_rfl⟩
  | 17, _ => ⟨200, by kernel_rfl⟩
  | n + 18, h => by omega
theorem call_cw {ops : Array Oper} {dst : Option Tmp} {k : List Oper} {T : List V} {S : Store} {F : Dfs} {Q : Post} {u : V} {i : Nat} (hu : IsB u (mapB i)) (hi : i < 18) : WpR cfg ops dst k T S F Q (some (.enter 95 [u, .d (.int .i64 (i : Int)), .d (.bool true)])) = WpL cfg ops k (putT T dst (.d (blkD (mapB (i + 1))))) S F Q :=
  wr_call_v (ds := [blkD (mapB i), .int .i64 (i : Int), .bool true]) rfl (by simp only [allO, hu.frz (n := 10), frzFuel]; rfl) (by rw [List.flatMap_cons, hu.frzIds]; rfl) (with_tab i hi)
theorem make_l (n : Nat) (hn : n ≤ 18) (R : Post) : ∀ (k i : Nat) (u : V) (g0 g1 g4 g5 g9 g10 g11 g12 g13 g14 g15 g16 : V), n - i = k → i ≤ n → IsB u (mapB i) →
   (∀ u i' g0 g1 g4 g5 g9 g10 g11 g12 g13 g14 g15 g16, IsB u (mapB n) → R (.exit 0) (g0 :: g1 :: (.ref 0 0 0) :: (.ref 1 0 0) :: g4 :: g5 :: (.d (encI (upto n))) :: (.d (.int .i64 (n : Int))) :: i' :: g9 :: g10 :: g11 :: g12 :: g13 :: g14 :: g15 :: g16 :: []) [.row [blkV (zeros 256)] 42, .row [u] 42] []) →
   Wp cfg (.loop (lpOf (Try.f54.body.getD .skip) 0)) (g0 :: g1 :: (.ref 0 0 0) :: (.ref 1 0 0) :: g4 :: g5 :: (.d (encI (upto n))) :: (.d (.int .i64 (n : Int))) :: (.d (.int .i64 (i : Int))) :: g9 :: g10 :: g11 :: g12 :: g13 :: g14 :: g15 :: g16 :: []) [.row [blkV (zeros 256)] 42, .row [u] 42] [] R := by
  intro k
  induction k with
  | zero =>
    intro i u g0 g1 g4 g5 g9 g10 g11 g12 g13 g14 g15 g16 hk hi hu hR
    have hie : i = n := by omega
    subst hie
    rw [wk_of]
    refine wk_loop ?_
    conv => arg 2; whnf
    simp (maxSteps := 1000000) (disch := first | assumption | omega | rfl) only [↓vmp, vme, vmb, ty, hP, dec_t, dec_f, wrap64, List.length_map, Int.toNat_natCast, Nat.reduceAdd, List.cons_append, List.nil_append, Option.map_some, Option.map_none, strOf_mk, sb_eql, sb_neq, vmg, ↓vgd, ↓vst, ↓vix]
    exact hR _ _ _ _ _ _ _ _ _ _ _ _ _ _ hu
  | succ k ih =>
    intro i u g0 g1 g4 g5 g9 g10 g11 g12 g13 g14 g15 g16 hk hi hu hR
    have hlt : i < n := by omega
    have h3 : IntKind.i64.wrap ((i : Int) + 1) = ((i + 1 : Nat) : Int) := by rw [wrap64 (by omega)]; omega
    have hix : ∀ S : Store, indexAddrV Try.prog S 46 (.d (encI (upto n))) (.d (.int .i64 (i : Int))) = some (.d (.ptr (.int .i64 (i : Int)))) := fun S => by
      have := ix46 (S := S) (l := upto n) (i := i) (by rw [upto_len]; omega)
      have e : (upto n)[i]'(by rw [upto_len]; omega) = (i : Int) := by simp [upto]
      rw [e] at this
      exact this
    have hld := bt42.load hu (mapB_len i)
    have hcw := fun {ops dst k T S F Q} => call_cw (ops := ops) (dst := dst) (k := k) (T := T) (S := S) (F := F) (Q := Q) hu (by omega)
    have hst := bt42.store (isB_d (b := mapB (i + 1))) (mapB_len _) hu (mapB_len i)
    rw [wk_of]
    refine wk_loop ?_
    conv => arg 2; whnf
    simp (maxSteps := 1000000) (disch := first | assumption | omega | rfl) only [↓vmp, vme, vmb, ty, hP, dec_t, dec_f, wrap64, List.length_map, Int.toNat_natCast, Nat.reduceAdd, List.cons_append, List.nil_append, Option.map_some, Option.map_none, strOf_mk, sb_eql, sb_neq, vmg, ↓vgd, ↓vst, ↓vix, h3, hix, hld, hcw, bo95, hst, hu.one, if_true, eq_self]
    exact ih (i + 1) _ _ _ _ _ _ _ _ _ _ _ _ _ (by omega) (by omega) isB_d hR
theorem Make_ok (n : Nat) (hn : n ≤ 18) : Ev cfg 54 [encI (upto n)] (.ret (.d (blkD (mapB n)))) := by
  refine ev_of rfl rfl body54 ?_
  show Wp cfg (Try.f54.body.getD .skip) ((.d (encI (upto n))) :: (.tup []) :: (.tup []) :: (.tup []) :: (.tup []) :: (.tup []) :: (.tup []) :: (.tup []) :: (.tup []) :: (.tup []) :: (.tup []) :: (.tup []) :: (.tup []) :: (.tup []) :: (.tup []) :: (.tup []) :: (.tup []) :: []) [] [] _
  conv => arg 2; whnf
  have hln : ∀ S : Store, builtinV Try.prog S .len [46] [.d (encI (upto n))] = some (.val (.d (.int .i64 n)) S 0) := fun S => by rw [encI, len46, List.length_map, upto_len]
  simp (maxSteps := 1000000) (disch := first | assumption | omega | rfl) only [↓vmp, vme, vmb, ty, hP, dec_t, dec_f, wrap64, List.length_map, Int.toNat_natCast, Nat.reduceAdd, List.cons_append, List.nil_append, Option.map_some, Option.map_none, strOf_mk, sb_eql, sb_neq, vmg, ↓vgd, ↓vst, ↓vix, z42, zf42, hln]
  refine make_l n hn _ n 0 _ _ _ _ _ _ _ _ _ _ _ _ _ rfl (Nat.zero_le _) isB_v ?_
  intro u i' g0 g1 g4 g5 g9 g10 g11 g12 g13 g14 g15 g16 hu
  have hld := bt42.load hu (mapB_len n)
  have hst := bt42.store hu (mapB_len n) (w := blkV (zeros 256)) isB_v z256
  simp (maxSteps := 1000000) (disch := first | assumption | omega | rfl) only [↓vmp, vme, vmb, ty, hP, dec_t, dec_f, wrap64, List.length_map, Int.toNat_natCast, Nat.reduceAdd, List.cons_append, List.nil_append, Option.map_some, Option.map_none, strOf_mk, sb_eql, sb_neq, vmg, ↓vgd, ↓vst, ↓vix, hld, hst]
  exact retQ_cell (u := .ref 0 0 0) (v := u) rfl ((loadV_row rfl).trans hld) hu.one (hu.frz (n := 10))
/-- The block of the root's inode. -/
def rootB : List UInt8 := [2, 0, 1, 0, 0, 0, 0, 0, 1, 0] ++ zeros 246
def rootD : D := .agg [.int .i64 2, .int .i64 1, .int .i64 0, .int .i64 1, .int .i64 0, .int .i64 0, .int .i64 0, .int .i64 0, .int .i64 0, .int .i64 0, .int .i64 0]
theorem twith_ok : Ev cfg 52 [blkD (zeros 256), .int .i64 0, rootD] (.ret (.tup [.d (blkD rootB), .d (.int .i64 0)])) := ⟨1000, by kernel_rfl⟩
end Go.Proofs.Ytobgdmgldagjkaa
end
/-! The disk: what its methods do to the store. -/
section
set_option linter.unusedVariables false
set_option linter.unusedSimpArgs false
set_option maxRecDepth 100000
set_option maxHeartbeats 4000000
namespace Go.Proofs.Ytobgdmgldagjkaa
open Go.Vm
/-- A disk's struct in the store. -/
def dskV (r n : Nat) (f : Int) (lit off : Bool) (w q : Int) : V := .agg [.rs r 0 n, .d (.int .i64 f), .d (.bool lit), .d (.bool off), .d (.int .i64 w), .d (.int .i64 q)]
section
variable {r n d x y : Nat} {f w q f' w' q' : Int} {lit off lit' off' : Bool} {S : Store}
theorem fr89_0 : fieldAddrV Try.prog 89 0 (.ref d x y) = some (.ref d x (y + 0)) := by kernel_rfl
theorem fr89_1 : fieldAddrV Try.prog 89 1 (.ref d x y) = some (.ref d x (y + 1)) := by kernel_rfl
theorem fr89_2 : fieldAddrV Try.prog 89 2 (.ref d x y) = some (.ref d x (y + 2)) := by kernel_rfl
theorem fr89_3 : fieldAddrV Try.prog 89 3 (.ref d x y) = some (.ref d x (y + 3)) := by kernel_rfl
theorem fr89_4 : fieldAddrV Try.prog 89 4 (.ref d x y) = some (.ref d x (y + 4)) := by kernel_rfl
theorem fr89_5 : fieldAddrV Try.prog 89 5 (.ref d x y) = some (.ref d x (y + 5)) := by kernel_rfl
theorem lk0 : loadR Try.prog 37 0 (some (dskV r n f lit off w q)) = some (.rs r 0 n) := by kernel_rfl
theorem lk1 : loadR Try.prog 3 1 (some (dskV r n f lit off w q)) = some (.d (.int .i64 f)) := by kernel_rfl
theorem lk2 : loadR Try.prog 4 2 (some (dskV r n f lit off w q)) = some (.d (.bool lit)) := by kernel_rfl
theorem lk3 : loadR Try.prog 4 3 (some (dskV r n f lit off w q)) = some (.d (.bool off)) := by kernel_rfl
theorem lk4 : loadR Try.prog 3 4 (some (dskV r n f lit off w q)) = some (.d (.int .i64 w)) := by kernel_rfl
theorem lk5 : loadR Try.prog 3 5 (some (dskV r n f lit off w q)) = some (.d (.int .i64 q)) := by kernel_rfl
theorem sk1 : storeR Try.prog 3 1 (.d (.int .i64 f')) (dskV r n f lit off w q) = some (dskV r n f' lit off w q) := by kernel_rfl
theorem sk2 : storeR Try.prog 4 2 (.d (.bool lit')) (dskV r n f lit off w q) = some (dskV r n f lit' off w q) := by kernel_rfl
theorem sk3 : storeR Try.prog 4 3 (.d (.bool off')) (dskV r n f lit off w q) = some (dskV r n f lit off' w q) := by kernel_rfl
theorem sk4 : storeR Try.prog 3 4 (.d (.int .i64 w')) (dskV r n f lit off w q) = some (dskV r n f lit off w' q) := by kernel_rfl
theorem sk5 : storeR Try.prog 3 5 (.d (.int .i64 q')) (dskV r n f lit off w q) = some (dskV r n f lit off w q') := by kernel_rfl
theorem eq26f : binV Try.prog .eql 26 (.ref d x y) (.d .nilp) = some (.d (.bool false)) := by kernel_rfl
theorem ne26f : binV Try.prog .neq 26 (.ref d x y) (.d .nilp) = some (.d (.bool true)) := by kernel_rfl
theorem eq26n : binV Try.prog .eql 26 (.d .nilp) (.d .nilp) = some (.d (.bool true)) := by kernel_rfl
theorem u37 : Try.prog.underlying 37 = some (.slice 42) := by kernel_rfl
theorem len37 {i o m : Nat} : builtinV Try.prog S .len [37] [.rs i o m] = some (.val (.d (.int .i64 m)) S 0) := len_rs u37
theorem lr26 : loadR Try.prog 26 0 (some (.ref d x y)) = some (.ref d x y) := by kernel_rfl
theorem lr29i : loadR Try.prog 29 0 (some (.d (.int .i64 f))) = some (.d (.int .i64 f)) := by kernel_rfl
theorem sr29i : storeR Try.prog 29 0 (.d (.int .i64 f')) (.d (.int .i64 f)) = some (.d (.int .i64 f')) := by kernel_rfl
theorem ft26 : fitsT Try.prog 26 (.ref d x y) = true := by kernel_rfl
theorem z29 : zeroV Try.prog 29 = some (.d (.int .i64 0)) := by kernel_rfl
end
/-! Rows behind a store, and in it. -/
section
variable {S l : Store} {n k i : Nat} {x y : V} {a b c o : Ob} {e : TypeId}
theorem rA0 (h : S.length = n) : rowE (S ++ .row [x] e :: l) n 0 = some x := by
  subst h; exact rowE_of (e := e) (by simp)
theorem rA1 (h : S.length = n) : rowE (S ++ a :: .row [x] e :: l) (n + 1) 0 = some x := by
  subst h; exact rowE_of (e := e) (by rw [List.getElem?_append_right (by omega)]; simp)
theorem rA2 (h : S.length = n) : rowE (S ++ a :: b :: .row [x] e :: l) (n + 2) 0 = some x := by
  subst h; exact rowE_of (e := e) (by rw [List.getElem?_append_right (by omega)]; simp)
theorem pA0 (h : S.length = n) : putRow (S ++ .row [x] e :: l) n 0 y = some (S ++ .row [y] e :: l) := by
  subst h
  rw [putRow_of (x := x) (e := e) (by simp)]
  simp
theorem pA1 (h : S.length = n) : putRow (S ++ a :: .row [x] e :: l) (n + 1) 0 y = some (S ++ a :: .row [y] e :: l) := by
  subst h
  rw [putRow_of (x := x) (e := e) (by rw [List.getElem?_append_right (by omega)]; simp)]
  rw [List.set_append_right _ _ (by omega)]
  simp
theorem pA2 (h : S.length = n) : putRow (S ++ a :: b :: .row [x] e :: l) (n + 2) 0 y = some (S ++ a :: b :: .row [y] e :: l) := by
  subst h
  rw [putRow_of (x := x) (e := e) (by rw [List.getElem?_append_right (by omega)]; simp)]
  rw [List.set_append_right _ _ (by omega)]
  simp
theorem rS0 (h : i < S.length) : rowE (S.set i (.row [x] e) ++ l) i 0 = some x := rowE_of (e := e) (by rw [List.getElem?_append_left (by simpa using h)]; simp [h])
theorem rSn (h : i ≠ k) (hi : i < S.length) {j : Nat} : rowE (S.set k o ++ l) i j = rowE S i j := by
  unfold rowE
  rw [List.getElem?_append_left (by simpa using hi), List.getElem?_set_ne (Ne.symm h)]
theorem pS0 (h : i < S.length) : putRow (S.set i (.row [x] e) ++ l) i 0 y = some (S.set i (.row [y] e) ++ l) := by
  rw [putRow_of (x := x) (e := e) (by rw [List.getElem?_append_left (by simpa using h)]; simp [h])]
  rw [List.set_append_left _ _ (by simpa using h), List.set_set]
end
theorem body9 : bodyOf Try.prog 9 = some ⟨(Try.f9.body.getD .skip), 16, #[]⟩ := by
  unfold bodyOf
  rw [Try.func9]
  rfl
theorem body12 : bodyOf Try.prog 12 = some ⟨(Try.f12.body.getD .skip), 13, #[]⟩ := by
  unfold bodyOf
  rw [Try.func12]
  rfl
theorem body94 : bodyOf Try.prog 94 = some ⟨(Try.f94.body.getD .skip), 11, #[]⟩ := by
  unfold bodyOf
  rw [Try.func94]
  rfl
theorem body96 : bodyOf Try.prog 96 = some ⟨(Try.f96.body.getD .skip), 8, #[]⟩ := by
  unfold bodyOf
  rw [Try.func96]
  rfl
/-- A disk in the store. -/
structure DskAt (S : Store) (d r : Nat) (vs : List V) (f : Int) (lit off : Bool) (w q : Int) : Prop where
  hd : S[d]? = some (.row [dskV r vs.length f lit off w q] 89)
  hr : S[r]? = some (.row vs 42)
  ne : r ≠ d
section
variable {S l : Store} {d r : Nat} {vs : List V} {f w q : Int} {lit off : Bool}
theorem DskAt.rd (h : DskAt S d r vs f lit off w q) : rowE (S ++ l) d 0 = some (dskV r vs.length f lit off w q) := rowE_of (e := 89) (by rw [List.getElem?_append_left (getLen h.hd)]; exact h.hd)
theorem DskAt.rd' (h : DskAt S d r vs f lit off w q) : rowE S d 0 = some (dskV r vs.length f lit off w q) := rowE_of (e := 89) h.hd
theorem DskAt.pd (h : DskAt S d r vs f lit off w q) {y : V} : putRow (S ++ l) d 0 y = some (S.set d (.row [y] 89) ++ l) := by
  rw [putRow_of (e := 89) (by rw [List.getElem?_append_left (getLen h.hd)]; exact h.hd), List.set_append_left _ _ (getLen h.hd)]
theorem DskAt.pd' (h : DskAt S d r vs f lit off w q) {y : V} : putRow S d 0 y = some (S.set d (.row [y] 89)) := putRow_of (e := 89) h.hd
theorem DskAt.dl (h : DskAt S d r vs f lit off w q) : d < S.length := getLen h.hd
theorem DskAt.rl (h : DskAt S d r vs f lit off w q) : r < S.length := getLen h.hr
end
theorem size_ok (S : Store) (d r : Nat) (vs : List V) (f w q : Int) (lit off : Bool) (h : DskAt S d r vs f lit off w q) : EvS cfg 49 [.ref d 0 0] S (fun o S' => S' = S ∧ o = .ret (.d (.int .i64 vs.length))) := by
  refine evS_of rfl body49 ?_
  show Wp cfg (Try.f49.body.getD .skip) ((.ref d 0 0) :: (.tup []) :: (.tup []) :: (.tup []) :: (.tup []) :: (.tup []) :: (.tup []) :: (.tup []) :: (.tup []) :: (.tup []) :: []) S [] _
  conv => arg 2; whnf
  rw [wk_of]
  have hd := h.rd'
  simp (maxSteps := 1000000) (disch := first | assumption | omega | rfl) only [↓vmp, vme, vmb, ty, hP, dec_t, dec_f, wrap64, List.length_map, Int.toNat_natCast, Nat.reduceAdd, List.cons_append, List.nil_append, Option.map_some, Option.map_none, strOf_mk, sb_eql, sb_neq, vmg, ↓vgd, ↓vst, ↓vix, eq26f, fr89_0, hd, lk0, len37]
  exact ⟨rfl, _, rfl, rfl, rfl⟩
theorem may_ok (S : Store) (d r : Nat) (vs : List V) (f w q : Int) (lit : Bool) (no : Nat) (h : DskAt S d r vs f lit false w q) (hn : no < vs.length) : EvS cfg 93 [.ref d 0 0, .d (.int .i64 (no : Int))] S (fun o S' => S' = S ∧ o = .ret (.d (.int .i64 0))) := by
  refine evS_of rfl body93 ?_
  show Wp cfg (Try.f93.body.getD .skip) ((.ref d 0 0) :: (.d (.int .i64 (no : Int))) :: (.tup []) :: (.tup []) :: (.tup []) :: (.tup []) :: (.tup []) :: (.tup []) :: (.tup []) :: (.tup []) :: (.tup []) :: (.tup []) :: (.tup []) :: (.tup []) :: (.tup []) :: (.tup []) :: (.tup []) :: (.tup []) :: (.tup []) :: (.tup []) :: (.tup []) :: (.tup []) :: (.tup []) :: (.tup []) :: (.tup []) :: []) S [] _
  conv => arg 2; whnf
  rw [wk_of]
  have hd := h.rd'
  have c1 : ¬ (no : Int) < 0 := by omega
  have c2 : ¬ (no : Int) ≥ (vs.length : Int) := by omega
  simp (maxSteps := 1000000) (disch := first | assumption | omega | rfl) only [↓vmp, vme, vmb, ty, hP, dec_t, dec_f, wrap64, List.length_map, Int.toNat_natCast, Nat.reduceAdd, List.cons_append, List.nil_append, Option.map_some, Option.map_none, strOf_mk, sb_eql, sb_neq, vmg, ↓vgd, ↓vst, ↓vix, eq26f, fr89_0, fr89_3, hd, lk0, lk3, len37]
  exact ⟨rfl, _, rfl, rfl, rfl⟩
theorem fuse_ok (S : Store) (d r : Nat) (vs : List V) (f w q : Int) (lit off : Bool) (n : Int) (h : DskAt S d r vs f lit off w q) : EvS cfg 9 [.ref d 0 0, .d (.int .i64 n)] S (fun o S' => S' = S.set d (.row [dskV r vs.length (if n ≥ 0 then n else 0) (decide (n ≥ 0)) off w q] 89) ∧ o = .ret (.tup [])) := by
  refine evS_of rfl body9 ?_
  show Wp cfg (Try.f9.body.getD .skip) ((.ref d 0 0) :: (.d (.int .i64 n)) :: (.tup []) :: (.tup []) :: (.tup []) :: (.tup []) :: (.tup []) :: (.tup []) :: (.tup []) :: (.tup []) :: (.tup []) :: (.tup []) :: (.tup []) :: (.tup []) :: (.tup []) :: (.tup []) :: []) S [] _
  conv => arg 2; whnf
  rw [wk_of]
  have hd := h.rd'
  have hp := fun y => h.pd' (y := y)
  have hdl := h.dl
  have hd2 : ∀ o x, rowE (S.set d (.row [x] o)) d 0 = some x := fun o x => rowE_of (set_at h.hd)
  have hp2 : ∀ x y, putRow (S.set d (.row [x] 89)) d 0 y = some (S.set d (.row [y] 89)) := fun x y => by rw [putRow_of (set_at h.hd), List.set_set]
  by_cases hn : n ≥ 0
  · have hmax := fun S => max_ge (S := S) (a := n) (b := 0) hn
    simp only [hn, if_true, decide_true]
    simp (maxSteps := 1000000) (disch := first | assumption | omega | rfl) only [↓vmp, vme, vmb, ty, hP, dec_t, dec_f, wrap64, List.length_map, Int.toNat_natCast, Nat.reduceAdd, List.cons_append, List.nil_append, Option.map_some, Option.map_none, strOf_mk, sb_eql, sb_neq, vmg, ↓vgd, ↓vst, ↓vix, ne26f, fr89_1, fr89_2, hd, hp, hd2, hp2, sk1, sk2, hmax, hn]
    exact ⟨rfl, _, rfl, rfl, rfl⟩
  · have hmax := fun S => max_le (S := S) (a := n) (b := 0) (by omega)
    simp only [hn, if_false, decide_false]
    simp (maxSteps := 1000000) (disch := first | assumption | omega | rfl) only [↓vmp, vme, vmb, ty, hP, dec_t, dec_f, wrap64, List.length_map, Int.toNat_natCast, Nat.reduceAdd, List.cons_append, List.nil_append, Option.map_some, Option.map_none, strOf_mk, sb_eql, sb_neq, vmg, ↓vgd, ↓vst, ↓vix, ne26f, fr89_1, fr89_2, hd, hp, hd2, hp2, sk1, sk2, hmax, hn]
    exact ⟨rfl, _, rfl, rfl, rfl⟩
theorem up_ok (S : Store) (d r : Nat) (vs : List V) (f w q : Int) (lit off : Bool) (h : DskAt S d r vs f lit off w q) : EvS cfg 12 [.ref d 0 0] S (fun o S' => S' = S.set d (.row [dskV r vs.length 0 false false w q] 89) ∧ o = .ret (.tup [])) := by
  refine evS_of rfl body12 ?_
  show Wp cfg (Try.f12.body.getD .skip) ((.ref d 0 0) :: (.tup []) :: (.tup []) :: (.tup []) :: (.tup []) :: (.tup []) :: (.tup []) :: (.tup []) :: (.tup []) :: (.tup []) :: (.tup []) :: (.tup []) :: (.tup []) :: []) S [] _
  conv => arg 2; whnf
  rw [wk_of]
  have hd := h.rd'
  have hp := fun y => h.pd' (y := y)
  have hd2 : ∀ o x, rowE (S.set d (.row [x] o)) d 0 = some x := fun o x => rowE_of (set_at h.hd)
  have hp2 : ∀ x y, putRow (S.set d (.row [x] 89)) d 0 y = some (S.set d (.row [y] 89)) := fun x y => by rw [putRow_of (set_at h.hd), List.set_set]
  simp (maxSteps := 1000000) (disch := first | assumption | omega | rfl) only [↓vmp, vme, vmb, ty, hP, dec_t, dec_f, wrap64, List.length_map, Int.toNat_natCast, Nat.reduceAdd, List.cons_append, List.nil_append, Option.map_some, Option.map_none, strOf_mk, sb_eql, sb_neq, vmg, ↓vgd, ↓vst, ↓vix, ne26f, fr89_1, fr89_2, fr89_3, hd, hp, hd2, hp2, sk1, sk2, sk3]
  exact ⟨rfl, _, rfl, rfl, rfl⟩
end Go.Proofs.Ytobgdmgldagjkaa
end
/-! The disk's writes and reads. -/
section
set_option linter.unusedVariables false
set_option linter.unusedSimpArgs false
set_option maxRecDepth 100000
set_option maxHeartbeats 4000000
namespace Go.Proofs.Ytobgdmgldagjkaa
open Go.Vm
theorem lset {S : Store} {d : Nat} {o : Ob} : (S.set d o).length = S.length := List.length_set ..
theorem mf94 {S : Store} {a b : Nat} : mfS (.func 94) S [] [.ref a 0 0, .ref b 0 0] = some (.val (.fn (.func 94) [] [.ref a 0 0, .ref b 0 0]) S 0) := mfS_one rfl
theorem mf96 {S : Store} {a : Nat} : mfS (.func 96) S [] [.ref a 0 0] = some (.val (.fn (.func 96) [] [.ref a 0 0]) S 0) := mfS_one rfl
section
variable {ops : Array Oper} {dst : Option Tmp} {l : List Oper} {T : List V} {S : Store} {F : Dfs} {Q : Post} {ty : TypeId} {pos : String} {after : Array Edge} {t a b : Nat} {pre suf : List V}
noncomputable def dfV : V → Option Rs
  | .fn (.func g) first caps => if (bodyOf Try.prog g).isSome then some (.dfr g (first ++ caps)) else none
  | _ => none
theorem wl_defer : WpL cfg ops (⟨dst, .defer ⟨.value (.tmp t), #[], #[]⟩, ty, pos, after, none⟩ :: l) T S F Q = WpR cfg ops dst l T S F Q (dfV (T.getD t .junk)) := by
  rw [wl_op rfl]
  have e : opV cfg.P S T ⟨dst, .defer ⟨.value (.tmp t), #[], #[]⟩, ty, pos, after, none⟩ = dfV (T.getD t .junk) := by
    show (match T.getD t .junk with | .fn (.func g) first caps => if [].all V.one && (bodyOf Try.prog g).isSome then some (Rs.dfr g (first ++ [] ++ caps)) else none | _ => none) = _
    simp only [List.all_nil, Bool.true_and, List.append_nil]
    rfl
  rw [e]
theorem wr_dfr {f : FuncId} {args : List V} : WpR cfg ops dst l T S F Q (some (.dfr f args)) = WpL cfg ops l (putT T dst (.tup [])) S ((f, args) :: F) Q := rfl
theorem df94 {x y : V} : dfV (.fn (.func 94) [] [x, y]) = some (.dfr 94 [x, y]) := by
  unfold dfV
  exact if_pos bo94
theorem df96 {x : V} : dfV (.fn (.func 96) [] [x]) = some (.dfr 96 [x]) := by
  unfold dfV
  exact if_pos bo96
end
def nilS (S : Store) : V → Option Rs
  | .ref i ix off => some (.val (.ref i ix off) S 0)
  | .d (.ptr x) => some (.val (.d (.ptr x)) S 0)
  | .fn (.func g) a b => some (.val (.fn (.func g) a b) S 0)
  | _ => none
theorem op_nilCheck {P : Program} {S : Store} {T : List V} {dst : Option Tmp} {ty : TypeId} {pos : String} {after : Array Edge} {g : Option (Nat × Bool)} {x : Operand} : opV P S T ⟨dst, .nilCheck x, ty, pos, after, g⟩ = nilS S (evalO T x) := by
  simp only [opV]
  generalize evalO T x = v
  cases v with
  | d y => cases y <;> rfl
  | fn f a b => cases f <;> rfl
  | _ => rfl
theorem nilS_ref {S : Store} {i ix off : Nat} : nilS S (.ref i ix off) = some (.val (.ref i ix off) S 0) := rfl
/-- A call by the store that ends in one way. -/
theorem wr_callE {ops : Array Oper} {dst : Option Tmp} {l : List Oper} {T : List V} {S S2 : Store} {F : Dfs} {Q : Post} {f : FuncId} {args : List V} {v : V} (hs : cfg.shared f = true) (he : EvS cfg f args S (fun o S' => S' = S2 ∧ o = .ret v)) : WpR cfg ops dst l T S F Q (some (.enter f args)) = WpL cfg ops l (putT T dst v) S2 F Q := by
  obtain ⟨n, o, S', hn, rfl, rfl⟩ := he
  have hc : callV cfg (run cfg n) f args S = some (.ret v, S', 3) := by
    unfold callV
    simp only [hs, if_true, hn, Option.map_some]
  apply propext
  constructor
  · rintro ⟨m, o, S2, c, h1, h2⟩
    have := callV_det h1 hc
    simp only [Prod.mk.injEq] at this
    obtain ⟨rfl, rfl, rfl⟩ := this
    exact h2
  · exact fun h => ⟨n, _, _, _, hc, h⟩
theorem DskAt.app {S l : Store} {d r : Nat} {vs : List V} {f w q : Int} {lit off : Bool} (h : DskAt S d r vs f lit off w q) : DskAt (S ++ l) d r vs f lit off w q :=
  ⟨by rw [List.getElem?_append_left h.dl]; exact h.hd, by rw [List.getElem?_append_left h.rl]; exact h.hr, h.ne⟩
theorem DskAt.setd {S : Store} {d r : Nat} {vs : List V} {f w q f' w' q' : Int} {lit off lit' off' : Bool} (h : DskAt S d r vs f lit off w q) : DskAt (S.set d (.row [dskV r vs.length f' lit' off' w' q'] 89)) d r vs f' lit' off' w' q' :=
  ⟨set_at h.hd, by rw [List.getElem?_set_ne (Ne.symm h.ne)]; exact h.hr, h.ne⟩
theorem ixRow {S : Store} {r n i : Nat} {vs : List V} (hS : S[r]? = some (.row vs 42)) (hi : i < n) : indexAddrV Try.prog S 37 (.rs r 0 n) (.d (.int .i64 (i : Int))) = some (.ref r i 0) := by
  have h1 : rowT S r 42 = true := by unfold rowT; rw [hS]; rfl
  have h2 : (sz Try.prog 42).isSome = true := by kernel_rfl
  simp only [indexAddrV, intOf?, u37]
  rw [if_pos ⟨⟨by omega, by omega⟩, h1, h2⟩]
  simp
section
variable {S l : Store} {d r : Nat} {vs : List V} {f w q : Int} {lit off : Bool} {i : Nat}
theorem DskAt.ix (h : DskAt S d r vs f lit off w q) (hi : i < vs.length) : indexAddrV Try.prog (S ++ l) 37 (.rs r 0 vs.length) (.d (.int .i64 (i : Int))) = some (.ref r i 0) := ixRow (vs := vs) (h.app (l := l)).hr hi
theorem DskAt.rr (h : DskAt S d r vs f lit off w q) (hi : i < vs.length) : rowE (S ++ l) r i = some vs[i] := by
  unfold rowE
  rw [(h.app (l := l)).hr]
  exact List.getElem?_eq_getElem hi
theorem DskAt.pr (h : DskAt S d r vs f lit off w q) {y : V} : putRow (S ++ l) r i y = some (S.set r (.row (vs.set i y) 42) ++ l) := by
  unfold putRow
  rw [(h.app (l := l)).hr]
  simp only [List.set_append_left _ _ h.rl]
theorem DskAt.setr (h : DskAt S d r vs f lit off w q) {y : V} : DskAt (S.set r (.row (vs.set i y) 42)) d r (vs.set i y) f lit off w q :=
  ⟨by rw [List.getElem?_set_ne h.ne, List.length_set]; exact h.hd, set_at h.hr, h.ne⟩
end
/-- What a write defers, once all is well. -/
theorem wdone_0 (S : Store) (a d r : Nat) (vs : List V) (f w q : Int) (lit off : Bool) (h : DskAt S d r vs f lit off w q) (hS : S.length = a) (hw : 0 ≤ w ∧ w ≤ 1000000) (b : Ob) :
    Wp cfg (Try.f94.body.getD .skip) ((.ref (a + 2) 0 0) :: (.ref a 0 0) :: (.tup []) :: (.tup []) :: (.tup []) :: (.tup []) :: (.tup []) :: (.tup []) :: (.tup []) :: (.tup []) :: (.tup []) :: []) (S ++ [.row [.ref d 0 0] 26, b, .row [.d (.int .i64 0)] 29]) [] (fun x T S2 F => (x = .norm ∨ x = .ret) ∧ F = [] ∧ (∃ v, resultsV cfg.P #[] T S2 = some v) ∧ S2 = S.set d (.row [dskV r vs.length f lit off (w + 1) q] 89) ++ [.row [.ref d 0 0] 26, b, .row [.d (.int .i64 0)] 29]) := by
  conv => arg 2; whnf
  rw [wk_of]
  have hd := fun l => h.rd (l := l)
  have hp := fun l y => h.pd (l := l) (y := y)
  have h3 : IntKind.i64.wrap (w + 1) = w + 1 := wrap64 (by omega)
  simp (maxSteps := 1000000) (disch := first | assumption | omega | rfl) only [↓vmp, vme, vmb, ty, hP, dec_t, dec_f, wrap64, List.length_map, Int.toNat_natCast, Nat.reduceAdd, List.cons_append, List.nil_append, Option.map_some, Option.map_none, strOf_mk, sb_eql, sb_neq, vmg, ↓vgd, ↓vst, ↓vix, fr89_4, rA0 hS, rA1 hS, rA2 hS, hd, hp, lr29i, lr26, lk4, sk4, h3, dec_True]
  try exact ⟨.inl trivial, trivial, ⟨_, rfl⟩, trivial⟩
theorem wdone_n (S l : Store) (a : Nat) (e : Int) (he : e ≠ 0) (hS : S.length = a) (b c : Ob) :
    Wp cfg (Try.f94.body.getD .skip) ((.ref (a + 2) 0 0) :: (.ref a 0 0) :: (.tup []) :: (.tup []) :: (.tup []) :: (.tup []) :: (.tup []) :: (.tup []) :: (.tup []) :: (.tup []) :: (.tup []) :: []) (S ++ [c, b, .row [.d (.int .i64 e)] 29]) [] (fun x T S2 F => (x = .norm ∨ x = .ret) ∧ F = [] ∧ (∃ v, resultsV cfg.P #[] T S2 = some v) ∧ S2 = S ++ [c, b, .row [.d (.int .i64 e)] 29]) := by
  conv => arg 2; whnf
  rw [wk_of]
  have hde : ∀ i : Decidable (e = 0), @decide (e = 0) i = false := fun i => decide_eq_false he
  simp (maxSteps := 1000000) (disch := first | assumption | omega | rfl) only [↓vmp, vme, vmb, ty, hP, dec_t, dec_f, wrap64, List.length_map, Int.toNat_natCast, Nat.reduceAdd, List.cons_append, List.nil_append, Option.map_some, Option.map_none, strOf_mk, sb_eql, sb_neq, vmg, ↓vgd, ↓vst, ↓vix, rA2 hS, lr29i, hde]
  try exact ⟨.inl trivial, trivial, ⟨_, rfl⟩, trivial⟩
theorem res_c {T : List V} {S : Store} {t x : Nat} {e : Int} (h1 : T.getD t (.tup []) = .ref x 0 0) (h2 : rowE S x 0 = some (.d (.int .i64 e))) : resultsV Try.prog #[.cell t 29] T S = some (.d (.int .i64 e)) := by
  have hl : loadV Try.prog S 29 (.ref x 0 0) = some (.d (.int .i64 e)) := (loadV_row h2).trans lr29i
  simp only [resultsV, allO, resultV, h1, hl]
theorem write_off (S : Store) (d r : Nat) (vs : List V) (w q : Int) (no : Nat) (u : V) (b : List UInt8) (h : DskAt S d r vs 0 true false w q) (hn : no < vs.length) (hu : IsB u b) (hb : b.length = 256) :
    EvS cfg 53 [.ref d 0 0, .d (.int .i64 (no : Int)), u] S (fun o S' => S' = S.set d (.row [dskV r vs.length 0 true true w q] 89) ++ [.row [.ref d 0 0] 26, .row [u] 42, .row [.d (.int .i64 12)] 29] ∧ o = .ret (.d (.int .i64 12))) := by
  refine evS_dfr rfl body53 ?_
  show Wp cfg (Try.f53.body.getD .skip) ((.ref d 0 0) :: (.d (.int .i64 (no : Int))) :: u :: (.tup []) :: (.tup []) :: (.tup []) :: (.tup []) :: (.tup []) :: (.tup []) :: (.tup []) :: (.tup []) :: (.tup []) :: (.tup []) :: (.tup []) :: (.tup []) :: (.tup []) :: (.tup []) :: (.tup []) :: (.tup []) :: (.tup []) :: (.tup []) :: (.tup []) :: (.tup []) :: (.tup []) :: (.tup []) :: (.tup []) :: (.tup []) :: (.tup []) :: (.tup []) :: (.tup []) :: (.tup []) :: (.tup []) :: (.tup []) :: (.tup []) :: (.tup []) :: (.tup []) :: (.tup []) :: (.tup []) :: (.tup []) :: (.tup []) :: (.tup []) :: (.tup []) :: (.tup []) :: (.tup []) :: (.tup []) :: (.tup []) :: []) S [] _
  conv => arg 2; whnf
  rw [wk_of]
  have hf := bt42.fits hu hb
  have hu1 := hu.one
  generalize ha : S.length = a
  have hd := fun l => h.rd (l := l)
  have hp := fun l y => h.pd (l := l) (y := y)
  have hdl := h.dl
  have hl : ∀ o, (S.set d o).length = a := fun o => lset.trans ha
  have hm := fun {ops dst k T F Q} l => wr_callE (ops := ops) (dst := dst) (l := k) (T := T) (F := F) (Q := Q) rfl (may_ok (S ++ l) d r vs 0 w q true no h.app hn)
  simp (maxSteps := 1000000) (disch := first | assumption | omega | rfl) only [↓vmp, vme, vmb, ty, hP, dec_t, dec_f, wrap64, List.length_map, Int.toNat_natCast, Nat.reduceAdd, List.cons_append, List.nil_append, Option.map_some, Option.map_none, strOf_mk, sb_eql, sb_neq, vmg, ↓vgd, ↓vst, ↓vix, ft26, hf, z29, hu1, List.append_assoc, List.length_append, List.length_cons, List.length_nil, ha, rA0 ha, rA1 ha, rA2 ha, pA2 ha, rA0 (hl _), rA1 (hl _), rA2 (hl _), pA2 (hl _), lr26, lr29i, sr29i, hm, bo93, hd, hp, fr89_1, fr89_2, fr89_3, lk1, lk2, sk3, wl_makeFunc, mf94, wl_defer, df94, wr_dfr, dec_True]
  exact ⟨.inr rfl, _, _, ⟨_, _, body94, wdone_n (S.set d _) [] a 12 (by decide) (hl _) _ _, rfl⟩, res_c rfl (rA2 (hl _)), rfl, rfl⟩
theorem write_ok (S : Store) (d r : Nat) (vs : List V) (f w q : Int) (lit : Bool) (no : Nat) (u v : V) (b b0 : List UInt8) (h : DskAt S d r vs f lit false w q) (hn : no < vs.length) (hu : IsB u b) (hb : b.length = 256) (hv : vs[no] = v) (hb0 : IsB v b0) (hl0 : b0.length = 256) (hw : 0 ≤ w ∧ w ≤ 1000000) (hf0 : 0 ≤ f ∧ InB f) (hlf : lit = true → f ≠ 0) :
    EvS cfg 53 [.ref d 0 0, .d (.int .i64 (no : Int)), u] S (fun o S' => S' = (S.set d (.row [dskV r vs.length (if lit then f - 1 else f) lit false (w + 1) q] 89)).set r (.row (vs.set no u) 42) ++ [.row [.ref d 0 0] 26, .row [u] 42, .row [.d (.int .i64 0)] 29] ∧ o = .ret (.d (.int .i64 0))) := by
  refine evS_dfr rfl body53 ?_
  show Wp cfg (Try.f53.body.getD .skip) ((.ref d 0 0) :: (.d (.int .i64 (no : Int))) :: u :: (.tup []) :: (.tup []) :: (.tup []) :: (.tup []) :: (.tup []) :: (.tup []) :: (.tup []) :: (.tup []) :: (.tup []) :: (.tup []) :: (.tup []) :: (.tup []) :: (.tup []) :: (.tup []) :: (.tup []) :: (.tup []) :: (.tup []) :: (.tup []) :: (.tup []) :: (.tup []) :: (.tup []) :: (.tup []) :: (.tup []) :: (.tup []) :: (.tup []) :: (.tup []) :: (.tup []) :: (.tup []) :: (.tup []) :: (.tup []) :: (.tup []) :: (.tup []) :: (.tup []) :: (.tup []) :: (.tup []) :: (.tup []) :: (.tup []) :: (.tup []) :: (.tup []) :: (.tup []) :: (.tup []) :: (.tup []) :: (.tup []) :: []) S [] _
  conv => arg 2; whnf
  rw [wk_of]
  have hf := bt42.fits hu hb
  have hu1 := hu.one
  generalize ha : S.length = a
  have hd := fun l => h.rd (l := l)
  have hp := fun l y => h.pd (l := l) (y := y)
  have hdl := h.dl
  have hl : ∀ o, (S.set d o).length = a := fun o => lset.trans ha
  have hm := fun {ops dst k T F Q} l => wr_callE (ops := ops) (dst := dst) (l := k) (T := T) (F := F) (Q := Q) rfl (may_ok (S ++ l) d r vs f w q lit no h.app hn)
  have hld := bt42.load hu hb
  have hst := bt42.store hu hb (hv ▸ hb0) hl0
  have hl0 : ∀ i o, (S.set i o).length = a := fun i o => lset.trans ha
  have hl2 : ∀ i o j p, ((S.set i o).set j p).length = a := fun i o j p => lset.trans (lset.trans ha)
  have hcm : ∀ o p, (S.set r o).set d p = (S.set d p).set r o := fun o p => List.set_comm _ _ h.ne
  cases lit with
  | false =>
    have hix := fun l => h.ix (l := l) hn
    have hrr := fun l => h.rr (l := l) hn
    have hpr := fun l y => h.pr (l := l) (i := no) (y := y)
    simp (maxSteps := 1000000) (disch := first | assumption | omega | rfl) only [↓vmp, vme, vmb, ty, hP, dec_t, dec_f, wrap64, List.length_map, Int.toNat_natCast, Nat.reduceAdd, List.cons_append, List.nil_append, Option.map_some, Option.map_none, strOf_mk, sb_eql, sb_neq, vmg, ↓vgd, ↓vst, ↓vix, ft26, hf, z29, hu1, List.append_assoc, List.length_append, List.length_cons, List.length_nil, ha, rA0 ha, rA1 ha, rA2 ha, pA2 ha, rA0 (hl0 _ _), rA1 (hl0 _ _), rA2 (hl0 _ _), pA2 (hl0 _ _), lr26, lr29i, sr29i, hm, bo93, hd, hp, fr89_1, fr89_2, fr89_3, lk1, lk2, sk3, wl_makeFunc, mf94, wl_defer, df94, wr_dfr, dec_True]
    refine wk_draw (is := [0, 1, 2, 3, 4, 5, 6, 7]) (h := 0) (by kernel_rfl) (by kernel_rfl) ?_
    simp (maxSteps := 1000000) (disch := first | assumption | omega | rfl) only [List.replicate_zero, eq_self, vmd, vmk, vmo, vmg, vme, vmb, ty, hP, dec_t, dec_f, wrap64, List.length_map, Int.toNat_natCast, Nat.reduceAdd, ↓vgd, ↓vst, ↓vix, vso, rA0 ha, rA1 ha, rA2 ha, lr26, hd, op_nilCheck, nilS_ref, fr89_0, lk0, hix, hld, hrr, hst, hpr, List.append_nil]
    refine ⟨fun _ => by kernel_rfl, ?_⟩
    refine ⟨by kernel_rfl, ?_⟩
    simp (maxSteps := 1000000) (disch := first | assumption | omega | rfl) only [↓vmp, vme, vmb, ty, hP, dec_t, dec_f, wrap64, List.length_map, Int.toNat_natCast, Nat.reduceAdd, List.cons_append, List.nil_append, Option.map_some, Option.map_none, strOf_mk, sb_eql, sb_neq, vmg, ↓vgd, ↓vst, ↓vix, pA2 (hl0 _ _), rA2 (hl0 _ _), sr29i]
    refine ⟨.inr rfl, _, _, ⟨_, _, body94, wdone_0 _ a d r _ _ w q _ _ h.setr (hl0 _ _) hw _, rfl⟩, res_c rfl (rA2 (hl2 _ _ _ _)), ?_, rfl⟩
    rw [hcm, List.length_set]
    rfl
  | true =>
    have hf1 : ¬ f = 0 := hlf rfl
    have h3 : IntKind.i64.wrap (f - 1) = f - 1 := wrap64 (by obtain ⟨_, _, _⟩ := hf0; omega)
    have h' : ∀ f', DskAt (S.set d (.row [dskV r vs.length f' true false w q] 89)) d r vs f' true false w q := fun f' => h.setd
    have hde : ∀ i : Decidable (f = 0), @decide (f = 0) i = false := fun i => decide_eq_false hf1
    have hd1 := fun f' l => (h' f').rd (l := l)
    have hix := fun f' l => (h' f').ix (l := l) hn
    have hrr := fun f' l => (h' f').rr (l := l) hn
    have hpr := fun f' l y => (h' f').pr (l := l) (i := no) (y := y)
    simp (maxSteps := 1000000) (disch := first | assumption | omega | rfl) only [↓vmp, vme, vmb, ty, hP, dec_t, dec_f, wrap64, List.length_map, Int.toNat_natCast, Nat.reduceAdd, List.cons_append, List.nil_append, Option.map_some, Option.map_none, strOf_mk, sb_eql, sb_neq, vmg, ↓vgd, ↓vst, ↓vix, ft26, hf, z29, hu1, List.append_assoc, List.length_append, List.length_cons, List.length_nil, ha, rA0 ha, rA1 ha, rA2 ha, pA2 ha, rA0 (hl0 _ _), rA1 (hl0 _ _), rA2 (hl0 _ _), pA2 (hl0 _ _), lr26, lr29i, sr29i, hm, bo93, hd, hp, fr89_1, fr89_2, fr89_3, lk1, lk2, sk1, sk3, wl_makeFunc, mf94, wl_defer, df94, wr_dfr, dec_True, hde, h3, hd1]
    refine wk_draw (is := [0, 1, 2, 3, 4, 5, 6, 7]) (h := 0) (by kernel_rfl) (by kernel_rfl) ?_
    simp (maxSteps := 1000000) (disch := first | assumption | omega | rfl) only [List.replicate_zero, eq_self, vmd, vmk, vmo, vmg, vme, vmb, ty, hP, dec_t, dec_f, wrap64, List.length_map, Int.toNat_natCast, Nat.reduceAdd, ↓vgd, ↓vst, ↓vix, vso, rA0 (hl0 _ _), rA1 (hl0 _ _), rA2 (hl0 _ _), lr26, hd1, op_nilCheck, nilS_ref, fr89_0, lk0, hix, hld, hrr, hst, hpr, List.append_nil]
    refine ⟨fun _ => by kernel_rfl, ?_⟩
    refine ⟨by kernel_rfl, ?_⟩
    simp (maxSteps := 1000000) (disch := first | assumption | omega | rfl) only [↓vmp, vme, vmb, ty, hP, dec_t, dec_f, wrap64, List.length_map, Int.toNat_natCast, Nat.reduceAdd, List.cons_append, List.nil_append, Option.map_some, Option.map_none, strOf_mk, sb_eql, sb_neq, vmg, ↓vgd, ↓vst, ↓vix, pA2 (hl2 _ _ _ _), rA2 (hl2 _ _ _ _), sr29i]
    refine ⟨.inr rfl, _, _, ⟨_, _, body94, wdone_0 _ a d r _ _ w q _ _ (h' _).setr (hl2 _ _ _ _) hw _, rfl⟩, res_c rfl (rA2 (lset.trans (hl2 _ _ _ _))), ?_, rfl⟩
    rw [List.set_comm _ _ h.ne, List.set_set, List.length_set]
    try rfl
/-- What a read defers. -/
theorem rdone (S : Store) (a d r : Nat) (vs : List V) (f w q : Int) (lit off : Bool) (h : DskAt S d r vs f lit off w q) (hS : S.length = a) (hq : 0 ≤ q ∧ q ≤ 1000000) (b : Ob) :
    Wp cfg (Try.f96.body.getD .skip) ((.ref a 0 0) :: (.tup []) :: (.tup []) :: (.tup []) :: (.tup []) :: (.tup []) :: (.tup []) :: (.tup []) :: []) (S ++ [.row [.ref d 0 0] 26, b]) [] (fun x T S2 F => (x = .norm ∨ x = .ret) ∧ F = [] ∧ (∃ v, resultsV cfg.P #[] T S2 = some v) ∧ S2 = S.set d (.row [dskV r vs.length f lit off w (q + 1)] 89) ++ [.row [.ref d 0 0] 26, b]) := by
  conv => arg 2; whnf
  rw [wk_of]
  have hd := fun l => h.rd (l := l)
  have hp := fun l y => h.pd (l := l) (y := y)
  have h3 : IntKind.i64.wrap (q + 1) = q + 1 := wrap64 (by omega)
  simp (maxSteps := 1000000) (disch := first | assumption | omega | rfl) only [↓vmp, vme, vmb, ty, hP, dec_t, dec_f, wrap64, List.length_map, Int.toNat_natCast, Nat.reduceAdd, List.cons_append, List.nil_append, Option.map_some, Option.map_none, strOf_mk, sb_eql, sb_neq, vmg, ↓vgd, ↓vst, ↓vix, fr89_5, rA0 hS, hd, hp, lr26, lk5, sk5, h3]
  try exact ⟨.inl trivial, trivial, ⟨_, rfl⟩, trivial⟩
theorem read_ok (S : Store) (d r : Nat) (vs : List V) (f w q : Int) (lit : Bool) (no : Nat) (v : V) (b : List UInt8) (h : DskAt S d r vs f lit false w q) (hn : no < vs.length) (hv : vs[no] = v) (hb : IsB v b) (hl : b.length = 256) (hq : 0 ≤ q ∧ q ≤ 1000000) :
    EvS cfg 56 [.ref d 0 0, .d (.int .i64 (no : Int))] S (fun o S' => S' = S.set d (.row [dskV r vs.length f lit false w (q + 1)] 89) ++ [.row [.ref d 0 0] 26, .row [v] 42] ∧ o = .ret (.tup [v, .d (.int .i64 0)])) := by
  refine evS_dfr rfl body56 ?_
  show Wp cfg (Try.f56.body.getD .skip) ((.ref d 0 0) :: (.d (.int .i64 (no : Int))) :: (.tup []) :: (.tup []) :: (.tup []) :: (.tup []) :: (.tup []) :: (.tup []) :: (.tup []) :: (.tup []) :: (.tup []) :: (.tup []) :: (.tup []) :: (.tup []) :: (.tup []) :: (.tup []) :: (.tup []) :: (.tup []) :: (.tup []) :: (.tup []) :: (.tup []) :: []) S [] _
  conv => arg 2; whnf
  rw [wk_of]
  generalize ha : S.length = a
  have hm := fun {ops dst k T F Q} l => wr_callE (ops := ops) (dst := dst) (l := k) (T := T) (F := F) (Q := Q) rfl (may_ok (S ++ l) d r vs f w q lit no h.app hn)
  have hd := fun l => h.rd (l := l)
  have hix := fun l => h.ix (l := l) hn
  have hrr := fun l => h.rr (l := l) hn
  rw [hv] at hrr
  have hld := bt42.load hb hl
  have hst := bt42.store hb hl (w := blkV (zeros 256)) isB_v z256
  have hl0 : ∀ i o, (S.set i o).length = a := fun i o => lset.trans ha
  simp (maxSteps := 1000000) (disch := first | assumption | omega | rfl) only [↓vmp, vme, vmb, ty, hP, dec_t, dec_f, wrap64, List.length_map, Int.toNat_natCast, Nat.reduceAdd, List.cons_append, List.nil_append, Option.map_some, Option.map_none, strOf_mk, sb_eql, sb_neq, vmg, ↓vgd, ↓vst, ↓vix, ft26, z42, zf42, List.append_assoc, List.length_append, List.length_cons, List.length_nil, ha, rA0 ha, rA1 ha, pA1 ha, lr26, hm, bo93, hd, fr89_0, lk0, hix, hrr, hld, hst, wl_makeFunc, mf96, wl_defer, df96, wr_dfr]
  have hres : ∀ T : List V, T.getD 4 (.tup []) = .ref (a + 1) 0 0 → T.getD 5 (.tup []) = .d (.int .i64 0) → resultsV Try.prog #[.cell 4 42, .tmp 5] T (S.set d (.row [dskV r vs.length f lit false w (q + 1)] 89) ++ [.row [.ref d 0 0] 26, .row [v] 42]) = some (.tup [v, .d (.int .i64 0)]) := fun T h1 h2 => by
    have hl1 : loadV Try.prog (S.set d (.row [dskV r vs.length f lit false w (q + 1)] 89) ++ [.row [.ref d 0 0] 26, .row [v] 42]) 42 (.ref (a + 1) 0 0) = some v := (loadV_row (rA1 (hl0 _ _))).trans hld
    have h3 : V.one (.d (.int .i64 0)) = true := rfl
    simp only [resultsV, allO, resultV, h1, h2, hl1, List.all_cons, List.all_nil, hb.one, h3, Bool.and_self, if_true]
  exact ⟨.inr rfl, _, _, ⟨_, _, body96, rdone _ a d r _ _ w q _ _ h ha hq _, rfl⟩, hres _ rfl rfl, rfl, rfl⟩
theorem room37 {m : Nat} (h : m ≤ 1000000) : room Try.prog 42 m = true := room_of rfl (by decide +kernel) h
theorem bs37 {S : Store} {T : List V} {dst : Option Tmp} {ty : TypeId} {pos : String} {after : Array Edge} {g : Option (Nat × Bool)} : opV Try.prog S T ⟨dst, .buildSlice 37 0 #[], ty, pos, after, g⟩ = some (.val (.ts []) S 0) := by kernel_rfl
theorem app37 {S : Store} {r : Nat} {vs : List V} (hr : S[r]? = some (.row vs 42)) (h0 : vs ≠ []) (hl : vs.length ≤ 100000) (hv : ∀ v ∈ vs, fitsT Try.prog 42 v = true) : appendV Try.prog S 37 37 (.ts []) (.rs r 0 vs.length) = some (.rs S.length 0 vs.length, S ++ [.row vs 42], 2) := by
  have hall : vs.all (fitsT Try.prog 42) = true := by rw [List.all_eq_true]; exact hv
  have h5 : (sz Try.prog 42).isSome = true := by kernel_rfl
  have hz : zOk Try.prog 42 = true := by kernel_rfl
  have el : elemsV S (.rs r 0 vs.length) = some vs := by
    simp only [elemsV, hr, Nat.zero_add, Nat.le_refl, if_true, List.drop_zero, List.take_length]
  have src : srcV Try.prog S 42 37 (.rs r 0 vs.length) = some vs := by
    simp only [srcV, u37, el, hall, h5, Bool.and_self, if_true]
  cases vs with
  | nil => exact absurd rfl h0
  | cons a t =>
    simp only [List.length_cons] at src
    have hr2 : room Try.prog 42 (t.length + 1) = true := room37 (by simp at hl; omega)
    simp only [appendV, u37, src, hz, if_true, List.all_nil, List.length_nil, Nat.zero_add, hr2, Bool.and_self, List.map_nil, List.nil_append, List.length_cons]
theorem image_ok (S : Store) (d r : Nat) (vs : List V) (f w q : Int) (lit off : Bool) (h : DskAt S d r vs f lit off w q) (h0 : vs ≠ []) (hl : vs.length ≤ 100000) (hv : ∀ v ∈ vs, fitsT Try.prog 42 v = true) : EvS cfg 15 [.ref d 0 0] S (fun o S' => S' = S ++ [.row vs 42] ∧ o = .ret (.rs S.length 0 vs.length)) := by
  refine evS_of rfl body15 ?_
  show Wp cfg (Try.f15.body.getD .skip) ((.ref d 0 0) :: (.tup []) :: (.tup []) :: (.tup []) :: (.tup []) :: (.tup []) :: (.tup []) :: (.tup []) :: (.tup []) :: (.tup []) :: (.tup []) :: []) S [] _
  conv => arg 2; whnf
  rw [wk_of]
  have hd := h.rd'
  have hap := app37 h.hr h0 hl hv
  simp (maxSteps := 1000000) (disch := first | assumption | omega | rfl) only [↓vmp, vme, vmb, ty, hP, dec_t, dec_f, wrap64, List.length_map, Int.toNat_natCast, Nat.reduceAdd, List.cons_append, List.nil_append, Option.map_some, Option.map_none, strOf_mk, sb_eql, sb_neq, vmg, ↓vgd, ↓vst, ↓vix, ↓vbs, eq26f, fr89_0, hd, lk0, bs37, hap]
  exact ⟨rfl, _, rfl, rfl, rfl⟩
theorem mk37 {S : Store} {n : Nat} (h : n ≤ 1000000) : makeSliceV Try.prog S 37 (.d (.int .i64 (n : Int))) (.d (.int .i64 (n : Int))) = some (.rs S.length 0 n, S ++ [.row (List.replicate n (blkV (zeros 256))) 42]) := by
  have hr := room37 h
  simp only [makeSliceV, u37, z42, Int.toNat_natCast, hr, zf42, Bool.and_self, if_true]
  rw [if_pos ⟨by omega, Int.le_refl _, by omega⟩]
theorem bd89 {r n : Nat} : buildV Try.prog 89 [(0, .rs r 0 n)] = some (dskV r n 0 false false 0 0) := by kernel_rfl
theorem ft89 {r n : Nat} {f w q : Int} {lit off : Bool} : fitsT Try.prog 89 (dskV r n f lit off w q) = true := by kernel_rfl
theorem new_ok (S : Store) (n : Nat) (h1 : 16 ≤ n) (h2 : n ≤ 512) : EvS cfg 8 [.d (.int .i64 (n : Int))] S (fun o S' => S' = S ++ [.row (List.replicate n (blkV (zeros 256))) 42, .row [dskV S.length n 0 false false 0 0] 89] ∧ o = .ret (.ref (S.length + 1) 0 0)) := by
  refine evS_of rfl body8 ?_
  show Wp cfg (Try.f8.body.getD .skip) ((.d (.int .i64 (n : Int))) :: (.tup []) :: (.tup []) :: (.tup []) :: (.tup []) :: (.tup []) :: (.tup []) :: (.tup []) :: (.tup []) :: (.tup []) :: []) S [] _
  conv => arg 2; whnf
  rw [wk_of]
  have hmin := fun S => min_le (S := S) (a := (n : Int)) (b := 512) (by omega)
  have hmax := fun S => max_le (S := S) (a := 16) (b := (n : Int)) (by omega)
  have hmk := fun S => mk37 (S := S) (n := n) (by omega)
  have h1 : (dskV S.length n 0 false false 0 0).one = true := rfl
  simp (maxSteps := 1000000) (disch := first | assumption | omega | rfl) only [↓vmp, vme, vmb, ty, hP, dec_t, dec_f, wrap64, List.length_map, Int.toNat_natCast, Nat.reduceAdd, List.cons_append, List.nil_append, Option.map_some, Option.map_none, strOf_mk, sb_eql, sb_neq, vmg, ↓vgd, ↓vst, ↓vix, hmin, hmax, hmk, bd89, ft89, h1, List.append_assoc, List.length_append, List.length_cons, List.length_nil]
  exact ⟨rfl, _, rfl, rfl, rfl⟩
end Go.Proofs.Ytobgdmgldagjkaa
end
/-! store.Format: what is written to a disk. -/
section
set_option linter.unusedVariables false
set_option linter.unusedSimpArgs false
set_option maxRecDepth 100000
set_option maxHeartbeats 4000000
namespace Go.Proofs.Ytobgdmgldagjkaa
open Go.Vm
/-- All but two objects of a store stay. -/
def K2 (d r : Nat) (S S' : Store) : Prop := ∀ j o, j ≠ d → j ≠ r → S[j]? = some o → S'[j]? = some o
section
variable {d r : Nat} {S S' S'' l : Store} {o : Ob}
theorem K2.refl : K2 d r S S := fun _ _ _ _ h => h
theorem K2.trans (h : K2 d r S S') (h' : K2 d r S' S'') : K2 d r S S'' := fun j o a b c => h' j o a b (h j o a b c)
theorem K2.app (h : K2 d r S S') : K2 d r S (S' ++ l) := fun j o a b c => by
  have := h j o a b c
  rw [List.getElem?_append_left (getLen this)]; exact this
theorem K2.setd (h : K2 d r S S') : K2 d r S (S'.set d o) := fun j p a b c => by
  rw [List.getElem?_set_ne (Ne.symm a)]; exact h j p a b c
theorem K2.setr (h : K2 d r S S') : K2 d r S (S'.set r o) := fun j p a b c => by
  rw [List.getElem?_set_ne (Ne.symm b)]; exact h j p a b c
end
/-- What is laid behind the map. -/
def blkAt (no : Nat) : List UInt8 := if no = 2 then rootB else zeros 256
theorem blkAt_len (no : Nat) : (blkAt no).length = 256 := by unfold blkAt; split <;> rfl
def Fin2 (vs : List V) (B no : Nat) : Prop := vs.length = B ∧ vs[0]? = some (blkV (zeros 256)) ∧ ∀ i v, vs[i]? = some v → IsB v (if 2 ≤ i ∧ i < no then blkAt i else zeros 256)
theorem Fin2.next {vs : List V} {B no : Nat} {u : V} (h : Fin2 vs B no) (h2 : 2 ≤ no) (hu : IsB u (blkAt no)) : Fin2 (vs.set no u) B (no + 1) := by
  obtain ⟨h1, h3, h4⟩ := h
  refine ⟨by rw [List.length_set]; exact h1, by rw [List.getElem?_set_ne (by omega)]; exact h3, ?_⟩
  intro i v hv
  by_cases hi : i = no
  · subst hi
    have hlt : i < vs.length := by have := (List.getElem?_eq_some_iff.1 hv).1; rwa [List.length_set] at this
    rw [List.getElem?_set_self hlt] at hv
    cases hv
    rw [if_pos ⟨h2, by omega⟩]
    exact hu
  · rw [List.getElem?_set_ne (Ne.symm hi)] at hv
    have := h4 i v hv
    by_cases hc : 2 ≤ i ∧ i < no
    · rw [if_pos hc] at this; rw [if_pos ⟨hc.1, by omega⟩]; exact this
    · rw [if_neg hc] at this; rw [if_neg (by omega)]; exact this
theorem Fin2.at {vs : List V} {B no : Nat} (h : Fin2 vs B no) (hn : no < vs.length) : IsB vs[no] (zeros 256) := by
  have := h.2.2 no vs[no] (List.getElem?_eq_getElem hn)
  rw [if_neg (by omega)] at this
  exact this
theorem bd61 : buildV Try.prog 61 [(0, .d (.int .i64 2)), (1, .d (.int .i64 1)), (3, .d (.int .i64 1))] = some (.agg [.d (.int .i64 2), .d (.int .i64 1), .d (.int .i64 0), .d (.int .i64 1), .d (.int .i64 0), .d (.int .i64 0), .d (.int .i64 0), .d (.int .i64 0), .d (.int .i64 0), .d (.int .i64 0), .d (.int .i64 0)]) := by kernel_rfl
theorem rootB_len : rootB.length = 256 := rfl
section
variable {ops : Array Oper} {dst : Option Tmp} {k : List Oper} {T : List V} {S : Store} {F : Dfs} {Q : Post}
theorem call_tw : WpR cfg ops dst k T S F Q (some (.enter 52 [blkV (zeros 256), .d (.int .i64 0), .agg [.d (.int .i64 2), .d (.int .i64 1), .d (.int .i64 0), .d (.int .i64 1), .d (.int .i64 0), .d (.int .i64 0), .d (.int .i64 0), .d (.int .i64 0), .d (.int .i64 0), .d (.int .i64 0), .d (.int .i64 0)]])) = WpL cfg ops k (putT T dst (.tup [.d (blkD rootB), .d (.int .i64 0)])) S F Q :=
  wr_call_v (ds := [blkD (zeros 256), .int .i64 0, rootD]) rfl (by simp only [allO, frz_v]; rfl) (by kernel_rfl) twith_ok
theorem call_map : WpR cfg ops dst k T S F Q (some (.enter 50 [])) = WpL cfg ops k (putT T dst (.d (.int .i64 1))) S F Q :=
  wr_call_d (ds := []) rfl Map_ok
theorem call_data {l : Lay} (hb : InB l.blocks) (hi : InB l.inodes) (hm : MayL l) : WpR cfg ops dst k T S F Q (some (.enter 51 [.d (encLay l)])) = WpL cfg ops k (putT T dst (.d (.int .i64 (2 + l.inodes.tdiv 8)))) S F Q :=
  wr_call_d (ds := [encLay l]) rfl (Data_ok l hb hi hm)
theorem we_callE {S2 : Store} {K : List Nat → List (Nat × Nat) → List V → Store → Prop} {rd : List Nat} {cs : List (Nat × Nat)} {i : Nat} {f : FuncId} {args : List V} {v : V} (hs : cfg.shared f = true) (he : EvS cfg f args S (fun o S' => S' = S2 ∧ o = .ret v)) :
    WpE cfg ops F Q K rd cs i dst T S (some (.enter f args)) = (bitsOk ops rd i 3 ∧ K rd (cs ++ [(i, 3)]) (putT T dst v) S2) := by
  obtain ⟨n, o, S', hn, rfl, rfl⟩ := he
  have hc : callV cfg (run cfg n) f args S = some (.ret v, S', 3) := by
    unfold callV
    simp only [hs, if_true, hn, Option.map_some]
  apply propext
  constructor
  · rintro ⟨m, v', S2, c, h1, h2, h3⟩
    have := callV_det h1 hc
    simp only [Prod.mk.injEq] at this
    obtain ⟨h4, rfl, rfl⟩ := this
    cases h4
    exact ⟨h2, h3⟩
  · exact fun h => ⟨n, _, _, _, hc, h.1, h.2⟩
end
theorem fmt_l (l : Lay) (B K : Nat) (hb : InB l.blocks) (hi : InB l.inodes) (hm : MayL l) (hK : 2 + l.inodes.tdiv 8 = ((2 + K : Nat) : Int)) (hK1 : K ≤ 16) (hB : 2 + K < B) (S0 : Store) (a d r : Nat) (hd : d < a) (hr : r < a) (h0 : S0[a]? = some (.row [.d (encLay l)] 24)) (lit : Bool) (f0 : Int) (R : Post) (x5 : V) :
   ∀ (k no : Nat) (S : Store) (vs : List V) (f w : Int) (g1 g2 g4 g6 g8 g9 g10 g11 g12 g13 g14 g15 g16 g17 g18 g19 g20 g21 g22 g23 g24 g25 g26 g27 g28 g29 g30 g31 g32 g33 g34 g35 g36 g37 g38 g39 g40 g41 g42 g43 g44 g45 g46 g47 g48 g49 g50 g51 g52 g53 g54 g55 g56 g57 g58 g59 g60 g61 g62 g63 : V), 2 + K - no = k → 2 ≤ no → no ≤ 2 + K → K2 d r S0 S → DskAt S d r vs f lit false w 0 → w = (no : Int) - 2 → Fin2 vs B no → (lit = true → f + w = f0) → (0 ≤ f ∧ InB f) →
   (∀ (S : Store) (vs : List V) (f w : Int) (g1 g2 g4 g6 g8 g9 g10 g11 g12 g13 g14 g15 g16 g17 g18 g19 g20 g21 g22 g23 g24 g25 g26 g27 g28 g29 g30 g31 g32 g33 g34 g35 g36 g37 g38 g39 g40 g41 g42 g43 g44 g45 g46 g47 g48 g49 g50 g51 g52 g53 g54 g55 g56 g57 g58 g59 g60 g61 g62 g63 : V), K2 d r S0 S → DskAt S d r vs f lit false w 0 → w = (K : Int) → Fin2 vs B (2 + K) → (lit = true → f + w = f0) → (0 ≤ f ∧ InB f) → R (.exit 0) ((.ref d 0 0) :: g1 :: g2 :: (.ref a 0 0) :: g4 :: x5 :: g6 :: (.d (.int .i64 ((2 + K : Nat) : Int))) :: g8 :: g9 :: g10 :: g11 :: g12 :: g13 :: g14 :: g15 :: g16 :: g17 :: g18 :: g19 :: g20 :: g21 :: g22 :: g23 :: g24 :: g25 :: g26 :: g27 :: g28 :: g29 :: g30 :: g31 :: g32 :: g33 :: g34 :: g35 :: g36 :: g37 :: g38 :: g39 :: g40 :: g41 :: g42 :: g43 :: g44 :: g45 :: g46 :: g47 :: g48 :: g49 :: g50 :: g51 :: g52 :: g53 :: g54 :: g55 :: g56 :: g57 :: g58 :: g59 :: g60 :: g61 :: g62 :: g63 :: []) S []) →
   (∀ (S : Store) (vs : List V) (w : Int) (T : List V), lit = true → f0 < K → K2 d r S0 S → DskAt S d r vs 0 true true w 0 → vs.length = B → vs[0]? = some (blkV (zeros 256)) → T.getD 4 (.tup []) = .d (.int .i64 12) → R .ret T S []) →
   Wp cfg (.loop (lpOf (Try.f10.body.getD .skip) 0)) ((.ref d 0 0) :: g1 :: g2 :: (.ref a 0 0) :: g4 :: x5 :: g6 :: (.d (.int .i64 (no : Int))) :: g8 :: g9 :: g10 :: g11 :: g12 :: g13 :: g14 :: g15 :: g16 :: g17 :: g18 :: g19 :: g20 :: g21 :: g22 :: g23 :: g24 :: g25 :: g26 :: g27 :: g28 :: g29 :: g30 :: g31 :: g32 :: g33 :: g34 :: g35 :: g36 :: g37 :: g38 :: g39 :: g40 :: g41 :: g42 :: g43 :: g44 :: g45 :: g46 :: g47 :: g48 :: g49 :: g50 :: g51 :: g52 :: g53 :: g54 :: g55 :: g56 :: g57 :: g58 :: g59 :: g60 :: g61 :: g62 :: g63 :: []) S [] R := by
  intro k
  induction k with
  | zero =>
    intro no S vs f w g1 g2 g4 g6 g8 g9 g10 g11 g12 g13 g14 g15 g16 g17 g18 g19 g20 g21 g22 g23 g24 g25 g26 g27 g28 g29 g30 g31 g32 g33 g34 g35 g36 g37 g38 g39 g40 g41 g42 g43 g44 g45 g46 g47 g48 g49 g50 g51 g52 g53 g54 g55 g56 g57 g58 g59 g60 g61 g62 g63 hk h2 hn hK2 hD hw hF hlf hf hE hR
    have hie : no = 2 + K := by omega
    subst hie
    have hcell : rowE S a 0 = some (.d (encLay l)) := rowE_of (hK2 _ _ (by omega) (by omega) h0)
    have hdt := fun {ops dst k T S F Q} => call_data (ops := ops) (dst := dst) (k := k) (T := T) (S := S) (F := F) (Q := Q) hb hi hm
    rw [hK] at hdt
    rw [wk_of]
    refine wk_loop ?_
    conv => arg 2; whnf
    simp (maxSteps := 1000000) (disch := first | assumption | omega | rfl) only [↓vmp, vme, vmb, ty, hP, dec_t, dec_f, wrap64, List.length_map, Int.toNat_natCast, Nat.reduceAdd, List.cons_append, List.nil_append, Option.map_some, Option.map_none, strOf_mk, sb_eql, sb_neq, vmg, ↓vgd, ↓vst, ↓vix, hcell, hdt, bo51]
    exact hE S vs f w _ _ _ _ _ _ _ _ _ _ _ _ _ _ _ _ _ _ _ _ _ _ _ _ _ _ _ _ _ _ _ _ _ _ _ _ _ _ _ _ _ _ _ _ _ _ _ _ _ _ _ _ _ _ _ _ _ _ _ _ hK2 hD (by omega) hF hlf hf
  | succ k ih =>
    intro no S vs f w g1 g2 g4 g6 g8 g9 g10 g11 g12 g13 g14 g15 g16 g17 g18 g19 g20 g21 g22 g23 g24 g25 g26 g27 g28 g29 g30 g31 g32 g33 g34 g35 g36 g37 g38 g39 g40 g41 g42 g43 g44 g45 g46 g47 g48 g49 g50 g51 g52 g53 g54 g55 g56 g57 g58 g59 g60 g61 g62 g63 hk h2 hn hK2 hD hw hF hlf hf hE hR
    have hlt : no < 2 + K := by omega
    have hcell : rowE S a 0 = some (.d (encLay l)) := rowE_of (hK2 _ _ (by omega) (by omega) h0)
    have hdt := fun {ops dst k T S F Q} => call_data (ops := ops) (dst := dst) (k := k) (T := T) (S := S) (F := F) (Q := Q) hb hi hm
    rw [hK] at hdt
    have h3 : IntKind.i64.wrap ((no : Int) + 1) = ((no + 1 : Nat) : Int) := by rw [wrap64 (by omega)]; omega
    have hvl : no < vs.length := by have := hF.1; omega
    have hu0 := hF.at hvl
    have l0 := z256
    have l1 := rootB_len
    rw [wk_of]
    refine wk_loop ?_
    conv => arg 2; whnf
    by_cases hn2 : no = 2
    · have hB2 : blkAt no = rootB := if_pos hn2
      have hnt : ((no : Int) = 2) = True := by simp [hn2]
      by_cases hoff : lit = true ∧ f = 0
      · obtain ⟨rfl, rfl⟩ := hoff
        have hwr := fun {ops dst k T F Q} => wr_callE (ops := ops) (dst := dst) (l := k) (T := T) (F := F) (Q := Q) rfl (write_off (S ++ [.row [.d (blkD rootB)] 42]) d r vs w 0 no (.d (blkD rootB)) _ hD.app hvl (isB_d (b := rootB)) (by rfl))
        simp (maxSteps := 1000000) (disch := first | assumption | omega | rfl) only [↓vmp, vme, vmb, ty, hP, dec_t, dec_f, wrap64, List.length_map, Int.toNat_natCast, Nat.reduceAdd, List.cons_append, List.nil_append, Option.map_some, Option.map_none, strOf_mk, sb_eql, sb_neq, vmg, ↓vgd, ↓vst, ↓vix, hcell, hdt, bo51, z42, zf42, call_map, bo50, rowE_app, putRow_app, bd61, call_tw, bo52, sdv42, ldv42, ldd42, one_v, dec_True, hnt, hwr, bo53]
        exact hR _ vs w _ rfl (by have := hlf rfl; omega) hK2.app.setd.app (hD.app.setd (f' := 0) (lit' := true) (off' := true) (w' := w) (q' := 0)).app hF.1 hF.2.1 rfl
      · have hlf0 : lit = true → f ≠ 0 := fun e h => hoff ⟨e, h⟩
        have hwr := fun {ops dst k T F Q} => wr_callE (ops := ops) (dst := dst) (l := k) (T := T) (F := F) (Q := Q) rfl (write_ok (S ++ [.row [.d (blkD rootB)] 42]) d r vs f w 0 lit no (.d (blkD rootB)) vs[no] _ _ hD.app hvl (isB_d (b := rootB)) (by rfl) rfl hu0 l0 (by omega) hf hlf0)
        simp (maxSteps := 1000000) (disch := first | assumption | omega | rfl) only [↓vmp, vme, vmb, ty, hP, dec_t, dec_f, wrap64, List.length_map, Int.toNat_natCast, Nat.reduceAdd, List.cons_append, List.nil_append, Option.map_some, Option.map_none, strOf_mk, sb_eql, sb_neq, vmg, ↓vgd, ↓vst, ↓vix, hcell, hdt, bo51, z42, zf42, call_map, bo50, rowE_app, putRow_app, bd61, call_tw, bo52, sdv42, ldv42, ldd42, one_v, dec_True, hnt, hwr, bo53, h3]
        refine ih (no + 1) _ (vs.set no (.d (blkD rootB))) (if lit = true then f - 1 else f) (w + 1) _ _ _ _ _ _ _ _ _ _ _ _ _ _ _ _ _ _ _ _ _ _ _ _ _ _ _ _ _ _ _ _ _ _ _ _ _ _ _ _ _ _ _ _ _ _ _ _ _ _ _ _ _ _ _ _ _ _ _ _ (by omega) (by omega) (by omega) hK2.app.setd.setr.app (hD.app.setd (f' := if lit = true then f - 1 else f) (lit' := lit) (off' := false) (w' := w + 1) (q' := 0)).setr.app (by omega) (hF.next h2 (by rw [hB2]; exact isB_d)) ?_ ?_ hE hR
        · intro e; rw [if_pos e]; have := hlf e; omega
        · obtain ⟨q1, q2, q3⟩ := hf
          cases lit
          · exact ⟨q1, q2, q3⟩
          · have := hlf0 rfl; exact ⟨by simp only [if_true]; omega, by simp only [InB, if_true]; omega⟩
    · have hB2 : blkAt no = zeros 256 := if_neg hn2
      have hn3 : ¬ (no : Int) = 2 := by omega
      have hde : ∀ i : Decidable ((no : Int) = 2), @decide ((no : Int) = 2) i = false := fun i => decide_eq_false hn3
      by_cases hoff : lit = true ∧ f = 0
      · obtain ⟨rfl, rfl⟩ := hoff
        have hwr := fun {ops dst k T F Q} => wr_callE (ops := ops) (dst := dst) (l := k) (T := T) (F := F) (Q := Q) rfl (write_off (S ++ [.row [blkV (zeros 256)] 42]) d r vs w 0 no (blkV (zeros 256)) _ hD.app hvl (isB_v (b := zeros 256)) (by rfl))
        simp (maxSteps := 1000000) (disch := first | assumption | omega | rfl) only [↓vmp, vme, vmb, ty, hP, dec_t, dec_f, wrap64, List.length_map, Int.toNat_natCast, Nat.reduceAdd, List.cons_append, List.nil_append, Option.map_some, Option.map_none, strOf_mk, sb_eql, sb_neq, vmg, ↓vgd, ↓vst, ↓vix, hcell, hdt, bo51, z42, zf42, call_map, bo50, rowE_app, putRow_app, bd61, call_tw, bo52, sdv42, ldv42, ldd42, one_v, dec_True, hde, hwr, bo53]
        exact hR _ vs w _ rfl (by have := hlf rfl; omega) hK2.app.setd.app (hD.app.setd (f' := 0) (lit' := true) (off' := true) (w' := w) (q' := 0)).app hF.1 hF.2.1 rfl
      · have hlf0 : lit = true → f ≠ 0 := fun e h => hoff ⟨e, h⟩
        have hwr := fun {ops dst k T F Q} => wr_callE (ops := ops) (dst := dst) (l := k) (T := T) (F := F) (Q := Q) rfl (write_ok (S ++ [.row [blkV (zeros 256)] 42]) d r vs f w 0 lit no (blkV (zeros 256)) vs[no] _ _ hD.app hvl (isB_v (b := zeros 256)) (by rfl) rfl hu0 l0 (by omega) hf hlf0)
        simp (maxSteps := 1000000) (disch := first | assumption | omega | rfl) only [↓vmp, vme, vmb, ty, hP, dec_t, dec_f, wrap64, List.length_map, Int.toNat_natCast, Nat.reduceAdd, List.cons_append, List.nil_append, Option.map_some, Option.map_none, strOf_mk, sb_eql, sb_neq, vmg, ↓vgd, ↓vst, ↓vix, hcell, hdt, bo51, z42, zf42, call_map, bo50, rowE_app, putRow_app, bd61, call_tw, bo52, sdv42, ldv42, ldd42, one_v, dec_True, hde, hwr, bo53, h3]
        refine ih (no + 1) _ (vs.set no (blkV (zeros 256))) (if lit = true then f - 1 else f) (w + 1) _ _ _ _ _ _ _ _ _ _ _ _ _ _ _ _ _ _ _ _ _ _ _ _ _ _ _ _ _ _ _ _ _ _ _ _ _ _ _ _ _ _ _ _ _ _ _ _ _ _ _ _ _ _ _ _ _ _ _ _ (by omega) (by omega) (by omega) hK2.app.setd.setr.app (hD.app.setd (f' := if lit = true then f - 1 else f) (lit' := lit) (off' := false) (w' := w + 1) (q' := 0)).setr.app (by omega) (hF.next h2 (by rw [hB2]; exact isB_v)) ?_ ?_ hE hR
        · intro e; rw [if_pos e]; have := hlf e; omega
        · obtain ⟨q1, q2, q3⟩ := hf
          cases lit
          · exact ⟨q1, q2, q3⟩
          · have := hlf0 rfl; exact ⟨by simp only [if_true]; omega, by simp only [InB, if_true]; omega⟩
end Go.Proofs.Ytobgdmgldagjkaa
end
/-! store.Format: what it tells, and what the disk has then. -/
section
set_option linter.unusedVariables false
set_option linter.unusedSimpArgs false
set_option maxRecDepth 100000
set_option maxHeartbeats 4000000
namespace Go.Proofs.Ytobgdmgldagjkaa
open Go.Vm
def finB (B I M K i : Nat) : List UInt8 := if i = 0 then supB B I M else if i = 1 then mapB (2 + K) else blkAt i
def FmtR (S : Store) (d r B I M K : Nat) (lit : Bool) (f0 : Int) : Out → Store → Prop := fun o S' =>
  (¬ (lit = true ∧ f0 < 2 + (K : Int)) ∧ o = .ret (.d (.int .i64 0)) ∧ ∃ vs f w, K2 d r S S' ∧ DskAt S' d r vs f lit false w 0 ∧ vs.length = B ∧ (∀ (i : Nat) (v : V), vs[i]? = some v → IsB v (finB B I M K i)) ∧ (lit = false → 0 ≤ f ∧ InB f ∧ 0 ≤ w ∧ w ≤ 100)) ∨
  ((lit = true ∧ f0 < 2 + (K : Int)) ∧ o = .ret (.d (.int .i64 12)) ∧ ∃ vs w, K2 d r S S' ∧ DskAt S' d r vs 0 true true w 0 ∧ vs.length = B ∧ vs[0]? = some (blkV (zeros 256)))
theorem dw_callE {ops : Array Oper} {base : Nat} {K : Ws → List (Nat × Nat) → List V → Store → Prop} {ws : Ws} {cs : List (Nat × Nat)} {i : Nat} {dst : Option Tmp} {T : List V} {S S2 : Store} {f : FuncId} {args : List V} {v : V} (hs : cfg.shared f = true) (he : EvS cfg f args S (fun o S' => S' = S2 ∧ o = .ret v)) :
    WpEw cfg ops base K ws cs i dst T S (some (.enter f args)) = (WAll cfg ops base ws i S2 ∧ K ws (cs ++ [(i, 3)]) (putT T dst v) S2) := by
  obtain ⟨n, o, S', hn, rfl, rfl⟩ := he
  have hc : callV cfg (run cfg n) f args S = some (.ret v, S', 3) := by
    unfold callV
    simp only [hs, if_true, hn, Option.map_some]
  apply propext
  constructor
  · rintro ⟨m, v', S2, c, h1, h2, h3⟩
    have := callV_det h1 hc
    simp only [Prod.mk.injEq] at this
    obtain ⟨h4, rfl, rfl⟩ := this
    cases h4
    exact ⟨h2 (by decide), h3⟩
  · exact fun h => ⟨n, _, _, _, hc, fun _ => h.1, h.2⟩
theorem ld_op {T : List V} {S : Store} {dst : Option Tmp} {t x : Nat} {ty : TypeId} {pos : String} {after : Array Edge} {g : Option (Nat × Bool)} {v : V} (h : loadV Try.prog S t (T.getD x .junk) = some v) : opV Try.prog S T ⟨dst, .load t (.tmp x), ty, pos, after, g⟩ = some (.val v S 1) := by
  show (loadV Try.prog S t (T.getD x .junk)).map (fun v => Rs.val v S 1) = _
  rw [h]
  rfl
theorem sameLeaf_i {k : IntKind} {n : Int} : sameV (.d (.int k n)) (.d (.int k n)) = true := by simp [sameV, sameCell, sameCell0, sameF, sameLeaf]
theorem fin0 (n : Nat) (hn : 1 ≤ n) : Fin2 (List.replicate n (blkV (zeros 256))) n 2 := by
  refine ⟨List.length_replicate .., by rw [List.getElem?_replicate, if_pos (by omega)], ?_⟩
  intro i v hv
  rw [List.getElem?_replicate] at hv
  split at hv
  · cases hv; rw [if_neg (by omega)]; exact isB_v
  · cases hv
theorem fmt_nil (l : Lay) (hb : InB l.blocks) (hi : InB l.inodes) (v : V) (hv : Ev cfg 48 [encLay l] (.ret v)) (b : List UInt8) (e : Int) (hve : v = .tup [.d (blkD b), .d (.int .i64 e)]) (hbl : b.length = 256) (S : Store) : EvS cfg 10 [.d .nilp, .d (encLay l)] S (fun o S' => S' = S ++ [.row [.d (encLay l)] 24, .row [.d (blkD b)] 42] ∧ o = .ret (.d (.int .i64 1))) := by
  refine evS_of rfl body10 ?_
  show Wp cfg (Try.f10.body.getD .skip) ((.d .nilp) :: (.d (encLay l)) :: (.tup []) :: (.tup []) :: (.tup []) :: (.tup []) :: (.tup []) :: (.tup []) :: (.tup []) :: (.tup []) :: (.tup []) :: (.tup []) :: (.tup []) :: (.tup []) :: (.tup []) :: (.tup []) :: (.tup []) :: (.tup []) :: (.tup []) :: (.tup []) :: (.tup []) :: (.tup []) :: (.tup []) :: (.tup []) :: (.tup []) :: (.tup []) :: (.tup []) :: (.tup []) :: (.tup []) :: (.tup []) :: (.tup []) :: (.tup []) :: (.tup []) :: (.tup []) :: (.tup []) :: (.tup []) :: (.tup []) :: (.tup []) :: (.tup []) :: (.tup []) :: (.tup []) :: (.tup []) :: (.tup []) :: (.tup []) :: (.tup []) :: (.tup []) :: (.tup []) :: (.tup []) :: (.tup []) :: (.tup []) :: (.tup []) :: (.tup []) :: (.tup []) :: (.tup []) :: (.tup []) :: (.tup []) :: (.tup []) :: (.tup []) :: (.tup []) :: (.tup []) :: (.tup []) :: (.tup []) :: (.tup []) :: (.tup []) :: []) S [] _
  conv => arg 2; whnf
  rw [wk_of]
  subst hve
  have l0 := z256
  have hp := fun {ops dst k T S F Q} => call_sput (ops := ops) (dst := dst) (k := k) (T := T) (S := S) (F := F) (Q := Q) hv
  simp (maxSteps := 1000000) (disch := first | assumption | omega | rfl) only [↓vmp, vme, vmb, ty, hP, dec_t, dec_f, wrap64, List.length_map, Int.toNat_natCast, Nat.reduceAdd, List.cons_append, List.nil_append, Option.map_some, Option.map_none, strOf_mk, sb_eql, sb_neq, vmg, ↓vgd, ↓vst, ↓vix, List.append_assoc, List.length_append, List.length_cons, List.length_nil, rA0 rfl, rA1 rfl, pA1 rfl, hp, bo48, z42, zf42, sdv42, eq26n]
  exact ⟨rfl, _, rfl, rfl, rfl⟩
theorem fmt_bad (l : Lay) (hb : InB l.blocks) (hi : InB l.inodes) (hm : ¬ MayL l) (d : Nat) (S : Store) : EvS cfg 10 [.ref d 0 0, .d (encLay l)] S (fun o S' => S' = S ++ [.row [.d (encLay l)] 24, .row [.d (blkD (zeros 256))] 42] ∧ o = .ret (.d (.int .i64 1))) := by
  refine evS_of rfl body10 ?_
  show Wp cfg (Try.f10.body.getD .skip) ((.ref d 0 0) :: (.d (encLay l)) :: (.tup []) :: (.tup []) :: (.tup []) :: (.tup []) :: (.tup []) :: (.tup []) :: (.tup []) :: (.tup []) :: (.tup []) :: (.tup []) :: (.tup []) :: (.tup []) :: (.tup []) :: (.tup []) :: (.tup []) :: (.tup []) :: (.tup []) :: (.tup []) :: (.tup []) :: (.tup []) :: (.tup []) :: (.tup []) :: (.tup []) :: (.tup []) :: (.tup []) :: (.tup []) :: (.tup []) :: (.tup []) :: (.tup []) :: (.tup []) :: (.tup []) :: (.tup []) :: (.tup []) :: (.tup []) :: (.tup []) :: (.tup []) :: (.tup []) :: (.tup []) :: (.tup []) :: (.tup []) :: (.tup []) :: (.tup []) :: (.tup []) :: (.tup []) :: (.tup []) :: (.tup []) :: (.tup []) :: (.tup []) :: (.tup []) :: (.tup []) :: (.tup []) :: (.tup []) :: (.tup []) :: (.tup []) :: (.tup []) :: (.tup []) :: (.tup []) :: (.tup []) :: (.tup []) :: (.tup []) :: (.tup []) :: (.tup []) :: []) S [] _
  conv => arg 2; whnf
  rw [wk_of]
  have l0 := z256
  have hp := fun {ops dst k T S F Q} => call_sput (ops := ops) (dst := dst) (k := k) (T := T) (S := S) (F := F) (Q := Q) (put_bad l hb hi hm)
  simp (maxSteps := 1000000) (disch := first | assumption | omega | rfl) only [↓vmp, vme, vmb, ty, hP, dec_t, dec_f, wrap64, List.length_map, Int.toNat_natCast, Nat.reduceAdd, List.cons_append, List.nil_append, Option.map_some, Option.map_none, strOf_mk, sb_eql, sb_neq, vmg, ↓vgd, ↓vst, ↓vix, List.append_assoc, List.length_append, List.length_cons, List.length_nil, rA0 rfl, rA1 rfl, pA1 rfl, hp, bo48, z42, zf42, sdv42, eq26f]
  exact ⟨rfl, _, rfl, rfl, rfl⟩
section
variable (l : Lay) (B I M K : Nat) (hl : l = ⟨(B : Int), (I : Int), (M : Int)⟩) (hB : B ≤ 512) (hI : I ≤ 128) (hM : M < 18446744073709551616) (hm : MayL l) (S : Store) (d r : Nat) (vs : List V) (f w q : Int) (lit off : Bool) (h : DskAt S d r vs f lit off w q)
include hl hB hI hM hm h
theorem fmt_size (hn : vs.length ≠ B) : EvS cfg 10 [.ref d 0 0, .d (encLay l)] S (fun o S' => S' = S ++ [.row [.d (encLay l)] 24, .row [.d (blkD (supB B I M))] 42] ∧ o = .ret (.d (.int .i64 2))) := by
  refine evS_of rfl body10 ?_
  show Wp cfg (Try.f10.body.getD .skip) ((.ref d 0 0) :: (.d (encLay l)) :: (.tup []) :: (.tup []) :: (.tup []) :: (.tup []) :: (.tup []) :: (.tup []) :: (.tup []) :: (.tup []) :: (.tup []) :: (.tup []) :: (.tup []) :: (.tup []) :: (.tup []) :: (.tup []) :: (.tup []) :: (.tup []) :: (.tup []) :: (.tup []) :: (.tup []) :: (.tup []) :: (.tup []) :: (.tup []) :: (.tup []) :: (.tup []) :: (.tup []) :: (.tup []) :: (.tup []) :: (.tup []) :: (.tup []) :: (.tup []) :: (.tup []) :: (.tup []) :: (.tup []) :: (.tup []) :: (.tup []) :: (.tup []) :: (.tup []) :: (.tup []) :: (.tup []) :: (.tup []) :: (.tup []) :: (.tup []) :: (.tup []) :: (.tup []) :: (.tup []) :: (.tup []) :: (.tup []) :: (.tup []) :: (.tup []) :: (.tup []) :: (.tup []) :: (.tup []) :: (.tup []) :: (.tup []) :: (.tup []) :: (.tup []) :: (.tup []) :: (.tup []) :: (.tup []) :: (.tup []) :: (.tup []) :: (.tup []) :: []) S [] _
  conv => arg 2; whnf
  rw [wk_of]
  have l0 := z256
  have l5 := supB_len B I M
  have hp := fun {ops dst k T S F Q} => call_sput (ops := ops) (dst := dst) (k := k) (T := T) (S := S) (F := F) (Q := Q) (put_sup l B I M hl hB hI hM hm)
  simp (maxSteps := 1000000) (disch := first | assumption | omega | rfl) only [↓vmp, vme, vmb, ty, hP, dec_t, dec_f, wrap64, List.length_map, Int.toNat_natCast, Nat.reduceAdd, List.cons_append, List.nil_append, Option.map_some, Option.map_none, strOf_mk, sb_eql, sb_neq, vmg, ↓vgd, ↓vst, ↓vix, List.append_assoc, List.length_append, List.length_cons, List.length_nil, rA0 rfl, rA1 rfl, pA1 rfl, hp, bo48, z42, zf42, sdv42, eq26f, dec_True]
  have hsz := fun {ops base K ws cs i dst T} l => dw_callE (ops := ops) (base := base) (K := K) (ws := ws) (cs := cs) (i := i) (dst := dst) (T := T) rfl (size_ok (S ++ l) d r vs f w q lit off h.app)
  have hlb : l.blocks = (B : Int) := by rw [hl]
  have hne : ∀ i : Decidable ((vs.length : Int) ≠ l.blocks), @decide ((vs.length : Int) ≠ l.blocks) i = true := fun i => decide_eq_true (by omega)
  refine wk_draww (is := [0, 2, 3, 1, 4]) (h := 0) (by kernel_rfl) (by kernel_rfl) ?_
  simp (maxSteps := 1000000) (disch := first | assumption | omega | rfl) only [List.replicate_zero, eq_self, vmd, dw1, dw2, dw3, dw4, dw5, dw6, dw7, dw8, dw9, dw10, dw11, dw12, vmk, vmo, vmg, vme, vmb, ty, hP, dec_t, dec_f, wrap64, List.length_map, Int.toNat_natCast, Nat.reduceAdd, ↓vgd, ↓vst, ↓vix, vso, List.append_nil, rA0 rfl, rA1 rfl, hsz, bo49]
  refine ⟨wall_read rfl (by kernel_rfl) rfl (ld_op ((loadV_row (rA0 rfl)).trans lr24_0)) (by exact sameLeaf_i) wall_nil, ?_⟩
  refine ⟨by kernel_rfl, ?_⟩
  simp (maxSteps := 1000000) (disch := first | assumption | omega | rfl) only [↓vmp, vme, vmb, ty, hP, dec_t, dec_f, wrap64, List.length_map, Int.toNat_natCast, Nat.reduceAdd, List.cons_append, List.nil_append, Option.map_some, Option.map_none, strOf_mk, sb_eql, sb_neq, vmg, ↓vgd, ↓vst, ↓vix, hne]
  exact ⟨rfl, _, rfl, rfl, rfl⟩
end
theorem fmt_ok (l : Lay) (B I M K : Nat) (hl : l = ⟨(B : Int), (I : Int), (M : Int)⟩) (hB : B ≤ 512) (hI : I ≤ 128) (hM : M < 18446744073709551616) (hm : MayL l) (hK : 2 + l.inodes.tdiv 8 = ((2 + K : Nat) : Int)) (hK1 : K ≤ 16) (hKB : 2 + K < B) (S : Store) (d r : Nat) (f0 : Int) (hf0 : 0 ≤ f0 ∧ InB f0) (lit : Bool) (h : DskAt S d r (List.replicate B (blkV (zeros 256))) f0 lit false 0 0) : EvS cfg 10 [.ref d 0 0, .d (encLay l)] S (FmtR S d r B I M K lit f0) := by
  refine evS_of rfl body10 ?_
  show Wp cfg (Try.f10.body.getD .skip) ((.ref d 0 0) :: (.d (encLay l)) :: (.tup []) :: (.tup []) :: (.tup []) :: (.tup []) :: (.tup []) :: (.tup []) :: (.tup []) :: (.tup []) :: (.tup []) :: (.tup []) :: (.tup []) :: (.tup []) :: (.tup []) :: (.tup []) :: (.tup []) :: (.tup []) :: (.tup []) :: (.tup []) :: (.tup []) :: (.tup []) :: (.tup []) :: (.tup []) :: (.tup []) :: (.tup []) :: (.tup []) :: (.tup []) :: (.tup []) :: (.tup []) :: (.tup []) :: (.tup []) :: (.tup []) :: (.tup []) :: (.tup []) :: (.tup []) :: (.tup []) :: (.tup []) :: (.tup []) :: (.tup []) :: (.tup []) :: (.tup []) :: (.tup []) :: (.tup []) :: (.tup []) :: (.tup []) :: (.tup []) :: (.tup []) :: (.tup []) :: (.tup []) :: (.tup []) :: (.tup []) :: (.tup []) :: (.tup []) :: (.tup []) :: (.tup []) :: (.tup []) :: (.tup []) :: (.tup []) :: (.tup []) :: (.tup []) :: (.tup []) :: (.tup []) :: (.tup []) :: []) S [] _
  conv => arg 2; whnf
  rw [wk_of]
  have l0 := z256
  have l5 := supB_len B I M
  have hlb : l.blocks = (B : Int) := by rw [hl]
  have hib : InB l.blocks := by rw [hl]; simp only [InB]; omega
  have hii : InB l.inodes := by rw [hl]; simp only [InB]; omega
  have hp := fun {ops dst k T S F Q} => call_sput (ops := ops) (dst := dst) (k := k) (T := T) (S := S) (F := F) (Q := Q) (put_sup l B I M hl hB hI hM hm)
  generalize ha : S.length = a
  simp (maxSteps := 1000000) (disch := first | assumption | omega | rfl) only [↓vmp, vme, vmb, ty, hP, dec_t, dec_f, wrap64, List.length_map, Int.toNat_natCast, Nat.reduceAdd, List.cons_append, List.nil_append, Option.map_some, Option.map_none, strOf_mk, sb_eql, sb_neq, vmg, ↓vgd, ↓vst, ↓vix, List.append_assoc, List.length_append, List.length_cons, List.length_nil, ha, rA0 ha, rA1 ha, pA1 ha, hp, bo48, z42, zf42, sdv42, eq26f, dec_True]
  have hsz := fun {ops base K ws cs i dst T} l => dw_callE (ops := ops) (base := base) (K := K) (ws := ws) (cs := cs) (i := i) (dst := dst) (T := T) rfl (size_ok (S ++ l) d r _ _ _ _ _ _ h.app)
  rw [List.length_replicate] at hsz
  have hne : ∀ i : Decidable ((B : Int) ≠ l.blocks), @decide ((B : Int) ≠ l.blocks) i = false := fun i => decide_eq_false (by omega)
  refine wk_draww (is := [0, 2, 3, 1, 4]) (h := 0) (by kernel_rfl) (by kernel_rfl) ?_
  simp (maxSteps := 1000000) (disch := first | assumption | omega | rfl) only [List.replicate_zero, eq_self, vmd, dw1, dw2, dw3, dw4, dw5, dw6, dw7, dw8, dw9, dw10, dw11, dw12, vmk, vmo, vmg, vme, vmb, ty, hP, dec_t, dec_f, wrap64, List.length_map, Int.toNat_natCast, Nat.reduceAdd, ↓vgd, ↓vst, ↓vix, vso, List.append_nil, rA0 ha, rA1 ha, hsz, bo49]
  refine ⟨wall_read rfl (by kernel_rfl) rfl (ld_op ((loadV_row (rA0 ha)).trans lr24_0)) (by exact sameLeaf_i) wall_nil, ?_⟩
  refine ⟨by kernel_rfl, ?_⟩
  simp (maxSteps := 1000000) (disch := first | assumption | omega | rfl) only [↓vmp, vme, vmb, ty, hP, dec_t, dec_f, wrap64, List.length_map, Int.toNat_natCast, Nat.reduceAdd, List.cons_append, List.nil_append, Option.map_some, Option.map_none, strOf_mk, sb_eql, sb_neq, vmg, ↓vgd, ↓vst, ↓vix, hne, call_map, bo50]
  have hS1 : ∀ o1 o2 : Ob, K2 d r S (S ++ [o1, o2]) := fun o1 o2 => K2.refl.app
  have hdl := h.dl
  have hrl := h.rl
  refine fmt_l l B K hib hii hm hK hK1 hKB (S ++ [.row [.d (encLay l)] 24, .row [.d (blkD (supB B I M))] 42]) a d r (by omega) (by omega) (by rw [List.getElem?_append_right (by omega), ha]; simp) lit f0 _ _ K 2 _ _ f0 0 _ _ _ _ _ _ _ _ _ _ _ _ _ _ _ _ _ _ _ _ _ _ _ _ _ _ _ _ _ _ _ _ _ _ _ _ _ _ _ _ _ _ _ _ _ _ _ _ _ _ _ _ _ _ _ _ _ _ _ _ (by omega) (by omega) (by omega) K2.refl h.app (by omega) (fin0 B (by omega)) (fun _ => by omega) hf0 ?_ ?_
  · intro S1 vs f w g1 g2 g4 g6 g8 g9 g10 g11 g12 g13 g14 g15 g16 g17 g18 g19 g20 g21 g22 g23 g24 g25 g26 g27 g28 g29 g30 g31 g32 g33 g34 g35 g36 g37 g38 g39 g40 g41 g42 g43 g44 g45 g46 g47 g48 g49 g50 g51 g52 g53 g54 g55 g56 g57 g58 g59 g60 g61 g62 g63 hK2 hD hw hF hlf hf
    have hca : rowE S1 a 0 = some (.d (encLay l)) := rowE_of (hK2 a (.row [.d (encLay l)] 24) (by omega) (by omega) (by rw [List.getElem?_append_right (by omega), ha]; simp))
    have hcb := hK2 (a + 1) (.row [.d (blkD (supB B I M))] 42) (by omega) (by omega) (by rw [List.getElem?_append_right (by omega), ha]; simp)
    have hM := fun {ops F Q K rd cs i dst T S} => we_call_d (C := cfg) (ops := ops) (F := F) (Q := Q) (K := K) (rd := rd) (cs := cs) (i := i) (dst := dst) (T := T) (S := S) (ds := []) rfl Map_ok
    simp only [List.map_nil] at hM
    have hO : ∀ {ops F Q K' rd cs i dst T S}, WpE cfg ops F Q K' rd cs i dst T S (some (.enter 55 [.d (encLay l)])) = K' (i :: rd) (cs ++ [(i, 1)]) (putT T dst (.d (encI (upto (2 + K))))) S := fun {ops F Q K' rd cs i dst T S} => we_call_d (C := cfg) (ds := [encLay l]) rfl (Own_ok l (2 + K) hib hii hm hK (by omega))
    have hN : ∀ {ops F Q K' rd cs i dst T S}, WpE cfg ops F Q K' rd cs i dst T S (some (.enter 54 [.d (encI (upto (2 + K)))])) = K' (i :: rd) (cs ++ [(i, 1)]) (putT T dst (.d (blkD (mapB (2 + K))))) S := fun {ops F Q K' rd cs i dst T S} => we_call_d (C := cfg) (ds := [encI (upto (2 + K))]) rfl (Make_ok (2 + K) (by omega))
    have hml := mapB_len (2 + K)
    have h1l : 1 < vs.length := by have := hF.1; omega
    have hv1 : IsB vs[1] (zeros 256) := by
      have := hF.2.2 1 vs[1] (List.getElem?_eq_getElem h1l)
      rw [if_neg (by omega)] at this
      exact this
    by_cases hoff : lit = true ∧ f = 0
    · obtain ⟨rfl, rfl⟩ := hoff
      have hwr := fun {ops F Q K' rd cs i dst T} => we_callE (ops := ops) (F := F) (Q := Q) (K := K') (rd := rd) (cs := cs) (i := i) (dst := dst) (T := T) rfl (write_off S1 d r vs w 0 1 (.d (blkD (mapB (2 + K)))) _ hD h1l isB_d hml)
      simp only [nl1] at hwr
      simp (maxSteps := 1000000) (disch := first | assumption | omega | rfl) only [↓vmp, vme, vmb, ty, hP, dec_t, dec_f, wrap64, List.length_map, Int.toNat_natCast, Nat.reduceAdd, List.cons_append, List.nil_append, Option.map_some, Option.map_none, strOf_mk, sb_eql, sb_neq, vmg, ↓vgd, ↓vst, ↓vix]
      refine wk_draw (is := [0, 2, 1, 3, 4, 5, 6]) (h := 0) (by kernel_rfl) (by kernel_rfl) ?_
      simp (maxSteps := 1000000) (disch := first | assumption | omega | rfl) only [List.replicate_zero, eq_self, vmd, vmk, vmo, vmg, vme, vmb, ty, hP, dec_t, dec_f, wrap64, List.length_map, Int.toNat_natCast, Nat.reduceAdd, ↓vgd, ↓vst, ↓vix, vso, List.append_nil, hca, hM, bo50, hO, bo55, hN, bo54, hwr, bo53]
      refine ⟨fun _ => by kernel_rfl, ?_⟩
      refine ⟨by kernel_rfl, ?_⟩
      simp (maxSteps := 1000000) (disch := first | assumption | omega | rfl) only [↓vmp, vme, vmb, ty, hP, dec_t, dec_f, wrap64, List.length_map, Int.toNat_natCast, Nat.reduceAdd, List.cons_append, List.nil_append, Option.map_some, Option.map_none, strOf_mk, sb_eql, sb_neq, vmg, ↓vgd, ↓vst, ↓vix]
      exact ⟨rfl, _, rfl, .inr ⟨⟨rfl, by have := hlf rfl; omega⟩, rfl, vs, w, ((hS1 _ _).trans hK2).setd.app, (hD.setd (f' := 0) (lit' := true) (off' := true) (w' := w) (q' := 0)).app, hF.1, hF.2.1⟩⟩
    · have hlf0 : lit = true → f ≠ 0 := fun e h => hoff ⟨e, h⟩
      have hf1 : 0 ≤ (if lit = true then f - 1 else f) ∧ InB (if lit = true then f - 1 else f) := by
        obtain ⟨q1, q2, q3⟩ := hf
        cases lit
        · exact ⟨q1, q2, q3⟩
        · have := hlf0 rfl; exact ⟨by simp only [if_true]; omega, by simp only [InB, if_true]; omega⟩
      have hlf1 : lit = true → (if lit = true then f - 1 else f) + (w + 1) = f0 := fun e => by rw [if_pos e]; have := hlf e; omega
      have hwr := fun {ops F Q K' rd cs i dst T} => we_callE (ops := ops) (F := F) (Q := Q) (K := K') (rd := rd) (cs := cs) (i := i) (dst := dst) (T := T) rfl (write_ok S1 d r vs f w 0 lit 1 (.d (blkD (mapB (2 + K)))) vs[1] _ _ hD h1l isB_d hml rfl hv1 l0 (by omega) hf hlf0)
      simp only [nl1] at hwr
      have hD2 := (hD.setd (f' := if lit = true then f - 1 else f) (lit' := lit) (off' := false) (w' := w + 1) (q' := 0)).setr (i := 1) (y := .d (blkD (mapB (2 + K))))
      have hK3 : ∀ l', K2 d r S (((S1.set d (.row [dskV r vs.length (if lit = true then f - 1 else f) lit false (w + 1) 0] 89)).set r (.row (vs.set 1 (.d (blkD (mapB (2 + K))))) 42)) ++ l') := fun l' => ((hS1 _ _).trans hK2).setd.setr.app
      have hcb2 : ∀ l', rowE (((S1.set d (.row [dskV r vs.length (if lit = true then f - 1 else f) lit false (w + 1) 0] 89)).set r (.row (vs.set 1 (.d (blkD (mapB (2 + K))))) 42)) ++ l') (a + 1) 0 = some (.d (blkD (supB B I M))) := fun l' => rowE_of ((K2.refl (d := d) (r := r) (S := S1)).setd.setr.app (a + 1) _ (by omega) (by omega) hcb)
      simp (maxSteps := 1000000) (disch := first | assumption | omega | rfl) only [↓vmp, vme, vmb, ty, hP, dec_t, dec_f, wrap64, List.length_map, Int.toNat_natCast, Nat.reduceAdd, List.cons_append, List.nil_append, Option.map_some, Option.map_none, strOf_mk, sb_eql, sb_neq, vmg, ↓vgd, ↓vst, ↓vix]
      refine wk_draw (is := [0, 2, 1, 3, 4, 5, 6]) (h := 0) (by kernel_rfl) (by kernel_rfl) ?_
      simp (maxSteps := 1000000) (disch := first | assumption | omega | rfl) only [List.replicate_zero, eq_self, vmd, vmk, vmo, vmg, vme, vmb, ty, hP, dec_t, dec_f, wrap64, List.length_map, Int.toNat_natCast, Nat.reduceAdd, ↓vgd, ↓vst, ↓vix, vso, List.append_nil, hca, hM, bo50, hO, bo55, hN, bo54, hwr, bo53]
      refine ⟨fun _ => by kernel_rfl, ?_⟩
      refine ⟨by kernel_rfl, ?_⟩
      generalize hf' : (if lit = true then f - 1 else f) = f' at *
      have h0l : 0 < (vs.set 1 (.d (blkD (mapB (2 + K))))).length := by rw [List.length_set]; omega
      by_cases hoff2 : lit = true ∧ f' = 0
      · obtain ⟨rfl, rfl⟩ := hoff2
        have hwr2 := fun {ops dst k T F Q} l' => wr_callE (ops := ops) (dst := dst) (l := k) (T := T) (F := F) (Q := Q) rfl (write_off _ d r _ (w + 1) 0 0 (.d (blkD (supB B I M))) _ (hD2.app (l := l')) h0l isB_d l5)
        simp only [nl0] at hwr2
        simp (maxSteps := 1000000) (disch := first | assumption | omega | rfl) only [↓vmp, vme, vmb, ty, hP, dec_t, dec_f, wrap64, List.length_map, Int.toNat_natCast, Nat.reduceAdd, List.cons_append, List.nil_append, Option.map_some, Option.map_none, strOf_mk, sb_eql, sb_neq, vmg, ↓vgd, ↓vst, ↓vix, hcb2, ldd42, hwr2, bo53, dec_True]
        exact ⟨rfl, _, rfl, .inr ⟨⟨rfl, by have := hlf1 rfl; omega⟩, rfl, _, w + 1, (hK3 _).setd.app, (hD2.app.setd (f' := 0) (lit' := true) (off' := true) (w' := w + 1) (q' := 0)).app, by rw [List.length_set]; exact hF.1, by rw [List.getElem?_set_ne (by decide)]; exact hF.2.1⟩⟩
      · have hlf2 : lit = true → f' ≠ 0 := fun e h => hoff2 ⟨e, h⟩
        have hv0 : IsB (vs.set 1 (.d (blkD (mapB (2 + K)))))[0] (zeros 256) := by
          have h3 : (vs.set 1 (.d (blkD (mapB (2 + K)))))[0]? = some (blkV (zeros 256)) := by rw [List.getElem?_set_ne (by decide)]; exact hF.2.1
          rw [List.getElem?_eq_getElem h0l] at h3
          rw [Option.some.inj h3]
          exact isB_v
        have hwr2 := fun {ops dst k T F Q} l' => wr_callE (ops := ops) (dst := dst) (l := k) (T := T) (F := F) (Q := Q) rfl (write_ok _ d r _ f' (w + 1) 0 lit 0 (.d (blkD (supB B I M))) _ _ _ (hD2.app (l := l')) h0l isB_d l5 rfl hv0 l0 (by omega) hf1 hlf2)
        simp only [nl0] at hwr2
        simp (maxSteps := 1000000) (disch := first | assumption | omega | rfl) only [↓vmp, vme, vmb, ty, hP, dec_t, dec_f, wrap64, List.length_map, Int.toNat_natCast, Nat.reduceAdd, List.cons_append, List.nil_append, Option.map_some, Option.map_none, strOf_mk, sb_eql, sb_neq, vmg, ↓vgd, ↓vst, ↓vix, hcb2, ldd42, hwr2, bo53, dec_True]
        refine ⟨rfl, _, rfl, .inl ⟨?_, rfl, _, _, w + 1 + 1, (hK3 _).setd.setr.app, (hD2.app.setd (f' := if lit = true then f' - 1 else f') (lit' := lit) (off' := false) (w' := w + 1 + 1) (q' := 0)).setr.app, by rw [List.length_set, List.length_set]; exact hF.1, ?_, ?_⟩⟩
        · rintro ⟨e, h⟩
          have := hlf1 e
          have := hlf2 e
          omega
        · intro i v hv
          unfold finB
          by_cases hi0 : i = 0
          · subst hi0
            rw [List.getElem?_set_self h0l] at hv
            cases hv
            rw [if_pos rfl]
            exact isB_d
          · rw [List.getElem?_set_ne (by omega)] at hv
            rw [if_neg hi0]
            by_cases hi1 : i = 1
            · subst hi1
              rw [List.getElem?_set_self h1l] at hv
              cases hv
              rw [if_pos rfl]
              exact isB_d
            · rw [List.getElem?_set_ne (by omega)] at hv
              rw [if_neg hi1]
              have h4 := hF.2.2 i v hv
              by_cases hc : 2 ≤ i ∧ i < 2 + K
              · rw [if_pos hc] at h4; exact h4
              · rw [if_neg hc] at h4
                have hK0 : 1 ≤ K := by
                  have h6 := hm.2.2.1
                  have h7 := hK
                  rw [Int.tdiv_eq_ediv_of_nonneg (by omega)] at h7
                  omega
                have h5 : blkAt i = zeros 256 := if_neg (by omega)
                rw [h5]; exact h4
        · intro e
          subst e
          simp only [Bool.false_eq_true, if_false] at hf' ⊢
          exact ⟨hf1.1, hf1.2, by omega, by omega⟩
  · intro S1 vs w T hlt hfk hK2 hD hv hv0 hT
    refine ⟨rfl, _, ?_, .inr ⟨⟨hlt, by omega⟩, rfl, vs, w, (hS1 _ _).trans hK2, hD, hv, hv0⟩⟩
    simp only [resultsV, resultV, hT]
end Go.Proofs.Ytobgdmgldagjkaa
end
