/- A weight's digits: the program's way (bytes from above) and the document's (bytes from below). -/
import Derived.Test.YteapjcgeckpknaaDoorJ07
/-! A weight's digits: the program's way (bytes from above) and the document's (bytes from below). -/
section
set_option linter.unusedVariables false
set_option linter.unusedSimpArgs false
set_option maxRecDepth 100000
set_option maxHeartbeats 4000000
namespace Go.Vm
section
variable {C : Cfg} {ops : Array Oper} {S : Store} {F : Dfs} {Q : Post}
/-- A call apart that answers what refers to nothing. -/
theorem callV_plain {f : FuncId} {args : List V} {ds : List D} {o : Out} (hs : C.shared f = false) (hf : allO (frz S frzFuel) args = some ds) (hp : plainOut o = true) (he : Ev C f ds o) : ∃ n, callV C (run C n) f args S = some (o, S, 1) := by
  obtain ⟨n, hn⟩ := he
  have hn' : answer C (run C n) f ds = some o := hn
  refine ⟨n, ?_⟩
  unfold callV
  simp only [hs, Bool.false_eq_true, if_false, hf, hn', hp, if_true]
  split <;> rfl
theorem wr_call_plain {dst : Option Tmp} {l : List Oper} {T : List V} {f : FuncId} {args : List V} {ds : List D} {v : V} (hs : C.shared f = false) (hf : allO (frz S frzFuel) args = some ds) (hp : plainOut (.ret v) = true) (he : Ev C f ds (.ret v)) :
    WpR C ops dst l T S F Q (some (.enter f args)) = WpL C ops l (putT T dst v) S F Q := by
  obtain ⟨n, hc⟩ := callV_plain hs hf hp he
  apply propext
  constructor
  · rintro ⟨m, o, S', c, h1, h2⟩
    have := callV_det h1 hc
    simp only [Prod.mk.injEq] at this
    obtain ⟨rfl, rfl, rfl⟩ := this
    exact h2
  · exact fun h => ⟨n, _, _, _, hc, h⟩
theorem rowE_left {l : Store} {i k : Nat} (h : i < S.length) : rowE (S ++ l) i k = rowE S i k := by unfold rowE; rw [List.getElem?_append_left h]
theorem rowE_set {o : Ob} {i j k : Nat} (h : i ≠ j) : rowE (S.set j o) i k = rowE S i k := by unfold rowE; rw [List.getElem?_set_ne (Ne.symm h)]
end
end Go.Vm
namespace Go.Proofs.YteapjcgeckpknaaDoor
open Go.Vm
theorem u64_in {n : Int} (h0 : 0 ≤ n) (h1 : n < 18446744073709551616) : IntKind.u64.wrap n = n := by
  have : IntKind.u64.wrap n = n % 18446744073709551616 := rfl
  rw [this]
  omega
theorem u8_mod {n : Int} : IntKind.u8.wrap n = n % 256 := rfl
/-- Byte i of a weight, from above. -/
def beB (w i : Nat) : UInt8 := UInt8.ofNat (w / 256 ^ (7 - i) % 256)
def beL (w : Nat) : List UInt8 := (List.range 8).map (beB w)
def wgtS (w : Nat) : List UInt8 := hexS (beL w)
theorem beB_nat (w i : Nat) : ((beB w i).toNat : Int) = (w / 256 ^ (7 - i) % 256 : Nat) := by
  unfold beB
  rw [UInt8.toNat_ofNat']
  congr 1
  omega
theorem cvu {S : Store} {i : Nat} (h : i < 8) : convertV Tryd.prog S 3 94 (.d (.int .i64 (56 - 8 * (i : Int)))) = some (.d (.int .u64 (56 - 8 * (i : Int))), 0) := by
  match i, h with
  | 0, _ => show _ = _; kernel_rfl
  | 1, _ => show _ = _; kernel_rfl
  | 2, _ => show _ = _; kernel_rfl
  | 3, _ => show _ = _; kernel_rfl
  | 4, _ => show _ = _; kernel_rfl
  | 5, _ => show _ = _; kernel_rfl
  | 6, _ => show _ = _; kernel_rfl
  | 7, _ => show _ = _; kernel_rfl
theorem shr_at {w : Nat} (hw : w < 18446744073709551616) {i : Nat} (h : i < 8) : binV Tryd.prog .shr 26 (.d (.int .u64 (w : Int))) (.d (.int .u64 (56 - 8 * (i : Int)))) = some (.d (.int .u64 ((w / 256 ^ (7 - i) : Nat) : Int))) := by
  have key : ∀ k : Nat, k ≤ 56 → ((w : Int).fdiv (2 ^ (min ((k : Int)).toNat IntKind.u64.bits))) = ((w / 2 ^ k : Nat) : Int) := fun k hk => by
    have e : min ((k : Int)).toNat IntKind.u64.bits = k := by
      show min ((k : Int)).toNat 64 = k
      omega
    rw [e, Int.fdiv_eq_ediv_of_nonneg _ (by exact_mod_cast Nat.zero_le (2 ^ k)), Int.natCast_ediv]
    norm_cast
  have e1 : (56 - 8 * (i : Int)) = ((56 - 8 * i : Nat) : Int) := by omega
  rw [e1]
  simp only [binV, intBin]
  rw [if_neg (by omega), key _ (by omega)]
  have e3 : 2 ^ (56 - 8 * i) = 256 ^ (7 - i) := by
    rw [show 56 - 8 * i = 8 * (7 - i) by omega, Nat.pow_mul]
  rw [e3]
  rfl
theorem cv265 {S : Store} {n : Nat} : convertV Tryd.prog S 26 5 (.d (.int .u64 (n : Int))) = some (.d (.int .u8 ((n % 256 : Nat) : Int)), 0) := by
  have h1 : Tryd.prog.underlying 26 = some (.int .u64) := by kernel_rfl
  have h2 : Tryd.prog.underlying 5 = some (.int .u8) := by kernel_rfl
  simp only [convertV, h1, h2]
  rw [u8_mod]
  rfl
theorem nil5 : (sz Tryd.prog 5).isSome = true := by kernel_rfl
theorem app_byte {S : Store} {v : V} {l : List UInt8} (x : UInt8) (hl : l.length ≤ 100000) (h : SlE encU S v 5 l) : ∃ v' S' c, appendV Tryd.prog S 23 23 v (.ts [.int .u8 x.toNat]) = some (v', S', c) ∧ (c = 1 ∨ c = 2 ∨ c = 3) ∧ SlE encU S' v' 5 (l ++ [x]) ∧ (∀ (j : Nat) (o : Ob), S[j]? = some o → idOf v ≠ some j → S'[j]? = some o) ∧ (∀ i, idOf v' = some i → idOf v = some i ∨ S.length ≤ i) := by
  obtain ⟨v', S', c, h1, h2⟩ := app_data (t := 23) (enc := encU) (ds := [x]) Tryd.underlying23 zOk23 nil5 (fun a => fitsT5 _) (room23 (by simp; omega)) h
  exact ⟨v', S', c, by rw [app_ts]; exact h1, h2⟩
section
variable {ops : Array Oper} {dst : Option Tmp} {k : List Oper} {T : List V} {S : Store} {F : Dfs} {Q : Post}
theorem call_hexV {v : V} {l : List UInt8} (hv : Go.Vm.frz S frzFuel v = some (.sl (l.map encU))) (h1 : l.length ≤ 1000) : WpR cfg ops dst k T S F Q (some (.enter 56 [v])) = WpL cfg ops k (putT T dst (.d (.str (hexS l)))) S F Q :=
  wr_call_plain (ds := [.sl (l.map encU)]) rfl (by simp only [allO, hv]) rfl (hex_ok l (by omega))
theorem call_rhexV {v : V} {l : List UInt8} (hv : Go.Vm.frz S frzFuel v = some (.sl (l.map encU))) (h1 : l.length ≤ 1000) : WpR cfg ops dst k T S F Q (some (.enter 50 [v])) = WpL cfg ops k (putT T dst (.d (.str (hexS l)))) S F Q :=
  wr_call_plain (ds := [.sl (l.map encU)]) rfl (by simp only [allO, hv]) rfl (rhex_ok l (by omega))
end
theorem beL_len (w : Nat) : (beL w).length = 8 := rfl
theorem weight_l (w : Nat) (hw : w < 18446744073709551616) (R : Post) (x2 : V) : ∀ (k i : Nat) (v : V) (S : Store) (g1 g4 g6 g7 g8 g9 g10 g11 g12 g13 g14 g15 g16 g17 g18 g19 g20 : V), 8 - i = k → i ≤ 8 → SlE encU S v 5 ((beL w).take i) →
   (∀ S v i' g1 g4 g6 g7 g8 g9 g10 g11 g12 g13 g14 g15 g16 g17 g18 g19 g20, SlE encU S v 5 (beL w) → R (.exit 0) ((.d (.int .u64 (w : Int))) :: g1 :: x2 :: v :: g4 :: i' :: g6 :: g7 :: g8 :: g9 :: g10 :: g11 :: g12 :: g13 :: g14 :: g15 :: g16 :: g17 :: g18 :: g19 :: g20 :: []) S []) →
   Wp cfg (.loop (lpOf (Tryd.f32.body.getD .skip) 0)) ((.d (.int .u64 (w : Int))) :: g1 :: x2 :: v :: g4 :: (.d (.int .i64 (i : Int))) :: g6 :: g7 :: g8 :: g9 :: g10 :: g11 :: g12 :: g13 :: g14 :: g15 :: g16 :: g17 :: g18 :: g19 :: g20 :: []) S [] R := by
  intro k
  induction k with
  | zero =>
    intro i v S g1 g4 g6 g7 g8 g9 g10 g11 g12 g13 g14 g15 g16 g17 g18 g19 g20 hk hi hv hR
    have hie : i = 8 := by omega
    rw [hie, ← beL_len w, List.take_length] at hv
    rw [wk_of]
    refine wk_loop ?_
    conv => arg 2; whnf
    simp (maxSteps := 1000000) (disch := first | assumption | omega | rfl) only [↓vmp, vme, vmb, ty, hP, dec_t, dec_f, wrap64, List.length_map, Int.toNat_natCast, Nat.reduceAdd, List.cons_append, List.nil_append, Option.map_some, Option.map_none, strOf_mk, sb_eql, sb_neq, vmg, ↓vgd, ↓vst, ↓vix]
    exact hR _ _ _ _ _ _ _ _ _ _ _ _ _ _ _ _ _ _ _ _ hv
  | succ k ih =>
    intro i v S g1 g4 g6 g7 g8 g9 g10 g11 g12 g13 g14 g15 g16 g17 g18 g19 g20 hk hi hv hR
    have hlt : i < 8 := by omega
    have hlt' : i < (beL w).length := hlt
    have hcv := fun S => cvu (S := S) hlt
    have hsr := shr_at hw hlt
    have he : (beL w)[i] = beB w i := by simp [beL]
    obtain ⟨v', S', c, e1, hc, e2, -⟩ := app_byte (beB w i) (by simp; omega) hv
    have e3 := e2.one
    rw [beB_nat] at e1
    rw [← he, show (beL w).take i ++ [(beL w)[i]] = (beL w).take (i + 1) by rw [List.take_add_one, List.getElem?_eq_getElem hlt']; rfl] at e2
    rw [wk_of]
    refine wk_loop ?_
    conv => arg 2; whnf
    simp (maxSteps := 1000000) (disch := first | assumption | omega | rfl) only [↓vmp, vme, vmb, ty, hP, dec_t, dec_f, wrap64, List.length_map, Int.toNat_natCast, Nat.reduceAdd, List.cons_append, List.nil_append, Option.map_some, Option.map_none, strOf_mk, sb_eql, sb_neq, vmg, ↓vgd, ↓vst, ↓vix, ↓vbs, hcv, hsr, cv265, bs23, e1, e3]
    exact ih (i + 1) _ _ _ _ _ _ _ _ _ _ _ _ _ _ _ _ _ _ _ (by omega) (by omega) e2 hR
theorem weight_ok (w : Nat) (hw : w < 18446744073709551616) : Ev cfg 32 [.int .u64 (w : Int)] (.ret (.d (.str (wgtS w)))) := by
  refine ev_of rfl rfl body32 ?_
  show Wp cfg (Tryd.f32.body.getD .skip) ((.d (.int .u64 (w : Int))) :: (.tup []) :: (.tup []) :: (.tup []) :: (.tup []) :: (.tup []) :: (.tup []) :: (.tup []) :: (.tup []) :: (.tup []) :: (.tup []) :: (.tup []) :: (.tup []) :: (.tup []) :: (.tup []) :: (.tup []) :: (.tup []) :: (.tup []) :: (.tup []) :: (.tup []) :: (.tup []) :: []) [] [] _
  conv => arg 2; whnf
  simp (maxSteps := 1000000) (disch := first | assumption | omega | rfl) only [↓vmp, vme, vmb, ty, hP, dec_t, dec_f, wrap64, List.length_map, Int.toNat_natCast, Nat.reduceAdd, List.cons_append, List.nil_append, Option.map_some, Option.map_none, strOf_mk, sb_eql, sb_neq, vmg, ↓vgd, ↓vst, ↓vix]
  refine weight_l w hw _ _ 8 0 _ _ _ _ _ _ _ _ _ _ _ _ _ _ _ _ _ _ _ rfl (Nat.zero_le _) (.inl ⟨rfl, rfl⟩) ?_
  intro S v i' g1 g4 g6 g7 g8 g9 g10 g11 g12 g13 g14 g15 g16 g17 g18 g19 g20 hv
  have h1 := hv.one
  have hcl : ∀ {ops : Array Oper} {dst : Option Tmp} {k : List Oper} {T : List V} {F : Dfs} {Q : Post}, WpR cfg ops dst k T S F Q (some (.enter 56 [v])) = WpL cfg ops k (putT T dst (.d (.str (hexS (beL w))))) S F Q := fun {ops dst k T F Q} => call_hexV hv.frz (by rw [beL_len]; decide)
  unfold wgtS
  simp (maxSteps := 1000000) (disch := first | assumption | omega | rfl) only [↓vmp, vme, vmb, ty, hP, dec_t, dec_f, wrap64, List.length_map, Int.toNat_natCast, Nat.reduceAdd, List.cons_append, List.nil_append, Option.map_some, Option.map_none, strOf_mk, sb_eql, sb_neq, vmg, ↓vgd, ↓vst, ↓vix, hcl, h1, bo56]
  exact retQ_one rfl rfl rfl
end Go.Proofs.YteapjcgeckpknaaDoor
end
/-! A weight's digits, the document's way. -/
section
set_option linter.unusedVariables false
set_option linter.unusedSimpArgs false
set_option maxRecDepth 100000
set_option maxHeartbeats 4000000
namespace Go.Proofs.YteapjcgeckpknaaDoor
open Go.Vm
/-- A slice as a literal, or from its row's begin on. -/
def SlT (S : Store) (v : V) (xs : List UInt8) : Prop := v = .ts (xs.map encU) ∨ ∃ id ys, v = .rs id 0 xs.length ∧ S[id]? = some (.row ((xs ++ ys).map fun a => .d (encU a)) 5)
theorem SlT.elems {S : Store} {v : V} {xs : List UInt8} (h : SlT S v xs) : elemsV S v = some (xs.map fun a => .d (encU a)) := by
  rcases h with rfl | ⟨id, ys, rfl, h1⟩
  · simp only [elemsV, List.map_map, Function.comp_def]
  · simp only [elemsV, h1]
    rw [if_pos (by simp), List.drop_zero, ← List.map_take, List.take_append_of_le_length (Nat.le_refl _), List.take_length]
theorem SlT.one {S : Store} {v : V} {xs : List UInt8} (h : SlT S v xs) : v.one = true := by
  rcases h with rfl | ⟨id, ys, rfl, _⟩ <;> rfl
theorem SlT.frz {S : Store} {v : V} {xs : List UInt8} (h : SlT S v xs) {n : Nat} : Go.Vm.frz S (n + 2) v = some (.sl (xs.map encU)) := by
  rcases h with rfl | h
  · rfl
  · exact SlE.frz (e := 5) (.inr h)
theorem pre_byte {S : Store} {v : V} {l : List UInt8} (x : UInt8) (hl : l.length ≤ 100000) (h : SlT S v l) : ∃ v' S' c, appendV Tryd.prog S 23 23 (.ts [.int .u8 x.toNat]) v = some (v', S', c) ∧ SlT S' v' (x :: l) := by
  have hall : (l.map fun a => V.d (encU a)).all (fitsT Tryd.prog 5) = true := by
    rw [List.all_eq_true]
    intro y hy
    obtain ⟨z, hz, rfl⟩ := List.mem_map.1 hy
    exact fitsT5 _
  have src : srcV Tryd.prog S 5 23 v = some (l.map fun a => V.d (encU a)) := by
    have he := h.elems
    rcases h with rfl | ⟨id, ys, rfl, h1⟩ <;> simp only [srcV, Tryd.underlying23, he, hall, nil5, Bool.and_self, if_true]
  cases l with
  | nil => exact ⟨.ts [.int .u8 x.toNat], S, 1, by simp only [appendV, Tryd.underlying23, src, List.map_nil], .inl rfl⟩
  | cons a r =>
    have src1 : srcV Tryd.prog S 5 23 v = some (.d (encU a) :: r.map fun a => V.d (encU a)) := src
    have hl2 : (r.map fun a => V.d (encU a)).length = r.length := by simp
    have hr : room Tryd.prog 5 (1 + (r.length + 1)) = true := room23 (by simp at hl; omega)
    have hx : [D.int .u8 x.toNat].all (fitsD Tryd.prog 5) = true := by
      rw [List.all_cons, List.all_nil, fits5]; rfl
    refine ⟨.rs S.length 0 (1 + (r.length + 1)), S ++ [.row ([D.int .u8 x.toNat].map .d ++ .d (encU a) :: r.map fun a => V.d (encU a)) 5], 2, ?_, .inr ⟨S.length, [], ?_, ?_⟩⟩
    · simp only [appendV, Tryd.underlying23, src1, zOk23, if_true, hx, List.length_cons, List.length_nil, hl2, Nat.zero_add, hr, Bool.and_self]
    · rw [show (x :: a :: r).length = 1 + (r.length + 1) by simp; omega]
    · simp
theorem rem256 {b : Nat} : binV Tryd.prog .rem 26 (.d (.int .u64 (b : Int))) (.d (.int .u64 256)) = some (.d (.int .u64 ((b % 256 : Nat) : Int))) := by
  simp only [binV, intBin]
  rfl
theorem quo256 {b : Nat} (h : b < 18446744073709551616) : binV Tryd.prog .quo 26 (.d (.int .u64 (b : Int))) (.d (.int .u64 256)) = some (.d (.int .u64 ((b / 256 : Nat) : Int))) := by
  simp only [binV, intBin]
  rw [if_pos trivial, if_neg (by decide), show ((b : Int).tdiv 256) = ((b / 256 : Nat) : Int) from rfl, u64_in (by omega) (by omega)]
  rfl
theorem cv265m {S : Store} {b : Nat} : convertV Tryd.prog S 26 5 (.d (.int .u64 ((b % 256 : Nat) : Int))) = some (.d (.int .u8 ((b % 256 : Nat) : Int)), 0) := by
  rw [cv265, Nat.mod_mod]
theorem rweight_l (w : Nat) (hw : w < 18446744073709551616) (R : Post) (x2 : V) : ∀ (k i : Nat) (v : V) (S : Store) (g1 g5 g6 g7 g8 g9 g10 g11 g12 g13 g14 g15 g16 g17 g18 : V), 8 - i = k → i ≤ 8 → SlT S v ((beL w).drop (8 - i)) →
   (∀ S v b i' g1 g5 g6 g7 g8 g9 g10 g11 g12 g13 g14 g15 g16 g17 g18, SlT S v (beL w) → R (.exit 0) (b :: g1 :: x2 :: v :: i' :: g5 :: g6 :: g7 :: g8 :: g9 :: g10 :: g11 :: g12 :: g13 :: g14 :: g15 :: g16 :: g17 :: g18 :: []) S []) →
   Wp cfg (.loop (lpOf (Tryd.f25.body.getD .skip) 0)) ((.d (.int .u64 ((w / 256 ^ i : Nat) : Int))) :: g1 :: x2 :: v :: (.d (.int .i64 (i : Int))) :: g5 :: g6 :: g7 :: g8 :: g9 :: g10 :: g11 :: g12 :: g13 :: g14 :: g15 :: g16 :: g17 :: g18 :: []) S [] R := by
  intro k
  induction k with
  | zero =>
    intro i v S g1 g5 g6 g7 g8 g9 g10 g11 g12 g13 g14 g15 g16 g17 g18 hk hi hv hR
    have hie : i = 8 := by omega
    rw [hie, show 8 - 8 = 0 from rfl, List.drop_zero] at hv
    rw [wk_of]
    refine wk_loop ?_
    conv => arg 2; whnf
    simp (maxSteps := 1000000) (disch := first | assumption | omega | rfl) only [↓vmp, vme, vmb, ty, hP, dec_t, dec_f, wrap64, List.length_map, Int.toNat_natCast, Nat.reduceAdd, List.cons_append, List.nil_append, Option.map_some, Option.map_none, strOf_mk, sb_eql, sb_neq, vmg, ↓vgd, ↓vst, ↓vix]
    exact hR _ _ _ _ _ _ _ _ _ _ _ _ _ _ _ _ _ _ _ hv
  | succ k ih =>
    intro i v S g1 g5 g6 g7 g8 g9 g10 g11 g12 g13 g14 g15 g16 g17 g18 hk hi hv hR
    have hlt : i < 8 := by omega
    have hlt' : 8 - (i + 1) < (beL w).length := by rw [beL_len]; omega
    have he : (beL w)[8 - (i + 1)] = beB w (7 - i) := by simp [beL]
    obtain ⟨v', S', c, e1, e2⟩ := pre_byte (beB w (7 - i)) (by simp [beL_len]; omega) hv
    have e3 := e2.one
    rw [beB_nat, show 7 - (7 - i) = i by omega] at e1
    rw [← he, show (beL w)[8 - (i + 1)] :: (beL w).drop (8 - i) = (beL w).drop (8 - (i + 1)) by rw [List.drop_eq_getElem_cons hlt', show 8 - (i + 1) + 1 = 8 - i by omega]] at e2
    have ih := ih (i + 1)
    rw [show w / 256 ^ (i + 1) = w / 256 ^ i / 256 by rw [Nat.pow_succ, Nat.div_div_eq_div_mul]] at ih
    have hbw : w / 256 ^ i < 18446744073709551616 := Nat.lt_of_le_of_lt (Nat.div_le_self _ _) hw
    have hq := quo256 hbw
    generalize w / 256 ^ i = b at *
    have hrm := rem256 (b := b)
    have hcm := fun S => cv265m (S := S) (b := b)
    rw [wk_of]
    refine wk_loop ?_
    conv => arg 2; whnf
    simp (maxSteps := 1000000) (disch := first | assumption | omega | rfl) only [↓vmp, vme, vmb, ty, hP, dec_t, dec_f, wrap64, List.length_map, Int.toNat_natCast, Nat.reduceAdd, List.cons_append, List.nil_append, Option.map_some, Option.map_none, strOf_mk, sb_eql, sb_neq, vmg, ↓vgd, ↓vst, ↓vix, ↓vbs, hrm, hq, hcm, bs23, e1, e3]
    exact ih _ _ _ _ _ _ _ _ _ _ _ _ _ _ _ _ _ (by omega) (by omega) e2 hR
theorem rweight_ok (w : Nat) (hw : w < 18446744073709551616) : Ev cfg 25 [.int .u64 (w : Int)] (.ret (.d (.str (wgtS w)))) := by
  refine ev_of rfl rfl body25 ?_
  show Wp cfg (Tryd.f25.body.getD .skip) ((.d (.int .u64 (w : Int))) :: (.tup []) :: (.tup []) :: (.tup []) :: (.tup []) :: (.tup []) :: (.tup []) :: (.tup []) :: (.tup []) :: (.tup []) :: (.tup []) :: (.tup []) :: (.tup []) :: (.tup []) :: (.tup []) :: (.tup []) :: (.tup []) :: (.tup []) :: (.tup []) :: []) [] [] _
  conv => arg 2; whnf
  simp (maxSteps := 1000000) (disch := first | assumption | omega | rfl) only [↓vmp, vme, vmb, ty, hP, dec_t, dec_f, wrap64, List.length_map, Int.toNat_natCast, Nat.reduceAdd, List.cons_append, List.nil_append, Option.map_some, Option.map_none, strOf_mk, sb_eql, sb_neq, vmg, ↓vgd, ↓vst, ↓vix]
  have := rweight_l w hw
  rw [show (w : Int) = ((w / 256 ^ 0 : Nat) : Int) by simp]
  refine rweight_l w hw _ _ 8 0 _ _ _ _ _ _ _ _ _ _ _ _ _ _ _ _ _ rfl (Nat.zero_le _) (.inl rfl) ?_
  intro S v b i' g1 g5 g6 g7 g8 g9 g10 g11 g12 g13 g14 g15 g16 g17 g18 hv
  have h1 := hv.one
  have hcl : ∀ {ops : Array Oper} {dst : Option Tmp} {k : List Oper} {T : List V} {F : Dfs} {Q : Post}, WpR cfg ops dst k T S F Q (some (.enter 50 [v])) = WpL cfg ops k (putT T dst (.d (.str (hexS (beL w))))) S F Q := fun {ops dst k T F Q} => call_rhexV hv.frz (by rw [beL_len]; decide)
  unfold wgtS
  simp (maxSteps := 1000000) (disch := first | assumption | omega | rfl) only [↓vmp, vme, vmb, ty, hP, dec_t, dec_f, wrap64, List.length_map, Int.toNat_natCast, Nat.reduceAdd, List.cons_append, List.nil_append, Option.map_some, Option.map_none, strOf_mk, sb_eql, sb_neq, vmg, ↓vgd, ↓vst, ↓vix, hcl, h1, bo50]
  exact retQ_one rfl rfl rfl
end Go.Proofs.YteapjcgeckpknaaDoor
end
/-! The calls' names, which call a name is, which calls may be, and which paths. -/
section
set_option linter.unusedVariables false
set_option linter.unusedSimpArgs false
set_option maxRecDepth 100000
set_option maxHeartbeats 4000000
namespace Go.Proofs.YteapjcgeckpknaaDoor
open Go.Vm
abbrev InB (n : Int) : Prop := -9223372036854775808 ≤ n ∧ n ≤ 9223372036854775807
def onL : List (List UInt8) := [[], [99, 114, 101, 97, 116, 101], [109, 107, 100, 105, 114], [108, 105, 110, 107], [117, 110, 108, 105, 110, 107], [114, 109, 100, 105, 114], [114, 101, 110, 97, 109, 101], [119, 114, 105, 116, 101], [114, 101, 97, 100], [116, 114, 117, 110, 99, 97, 116, 101], [108, 105, 115, 116], [115, 116, 97, 116], [102, 115, 121, 110, 99], [115, 121, 110, 99]]
def nameO (n : Int) : List UInt8 := if 0 ≤ n ∧ n ≤ 13 then onL.getD n.toNat [] else []
theorem nameO_nat {i : Nat} (h : i ≤ 13) : nameO (i : Int) = onL.getD i [] := by
  unfold nameO
  rw [if_pos (by omega), Int.toNat_natCast]
theorem nameO_len (n : Int) : (nameO n).length ≤ 8 := by
  unfold nameO
  split
  · have : ∀ k : Fin 14, (onL.getD k.val []).length ≤ 8 := by decide
    exact this ⟨n.toNat, by omega⟩
  · simp
theorem name_in : ∀ k : Nat, k < 14 → Ev cfg 53 [.int .i64 (k : Int)] (.ret (.d (.str (onL.getD k []))))
  | 0, _ => ⟨400, by kernel_rfl⟩
  | 1, _ => ⟨400, by kernel_rfl⟩
  | 2, _ => ⟨400, by kernel_rfl⟩
  | 3, _ => ⟨400, by kernel_rfl⟩
  | 4, _ => ⟨400, by kernel_rfl⟩
  | 5, _ => ⟨400, by kernel_rfl⟩
  | 6, _ => ⟨400, by kernel_rfl⟩
  | 7, _ => ⟨400, by kernel_rfl⟩
  | 8, _ => ⟨400, by kernel_rfl⟩
  | 9, _ => ⟨400, by kernel_rfl⟩
  | 10, _ => ⟨400, by kernel_rfl⟩
  | 11, _ => ⟨400, by kernel_rfl⟩
  | 12, _ => ⟨400, by kernel_rfl⟩
  | 13, _ => ⟨400, by kernel_rfl⟩
  | n + 14, h => absurd h (by omega)
theorem name_ok (n : Int) : Ev cfg 53 [.int .i64 n] (.ret (.d (.str (nameO n)))) := by
  unfold nameO
  by_cases h : 0 ≤ n ∧ n ≤ 13
  · rw [if_pos h]
    have := name_in n.toNat (by omega)
    rw [Int.toNat_of_nonneg h.1] at this
    exact this
  · rw [if_neg h]
    have z99 : zeroV Tryd.prog 99 = some (.agg [.d (.str []), .d (.str []), .d (.str []), .d (.str []), .d (.str []), .d (.str []), .d (.str []), .d (.str []), .d (.str []), .d (.str []), .d (.str []), .d (.str []), .d (.str []), .d (.str [])]) := by kernel_rfl
    have zf99 : fitsT Tryd.prog 99 (.agg [.d (.str []), .d (.str []), .d (.str []), .d (.str []), .d (.str []), .d (.str []), .d (.str []), .d (.str []), .d (.str []), .d (.str []), .d (.str []), .d (.str []), .d (.str []), .d (.str [])]) = true := by kernel_rfl
    have zb99 : fitsT Tryd.prog 99 (.agg [.d (.str []), .d (.str [99, 114, 101, 97, 116, 101]), .d (.str [109, 107, 100, 105, 114]), .d (.str [108, 105, 110, 107]), .d (.str [117, 110, 108, 105, 110, 107]), .d (.str [114, 109, 100, 105, 114]), .d (.str [114, 101, 110, 97, 109, 101]), .d (.str [119, 114, 105, 116, 101]), .d (.str [114, 101, 97, 100]), .d (.str [116, 114, 117, 110, 99, 97, 116, 101]), .d (.str [108, 105, 115, 116]), .d (.str [115, 116, 97, 116]), .d (.str [102, 115, 121, 110, 99]), .d (.str [115, 121, 110, 99])]) = true := by kernel_rfl
    have bd99 : buildV Tryd.prog 99 [(0, .d (.str [])), (1, .d (.str [99, 114, 101, 97, 116, 101])), (2, .d (.str [109, 107, 100, 105, 114])), (3, .d (.str [108, 105, 110, 107])), (4, .d (.str [117, 110, 108, 105, 110, 107])), (5, .d (.str [114, 109, 100, 105, 114])), (6, .d (.str [114, 101, 110, 97, 109, 101])), (7, .d (.str [119, 114, 105, 116, 101])), (8, .d (.str [114, 101, 97, 100])), (9, .d (.str [116, 114, 117, 110, 99, 97, 116, 101])), (10, .d (.str [108, 105, 115, 116])), (11, .d (.str [115, 116, 97, 116])), (12, .d (.str [102, 115, 121, 110, 99])), (13, .d (.str [115, 121, 110, 99]))] = some (.agg [.d (.str []), .d (.str [99, 114, 101, 97, 116, 101]), .d (.str [109, 107, 100, 105, 114]), .d (.str [108, 105, 110, 107]), .d (.str [117, 110, 108, 105, 110, 107]), .d (.str [114, 109, 100, 105, 114]), .d (.str [114, 101, 110, 97, 109, 101]), .d (.str [119, 114, 105, 116, 101]), .d (.str [114, 101, 97, 100]), .d (.str [116, 114, 117, 110, 99, 97, 116, 101]), .d (.str [108, 105, 115, 116]), .d (.str [115, 116, 97, 116]), .d (.str [102, 115, 121, 110, 99]), .d (.str [115, 121, 110, 99])]) := by kernel_rfl
    have sr99 : storeR Tryd.prog 99 0 (.agg [.d (.str []), .d (.str [99, 114, 101, 97, 116, 101]), .d (.str [109, 107, 100, 105, 114]), .d (.str [108, 105, 110, 107]), .d (.str [117, 110, 108, 105, 110, 107]), .d (.str [114, 109, 100, 105, 114]), .d (.str [114, 101, 110, 97, 109, 101]), .d (.str [119, 114, 105, 116, 101]), .d (.str [114, 101, 97, 100]), .d (.str [116, 114, 117, 110, 99, 97, 116, 101]), .d (.str [108, 105, 115, 116]), .d (.str [115, 116, 97, 116]), .d (.str [102, 115, 121, 110, 99]), .d (.str [115, 121, 110, 99])]) (.agg [.d (.str []), .d (.str []), .d (.str []), .d (.str []), .d (.str []), .d (.str []), .d (.str []), .d (.str []), .d (.str []), .d (.str []), .d (.str []), .d (.str []), .d (.str []), .d (.str [])]) = some (.agg [.d (.str []), .d (.str [99, 114, 101, 97, 116, 101]), .d (.str [109, 107, 100, 105, 114]), .d (.str [108, 105, 110, 107]), .d (.str [117, 110, 108, 105, 110, 107]), .d (.str [114, 109, 100, 105, 114]), .d (.str [114, 101, 110, 97, 109, 101]), .d (.str [119, 114, 105, 116, 101]), .d (.str [114, 101, 97, 100]), .d (.str [116, 114, 117, 110, 99, 97, 116, 101]), .d (.str [108, 105, 115, 116]), .d (.str [115, 116, 97, 116]), .d (.str [102, 115, 121, 110, 99]), .d (.str [115, 121, 110, 99])]) := by kernel_rfl
    refine ev_of rfl rfl body53 ?_
    show Wp cfg (Tryd.f53.body.getD .skip) ((.d (.int .i64 n)) :: (.tup []) :: (.tup []) :: (.tup []) :: (.tup []) :: (.tup []) :: (.tup []) :: (.tup []) :: (.tup []) :: (.tup []) :: (.tup []) :: (.tup []) :: (.tup []) :: (.tup []) :: []) [] [] _
    conv => arg 2; whnf
    by_cases hn : n < 0
    · simp (maxSteps := 1000000) (disch := first | assumption | omega | rfl) only [↓vmp, vme, vmb, ty, hP, dec_t, dec_f, wrap64, List.length_map, Int.toNat_natCast, Nat.reduceAdd, List.cons_append, List.nil_append, Option.map_some, Option.map_none, strOf_mk, sb_eql, sb_neq, vmg, ↓vgd, ↓vst, ↓vix, z99, zf99, zb99, bd99, sr99]
      exact retQ_one rfl rfl rfl
    · have h14 : n ≥ 14 := by omega
      simp (maxSteps := 1000000) (disch := first | assumption | omega | rfl) only [↓vmp, vme, vmb, ty, hP, dec_t, dec_f, wrap64, List.length_map, Int.toNat_natCast, Nat.reduceAdd, List.cons_append, List.nil_append, Option.map_some, Option.map_none, strOf_mk, sb_eql, sb_neq, vmg, ↓vgd, ↓vst, ↓vix, z99, zf99, zb99, bd99, sr99]
      exact retQ_one rfl rfl rfl
theorem names_ok : Ev cfg 48 [] (.ret (.d (.sl (onL.map .str)))) := ⟨400, by kernel_rfl⟩
section
variable {ops : Array Oper} {dst : Option Tmp} {k : List Oper} {T : List V} {S : Store} {F : Dfs} {Q : Post}
theorem call_name {n : Int} : WpR cfg ops dst k T S F Q (some (.enter 53 [.d (.int .i64 n)])) = WpL cfg ops k (putT T dst (.d (.str (nameO n)))) S F Q :=
  wr_call_d (ds := [.int .i64 n]) rfl (name_ok n)
theorem call_names : WpR cfg ops dst k T S F Q (some (.enter 48 [])) = WpL cfg ops k (putT T dst (.d (.sl (onL.map .str)))) S F Q :=
  wr_call_d (ds := []) rfl names_ok
theorem call_itoa {n : Int} (h : InB n) : WpR cfg ops dst k T S F Q (some (.enter 58 [.d (.int .i64 n)])) = WpL cfg ops k (putT T dst (.d (.str (Lib.itoa n)))) S F Q :=
  wr_call_d (ds := [.int .i64 n]) rfl (itoa_ev n h)
end
theorem bo58 : (bodyOf Tryd.prog 58).isSome = true := by kernel_rfl
theorem whole_ok (n : Int) (h : InB n) : Ev cfg 33 [.int .i64 n] (.ret (.d (.str (Lib.itoa n)))) := by
  refine ev_of rfl rfl body33 ?_
  show Wp cfg (Tryd.f33.body.getD .skip) ((.d (.int .i64 n)) :: (.tup []) :: (.tup []) :: (.tup []) :: (.tup []) :: []) [] [] _
  conv => arg 2; whnf
  simp (maxSteps := 1000000) (disch := first | assumption | omega | rfl) only [↓vmp, vme, vmb, ty, hP, dec_t, dec_f, wrap64, List.length_map, Int.toNat_natCast, Nat.reduceAdd, List.cons_append, List.nil_append, Option.map_some, Option.map_none, strOf_mk, sb_eql, sb_neq, vmg, ↓vgd, ↓vst, ↓vix, call_itoa h, bo58]
  exact retQ_one rfl rfl rfl
def doF : Nat → Nat → List UInt8 → Int
  | 0, _, _ => 0
  | k + 1, i, s => if onL.getD i [] = s then (i : Int) else doF k (i + 1) s
/-- Which call the name is; 0: none. -/
def doN (s : List UInt8) : Int := doF 13 1 s
theorem do_l (s : List UInt8) (R : Post) (x2 : V) : ∀ (k i : Nat) (g1 g4 g5 g6 g7 g8 g9 g10 g11 g12 : V), i + k = 14 → 1 ≤ i →
   (doF k i s = 0 → ∀ i' g1 g4 g5 g6 g7 g8 g9 g10 g11 g12, R (.exit 0) ((.d (.str s)) :: g1 :: x2 :: i' :: g4 :: g5 :: g6 :: g7 :: g8 :: g9 :: g10 :: g11 :: g12 :: []) [] []) →
   (∀ i' g1 g4 g5 g6 g7 g8 g9 g10 g11 g12, R .ret ((.d (.str s)) :: g1 :: (.d (.int .i64 (doF k i s))) :: i' :: g4 :: g5 :: g6 :: g7 :: g8 :: g9 :: g10 :: g11 :: g12 :: []) [] []) →
   Wp cfg (.loop (lpOf (Tryd.f43.body.getD .skip) 0)) ((.d (.str s)) :: g1 :: x2 :: (.d (.int .i64 (i : Int))) :: g4 :: g5 :: g6 :: g7 :: g8 :: g9 :: g10 :: g11 :: g12 :: []) [] [] R := by
  intro k
  induction k with
  | zero =>
    intro i g1 g4 g5 g6 g7 g8 g9 g10 g11 g12 hk hi hE hR
    have hie : i = 14 := by omega
    subst hie
    rw [wk_of]
    refine wk_loop ?_
    conv => arg 2; whnf
    simp (maxSteps := 1000000) (disch := first | assumption | omega | rfl) only [↓vmp, vme, vmb, ty, hP, dec_t, dec_f, wrap64, List.length_map, Int.toNat_natCast, Nat.reduceAdd, List.cons_append, List.nil_append, Option.map_some, Option.map_none, strOf_mk, sb_eql, sb_neq, vmg, ↓vgd, ↓vst, ↓vix]
    exact hE rfl _ _ _ _ _ _ _ _ _ _ _
  | succ k ih =>
    intro i g1 g4 g5 g6 g7 g8 g9 g10 g11 g12 hk hi hE hR
    have h13 : (i : Int) ≤ 13 := by omega
    have e := nameO_nat (i := i) (by omega)
    unfold doF at hE hR
    rw [← e] at hE hR
    rw [wk_of]
    refine wk_loop ?_
    conv => arg 2; whnf
    by_cases hc : nameO (i : Int) = s
    · rw [if_pos hc] at hR
      simp (maxSteps := 1000000) (disch := first | assumption | omega | rfl) only [↓vmp, vme, vmb, ty, hP, dec_t, dec_f, wrap64, List.length_map, Int.toNat_natCast, Nat.reduceAdd, List.cons_append, List.nil_append, Option.map_some, Option.map_none, strOf_mk, sb_eql, sb_neq, vmg, ↓vgd, ↓vst, ↓vix, call_name, bo53, deq, dec_True]
      exact hR _ _ _ _ _ _ _ _ _ _ _
    · rw [if_neg hc] at hE hR
      simp (maxSteps := 1000000) (disch := first | assumption | omega | rfl) only [↓vmp, vme, vmb, ty, hP, dec_t, dec_f, wrap64, List.length_map, Int.toNat_natCast, Nat.reduceAdd, List.cons_append, List.nil_append, Option.map_some, Option.map_none, strOf_mk, sb_eql, sb_neq, vmg, ↓vgd, ↓vst, ↓vix, call_name, bo53]
      exact ih (i + 1) _ _ _ _ _ _ _ _ _ _ (by omega) (by omega) hE hR
theorem do_ok (s : List UInt8) : Ev cfg 43 [.str s] (.ret (.d (.int .i64 (doN s)))) := by
  refine ev_of rfl rfl body43 ?_
  show Wp cfg (Tryd.f43.body.getD .skip) ((.d (.str s)) :: (.tup []) :: (.tup []) :: (.tup []) :: (.tup []) :: (.tup []) :: (.tup []) :: (.tup []) :: (.tup []) :: (.tup []) :: (.tup []) :: (.tup []) :: (.tup []) :: []) [] [] _
  conv => arg 2; whnf
  simp (maxSteps := 1000000) (disch := first | assumption | omega | rfl) only [↓vmp, vme, vmb, ty, hP, dec_t, dec_f, wrap64, List.length_map, Int.toNat_natCast, Nat.reduceAdd, List.cons_append, List.nil_append, Option.map_some, Option.map_none, strOf_mk, sb_eql, sb_neq, vmg, ↓vgd, ↓vst, ↓vix]
  refine do_l s _ _ 13 1 _ _ _ _ _ _ _ _ _ _ rfl (Nat.le_refl _) ?_ ?_
  · intro h0 i' g1 g4 g5 g6 g7 g8 g9 g10 g11 g12
    have e : doN s = 0 := h0
    rw [e]
    simp (maxSteps := 1000000) (disch := first | assumption | omega | rfl) only [↓vmp, vme, vmb, ty, hP, dec_t, dec_f, wrap64, List.length_map, Int.toNat_natCast, Nat.reduceAdd, List.cons_append, List.nil_append, Option.map_some, Option.map_none, strOf_mk, sb_eql, sb_neq, vmg, ↓vgd, ↓vst, ↓vix]
    exact retQ_one rfl rfl rfl
  · intro i' g1 g4 g5 g6 g7 g8 g9 g10 g11 g12
    simp (maxSteps := 1000000) (disch := first | assumption | omega | rfl) only [↓vmp, vme, vmb, ty, hP, dec_t, dec_f, wrap64, List.length_map, Int.toNat_natCast, Nat.reduceAdd, List.cons_append, List.nil_append, Option.map_some, Option.map_none, strOf_mk, sb_eql, sb_neq, vmg, ↓vgd, ↓vst, ↓vix]
    exact retQ_one rfl rfl rfl
def pbad (b : UInt8) : Bool := decide ((b.toNat : Int) < 33) || decide ((b.toNat : Int) = 127)
/-- Is a path one here? -/
def pathB (s : List UInt8) : Bool := !s.any pbad && decide (s ≠ [])
theorem path_l (s : List UInt8) (hl : s.length ≤ 1000000000) (R : Post) (x2 : V) : ∀ (k i : Nat) (g1 g3 g4 g7 g8 g9 g10 g11 g12 g13 g14 g15 g16 g17 g18 g19 g20 g21 : V), s.length - i = k → i ≤ s.length →
   ((s.drop i).any pbad = false → ∀ i' g1 g3 g4 g7 g8 g9 g10 g11 g12 g13 g14 g15 g16 g17 g18 g19 g20 g21, R (.exit 0) ((.d (.str s)) :: g1 :: x2 :: g3 :: g4 :: (.d (.int .i64 s.length)) :: i' :: g7 :: g8 :: g9 :: g10 :: g11 :: g12 :: g13 :: g14 :: g15 :: g16 :: g17 :: g18 :: g19 :: g20 :: g21 :: []) [] []) →
   ((s.drop i).any pbad = true → ∀ i' g1 g3 g4 g7 g8 g9 g10 g11 g12 g13 g14 g15 g16 g17 g18 g19 g20 g21, R .ret ((.d (.str s)) :: g1 :: (.d (.bool false)) :: g3 :: g4 :: (.d (.int .i64 s.length)) :: i' :: g7 :: g8 :: g9 :: g10 :: g11 :: g12 :: g13 :: g14 :: g15 :: g16 :: g17 :: g18 :: g19 :: g20 :: g21 :: []) [] []) →
   Wp cfg (.loop (lpOf (Tryd.f55.body.getD .skip) 0)) ((.d (.str s)) :: g1 :: x2 :: g3 :: g4 :: (.d (.int .i64 s.length)) :: (.d (.int .i64 (i : Int))) :: g7 :: g8 :: g9 :: g10 :: g11 :: g12 :: g13 :: g14 :: g15 :: g16 :: g17 :: g18 :: g19 :: g20 :: g21 :: []) [] [] R := by
  intro k
  induction k with
  | zero =>
    intro i g1 g3 g4 g7 g8 g9 g10 g11 g12 g13 g14 g15 g16 g17 g18 g19 g20 g21 hk hi hE hR
    have hie : i = s.length := by omega
    rw [hie, List.drop_length] at hE
    rw [wk_of]
    refine wk_loop ?_
    conv => arg 2; whnf
    simp (maxSteps := 1000000) (disch := first | assumption | omega | rfl) only [↓vmp, vme, vmb, ty, hP, dec_t, dec_f, wrap64, List.length_map, Int.toNat_natCast, Nat.reduceAdd, List.cons_append, List.nil_append, Option.map_some, Option.map_none, strOf_mk, sb_eql, sb_neq, vmg, ↓vgd, ↓vst, ↓vix]
    exact hE rfl _ _ _ _ _ _ _ _ _ _ _ _ _ _ _ _ _ _ _
  | succ k ih =>
    intro i g1 g3 g4 g7 g8 g9 g10 g11 g12 g13 g14 g15 g16 g17 g18 g19 g20 g21 hk hi hE hR
    have hlt : i < s.length := by omega
    have hix := ixstr hlt
    rw [List.drop_eq_getElem_cons hlt, List.any_cons] at hE hR
    unfold pbad at hE hR
    generalize s[i].toNat = x at *
    rw [wk_of]
    refine wk_loop ?_
    conv => arg 2; whnf
    by_cases h1 : (x : Int) < 33
    · rw [decide_eq_true h1] at hR
      simp (maxSteps := 1000000) (disch := first | assumption | omega | rfl) only [↓vmp, vme, vmb, ty, hP, dec_t, dec_f, wrap64, List.length_map, Int.toNat_natCast, Nat.reduceAdd, List.cons_append, List.nil_append, Option.map_some, Option.map_none, strOf_mk, sb_eql, sb_neq, vmg, ↓vgd, ↓vst, ↓vix, hix]
      exact hR rfl _ _ _ _ _ _ _ _ _ _ _ _ _ _ _ _ _ _ _
    · by_cases h2 : (x : Int) = 127
      · rw [decide_eq_true h2, Bool.or_true] at hR
        simp (maxSteps := 1000000) (disch := first | assumption | omega | rfl) only [↓vmp, vme, vmb, ty, hP, dec_t, dec_f, wrap64, List.length_map, Int.toNat_natCast, Nat.reduceAdd, List.cons_append, List.nil_append, Option.map_some, Option.map_none, strOf_mk, sb_eql, sb_neq, vmg, ↓vgd, ↓vst, ↓vix, hix, dec_True]
        exact hR rfl _ _ _ _ _ _ _ _ _ _ _ _ _ _ _ _ _ _ _
      · rw [decide_eq_false h1, decide_eq_false h2] at hE hR
        simp (maxSteps := 1000000) (disch := first | assumption | omega | rfl) only [↓vmp, vme, vmb, ty, hP, dec_t, dec_f, wrap64, List.length_map, Int.toNat_natCast, Nat.reduceAdd, List.cons_append, List.nil_append, Option.map_some, Option.map_none, strOf_mk, sb_eql, sb_neq, vmg, ↓vgd, ↓vst, ↓vix, hix]
        exact ih (i + 1) _ _ _ _ _ _ _ _ _ _ _ _ _ _ _ _ _ _ (by omega) (by omega) hE hR
theorem path_ok (s : List UInt8) (hl : s.length ≤ 1000000000) : Ev cfg 55 [.str s] (.ret (.d (.bool (pathB s)))) := by
  refine ev_of rfl rfl body55 ?_
  show Wp cfg (Tryd.f55.body.getD .skip) ((.d (.str s)) :: (.tup []) :: (.tup []) :: (.tup []) :: (.tup []) :: (.tup []) :: (.tup []) :: (.tup []) :: (.tup []) :: (.tup []) :: (.tup []) :: (.tup []) :: (.tup []) :: (.tup []) :: (.tup []) :: (.tup []) :: (.tup []) :: (.tup []) :: (.tup []) :: (.tup []) :: (.tup []) :: (.tup []) :: []) [] [] _
  conv => arg 2; whnf
  generalize hp : pathB s = p
  simp (maxSteps := 1000000) (disch := first | assumption | omega | rfl) only [↓vmp, vme, vmb, ty, hP, dec_t, dec_f, wrap64, List.length_map, Int.toNat_natCast, Nat.reduceAdd, List.cons_append, List.nil_append, Option.map_some, Option.map_none, strOf_mk, sb_eql, sb_neq, vmg, ↓vgd, ↓vst, ↓vix]
  unfold pathB at hp
  refine path_l s hl _ _ s.length 0 _ _ _ _ _ _ _ _ _ _ _ _ _ _ _ _ _ _ rfl (Nat.zero_le _) ?_ ?_
  · intro h0 i' g1 g3 g4 g7 g8 g9 g10 g11 g12 g13 g14 g15 g16 g17 g18 g19 g20 g21
    rw [List.drop_zero] at h0
    rw [h0] at hp
    by_cases he : s = []
    · have hp : p = false := by rw [← hp, he]; rfl
      subst he hp
      simp (maxSteps := 1000000) (disch := first | assumption | omega | rfl) only [↓vmp, vme, vmb, ty, hP, dec_t, dec_f, wrap64, List.length_map, Int.toNat_natCast, Nat.reduceAdd, List.cons_append, List.nil_append, Option.map_some, Option.map_none, strOf_mk, sb_eql, sb_neq, vmg, ↓vgd, ↓vst, ↓vix, dec_True, dne]
      exact retQ_one rfl rfl rfl
    · have hp : p = true := by rw [← hp]; simp [he]
      have hlen : (s.length : Int) > 0 := by have := List.length_pos_iff.2 he; omega
      subst hp
      simp (maxSteps := 1000000) (disch := first | assumption | omega | rfl) only [↓vmp, vme, vmb, ty, hP, dec_t, dec_f, wrap64, List.length_map, Int.toNat_natCast, Nat.reduceAdd, List.cons_append, List.nil_append, Option.map_some, Option.map_none, strOf_mk, sb_eql, sb_neq, vmg, ↓vgd, ↓vst, ↓vix]
      exact retQ_one rfl rfl rfl
  · intro h0 i' g1 g3 g4 g7 g8 g9 g10 g11 g12 g13 g14 g15 g16 g17 g18 g19 g20 g21
    rw [List.drop_zero] at h0
    have hp : p = false := by rw [← hp, h0]; rfl
    subst hp
    simp (maxSteps := 1000000) (disch := first | assumption | omega | rfl) only [↓vmp, vme, vmb, ty, hP, dec_t, dec_f, wrap64, List.length_map, Int.toNat_natCast, Nat.reduceAdd, List.cons_append, List.nil_append, Option.map_some, Option.map_none, strOf_mk, sb_eql, sb_neq, vmg, ↓vgd, ↓vst, ↓vix]
    exact retQ_one rfl rfl rfl
theorem rpath_l (s : List UInt8) (hl : s.length ≤ 1000000000) (R : Post) (x2 : V) : ∀ (k i : Nat) (g1 g4 g5 g6 g7 g8 g9 g10 g11 g12 g13 g14 g15 g16 g17 g18 g19 g20 g21 g22 : V), s.length - i = k → i ≤ s.length →
   ((s.drop i).any pbad = false → ∀ i' g1 g4 g5 g6 g7 g8 g9 g10 g11 g12 g13 g14 g15 g16 g17 g18 g19 g20 g21 g22, R (.exit 0) ((.d (.str s)) :: g1 :: x2 :: i' :: g4 :: g5 :: g6 :: g7 :: g8 :: g9 :: g10 :: g11 :: g12 :: g13 :: g14 :: g15 :: g16 :: g17 :: g18 :: g19 :: g20 :: g21 :: g22 :: []) [] []) →
   ((s.drop i).any pbad = true → ∀ i' g1 g4 g5 g6 g7 g8 g9 g10 g11 g12 g13 g14 g15 g16 g17 g18 g19 g20 g21 g22, R .ret ((.d (.str s)) :: g1 :: (.d (.bool false)) :: i' :: g4 :: g5 :: g6 :: g7 :: g8 :: g9 :: g10 :: g11 :: g12 :: g13 :: g14 :: g15 :: g16 :: g17 :: g18 :: g19 :: g20 :: g21 :: g22 :: []) [] []) →
   Wp cfg (.loop (lpOf (Tryd.f49.body.getD .skip) 0)) ((.d (.str s)) :: g1 :: x2 :: (.d (.int .i64 (i : Int))) :: g4 :: g5 :: g6 :: g7 :: g8 :: g9 :: g10 :: g11 :: g12 :: g13 :: g14 :: g15 :: g16 :: g17 :: g18 :: g19 :: g20 :: g21 :: g22 :: []) [] [] R := by
  intro k
  induction k with
  | zero =>
    intro i g1 g4 g5 g6 g7 g8 g9 g10 g11 g12 g13 g14 g15 g16 g17 g18 g19 g20 g21 g22 hk hi hE hR
    have hie : i = s.length := by omega
    rw [hie, List.drop_length] at hE
    rw [wk_of]
    refine wk_loop ?_
    conv => arg 2; whnf
    simp (maxSteps := 1000000) (disch := first | assumption | omega | rfl) only [↓vmp, vme, vmb, ty, hP, dec_t, dec_f, wrap64, List.length_map, Int.toNat_natCast, Nat.reduceAdd, List.cons_append, List.nil_append, Option.map_some, Option.map_none, strOf_mk, sb_eql, sb_neq, vmg, ↓vgd, ↓vst, ↓vix]
    exact hE rfl _ _ _ _ _ _ _ _ _ _ _ _ _ _ _ _ _ _ _ _ _
  | succ k ih =>
    intro i g1 g4 g5 g6 g7 g8 g9 g10 g11 g12 g13 g14 g15 g16 g17 g18 g19 g20 g21 g22 hk hi hE hR
    have hlt : i < s.length := by omega
    have hix := ixstr hlt
    rw [List.drop_eq_getElem_cons hlt, List.any_cons] at hE hR
    unfold pbad at hE hR
    generalize s[i].toNat = x at *
    rw [wk_of]
    refine wk_loop ?_
    conv => arg 2; whnf
    by_cases h1 : (x : Int) < 33
    · rw [decide_eq_true h1] at hR
      simp (maxSteps := 1000000) (disch := first | assumption | omega | rfl) only [↓vmp, vme, vmb, ty, hP, dec_t, dec_f, wrap64, List.length_map, Int.toNat_natCast, Nat.reduceAdd, List.cons_append, List.nil_append, Option.map_some, Option.map_none, strOf_mk, sb_eql, sb_neq, vmg, ↓vgd, ↓vst, ↓vix, hix]
      exact hR rfl _ _ _ _ _ _ _ _ _ _ _ _ _ _ _ _ _ _ _ _ _
    · by_cases h2 : (x : Int) = 127
      · rw [decide_eq_true h2, Bool.or_true] at hR
        simp (maxSteps := 1000000) (disch := first | assumption | omega | rfl) only [↓vmp, vme, vmb, ty, hP, dec_t, dec_f, wrap64, List.length_map, Int.toNat_natCast, Nat.reduceAdd, List.cons_append, List.nil_append, Option.map_some, Option.map_none, strOf_mk, sb_eql, sb_neq, vmg, ↓vgd, ↓vst, ↓vix, hix, dec_True]
        exact hR rfl _ _ _ _ _ _ _ _ _ _ _ _ _ _ _ _ _ _ _ _ _
      · rw [decide_eq_false h1, decide_eq_false h2] at hE hR
        simp (maxSteps := 1000000) (disch := first | assumption | omega | rfl) only [↓vmp, vme, vmb, ty, hP, dec_t, dec_f, wrap64, List.length_map, Int.toNat_natCast, Nat.reduceAdd, List.cons_append, List.nil_append, Option.map_some, Option.map_none, strOf_mk, sb_eql, sb_neq, vmg, ↓vgd, ↓vst, ↓vix, hix]
        exact ih (i + 1) _ _ _ _ _ _ _ _ _ _ _ _ _ _ _ _ _ _ _ _ (by omega) (by omega) hE hR
theorem rpath_ok (s : List UInt8) (hl : s.length ≤ 1000000000) : Ev cfg 49 [.str s] (.ret (.d (.bool (pathB s)))) := by
  refine ev_of rfl rfl body49 ?_
  show Wp cfg (Tryd.f49.body.getD .skip) ((.d (.str s)) :: (.tup []) :: (.tup []) :: (.tup []) :: (.tup []) :: (.tup []) :: (.tup []) :: (.tup []) :: (.tup []) :: (.tup []) :: (.tup []) :: (.tup []) :: (.tup []) :: (.tup []) :: (.tup []) :: (.tup []) :: (.tup []) :: (.tup []) :: (.tup []) :: (.tup []) :: (.tup []) :: (.tup []) :: (.tup []) :: []) [] [] _
  conv => arg 2; whnf
  generalize hp : pathB s = p
  simp (maxSteps := 1000000) (disch := first | assumption | omega | rfl) only [↓vmp, vme, vmb, ty, hP, dec_t, dec_f, wrap64, List.length_map, Int.toNat_natCast, Nat.reduceAdd, List.cons_append, List.nil_append, Option.map_some, Option.map_none, strOf_mk, sb_eql, sb_neq, vmg, ↓vgd, ↓vst, ↓vix]
  unfold pathB at hp
  refine rpath_l s hl _ _ s.length 0 _ _ _ _ _ _ _ _ _ _ _ _ _ _ _ _ _ _ _ _ rfl (Nat.zero_le _) ?_ ?_
  · intro h0 i' g1 g4 g5 g6 g7 g8 g9 g10 g11 g12 g13 g14 g15 g16 g17 g18 g19 g20 g21 g22
    rw [List.drop_zero] at h0
    rw [h0] at hp
    by_cases he : s = []
    · have hp : p = false := by rw [← hp, he]; rfl
      subst he hp
      simp (maxSteps := 1000000) (disch := first | assumption | omega | rfl) only [↓vmp, vme, vmb, ty, hP, dec_t, dec_f, wrap64, List.length_map, Int.toNat_natCast, Nat.reduceAdd, List.cons_append, List.nil_append, Option.map_some, Option.map_none, strOf_mk, sb_eql, sb_neq, vmg, ↓vgd, ↓vst, ↓vix, dec_True, dne]
      exact retQ_one rfl rfl rfl
    · have hp : p = true := by rw [← hp]; simp [he]
      have hlen : (s.length : Int) > 0 := by have := List.length_pos_iff.2 he; omega
      subst hp
      simp (maxSteps := 1000000) (disch := first | assumption | omega | rfl) only [↓vmp, vme, vmb, ty, hP, dec_t, dec_f, wrap64, List.length_map, Int.toNat_natCast, Nat.reduceAdd, List.cons_append, List.nil_append, Option.map_some, Option.map_none, strOf_mk, sb_eql, sb_neq, vmg, ↓vgd, ↓vst, ↓vix]
      exact retQ_one rfl rfl rfl
  · intro h0 i' g1 g4 g5 g6 g7 g8 g9 g10 g11 g12 g13 g14 g15 g16 g17 g18 g19 g20 g21 g22
    rw [List.drop_zero] at h0
    have hp : p = false := by rw [← hp, h0]; rfl
    subst hp
    simp (maxSteps := 1000000) (disch := first | assumption | omega | rfl) only [↓vmp, vme, vmb, ty, hP, dec_t, dec_f, wrap64, List.length_map, Int.toNat_natCast, Nat.reduceAdd, List.cons_append, List.nil_append, Option.map_some, Option.map_none, strOf_mk, sb_eql, sb_neq, vmg, ↓vgd, ↓vst, ↓vix]
    exact retQ_one rfl rfl rfl
end Go.Proofs.YteapjcgeckpknaaDoor
end
/-! Which calls may be; the paths of a call. -/
section
set_option linter.unusedVariables false
set_option linter.unusedSimpArgs false
set_option maxRecDepth 100000
set_option maxHeartbeats 4000000
namespace Go.Proofs.YteapjcgeckpknaaDoor
open Go.Vm
def May (o : Opn) : Prop := 1 ≤ o.does ∧ o.does ≤ 13 ∧ o.data.length ≤ 1024
instance (o : Opn) : Decidable (May o) := by unfold May; infer_instance
theorem check_ok (o : Opn) : Ev cfg 52 [encOpn o] (.ret (.d (.int .i64 (if May o then 0 else 1)))) := by
  refine ev_of rfl rfl body52 ?_
  show Wp cfg (Tryd.f52.body.getD .skip) ((.d (encOpn o)) :: (.tup []) :: (.tup []) :: (.tup []) :: (.tup []) :: (.tup []) :: (.tup []) :: (.tup []) :: (.tup []) :: (.tup []) :: (.tup []) :: (.tup []) :: (.tup []) :: (.tup []) :: (.tup []) :: (.tup []) :: (.tup []) :: []) [] [] _
  conv => arg 2; whnf
  by_cases h1 : o.does < 1
  · rw [if_neg (fun h : May o => by have := h.1; omega)]
    simp (maxSteps := 1000000) (disch := first | assumption | omega | rfl) only [↓vmp, vme, vmb, ty, hP, dec_t, dec_f, wrap64, List.length_map, Int.toNat_natCast, Nat.reduceAdd, List.cons_append, List.nil_append, Option.map_some, Option.map_none, strOf_mk, sb_eql, sb_neq, vmg, ↓vgd, ↓vst, ↓vix, encB]
    exact retQ_one rfl rfl rfl
  by_cases h2 : o.does > 13
  · rw [if_neg (fun h : May o => by have := h.2.1; omega)]
    simp (maxSteps := 1000000) (disch := first | assumption | omega | rfl) only [↓vmp, vme, vmb, ty, hP, dec_t, dec_f, wrap64, List.length_map, Int.toNat_natCast, Nat.reduceAdd, List.cons_append, List.nil_append, Option.map_some, Option.map_none, strOf_mk, sb_eql, sb_neq, vmg, ↓vgd, ↓vst, ↓vix, encB]
    exact retQ_one rfl rfl rfl
  by_cases h3 : (o.data.length : Int) > 1024
  · rw [if_neg (fun h : May o => by have := h.2.2; omega)]
    simp (maxSteps := 1000000) (disch := first | assumption | omega | rfl) only [↓vmp, vme, vmb, ty, hP, dec_t, dec_f, wrap64, List.length_map, Int.toNat_natCast, Nat.reduceAdd, List.cons_append, List.nil_append, Option.map_some, Option.map_none, strOf_mk, sb_eql, sb_neq, vmg, ↓vgd, ↓vst, ↓vix, encB]
    exact retQ_one rfl rfl rfl
  · rw [if_pos ⟨by omega, by omega, by omega⟩]
    simp (maxSteps := 1000000) (disch := first | assumption | omega | rfl) only [↓vmp, vme, vmb, ty, hP, dec_t, dec_f, wrap64, List.length_map, Int.toNat_natCast, Nat.reduceAdd, List.cons_append, List.nil_append, Option.map_some, Option.map_none, strOf_mk, sb_eql, sb_neq, vmg, ↓vgd, ↓vst, ↓vix, encB]
    exact retQ_one rfl rfl rfl
theorem may_ok (o : Opn) : Ev cfg 47 [encOpn o] (.ret (.d (.bool (decide (May o))))) := by
  refine ev_of rfl rfl body47 ?_
  show Wp cfg (Tryd.f47.body.getD .skip) ((.d (encOpn o)) :: (.tup []) :: (.tup []) :: (.tup []) :: (.tup []) :: (.tup []) :: (.tup []) :: (.tup []) :: (.tup []) :: (.tup []) :: (.tup []) :: (.tup []) :: (.tup []) :: (.tup []) :: (.tup []) :: (.tup []) :: (.tup []) :: []) [] [] _
  conv => arg 2; whnf
  by_cases h1 : o.does ≥ 1
  · by_cases h2 : o.does ≤ 13
    · by_cases h3 : (o.data.length : Int) ≤ 1024
      · rw [show decide (May o) = true from decide_eq_true ⟨by omega, by omega, by omega⟩]
        simp (maxSteps := 1000000) (disch := first | assumption | omega | rfl) only [↓vmp, vme, vmb, ty, hP, dec_t, dec_f, wrap64, List.length_map, Int.toNat_natCast, Nat.reduceAdd, List.cons_append, List.nil_append, Option.map_some, Option.map_none, strOf_mk, sb_eql, sb_neq, vmg, ↓vgd, ↓vst, ↓vix, encB]
        exact retQ_one rfl rfl rfl
      · rw [show decide (May o) = false from decide_eq_false (fun h : May o => by have := h.2.2; omega)]
        simp (maxSteps := 1000000) (disch := first | assumption | omega | rfl) only [↓vmp, vme, vmb, ty, hP, dec_t, dec_f, wrap64, List.length_map, Int.toNat_natCast, Nat.reduceAdd, List.cons_append, List.nil_append, Option.map_some, Option.map_none, strOf_mk, sb_eql, sb_neq, vmg, ↓vgd, ↓vst, ↓vix, encB]
        exact retQ_one rfl rfl rfl
    · rw [show decide (May o) = false from decide_eq_false (fun h : May o => by have := h.2.1; omega)]
      simp (maxSteps := 1000000) (disch := first | assumption | omega | rfl) only [↓vmp, vme, vmb, ty, hP, dec_t, dec_f, wrap64, List.length_map, Int.toNat_natCast, Nat.reduceAdd, List.cons_append, List.nil_append, Option.map_some, Option.map_none, strOf_mk, sb_eql, sb_neq, vmg, ↓vgd, ↓vst, ↓vix, encB]
      exact retQ_one rfl rfl rfl
  · rw [show decide (May o) = false from decide_eq_false (fun h : May o => by have := h.1; omega)]
    simp (maxSteps := 1000000) (disch := first | assumption | omega | rfl) only [↓vmp, vme, vmb, ty, hP, dec_t, dec_f, wrap64, List.length_map, Int.toNat_natCast, Nat.reduceAdd, List.cons_append, List.nil_append, Option.map_some, Option.map_none, strOf_mk, sb_eql, sb_neq, vmg, ↓vgd, ↓vst, ↓vix, encB]
    exact retQ_one rfl rfl rfl
def pathsO (o : Opn) : List (List UInt8) := if o.does = 13 then [] else if o.does = 3 ∨ o.does = 6 then [o.a, o.b] else [o.a]
theorem paths_ok (o : Opn) : Ev cfg 54 [encOpn o] (.ret (.d (.sl ((pathsO o).map .str)))) := by
  refine ev_of rfl rfl body54 ?_
  show Wp cfg (Tryd.f54.body.getD .skip) ((.d (encOpn o)) :: (.tup []) :: (.tup []) :: (.tup []) :: (.tup []) :: (.tup []) :: (.tup []) :: (.tup []) :: (.tup []) :: (.tup []) :: (.tup []) :: (.tup []) :: (.tup []) :: (.tup []) :: (.tup []) :: (.tup []) :: (.tup []) :: (.tup []) :: []) [] [] _
  conv => arg 2; whnf
  unfold pathsO
  by_cases h1 : o.does = 13
  · rw [if_pos h1]
    simp (maxSteps := 1000000) (disch := first | assumption | omega | rfl) only [↓vmp, vme, vmb, ty, hP, dec_t, dec_f, wrap64, List.length_map, Int.toNat_natCast, Nat.reduceAdd, List.cons_append, List.nil_append, Option.map_some, Option.map_none, strOf_mk, sb_eql, sb_neq, vmg, ↓vgd, ↓vst, ↓vix, dec_True]
    exact retQ_one rfl rfl rfl
  · rw [if_neg h1]
    by_cases h2 : o.does = 3
    · rw [if_pos (.inl h2)]
      simp (maxSteps := 1000000) (disch := first | assumption | omega | rfl) only [↓vmp, vme, vmb, ty, hP, dec_t, dec_f, wrap64, List.length_map, Int.toNat_natCast, Nat.reduceAdd, List.cons_append, List.nil_append, Option.map_some, Option.map_none, strOf_mk, sb_eql, sb_neq, vmg, ↓vgd, ↓vst, ↓vix, ↓vbs, op_bs2, bs2_56, dec_True]
      exact retQ_one rfl rfl rfl
    · by_cases h3 : o.does = 6
      · rw [if_pos (.inr h3)]
        simp (maxSteps := 1000000) (disch := first | assumption | omega | rfl) only [↓vmp, vme, vmb, ty, hP, dec_t, dec_f, wrap64, List.length_map, Int.toNat_natCast, Nat.reduceAdd, List.cons_append, List.nil_append, Option.map_some, Option.map_none, strOf_mk, sb_eql, sb_neq, vmg, ↓vgd, ↓vst, ↓vix, ↓vbs, op_bs2, bs2_56, dec_True]
        exact retQ_one rfl rfl rfl
      · rw [if_neg (fun h => h.elim h2 h3)]
        simp (maxSteps := 1000000) (disch := first | assumption | omega | rfl) only [↓vmp, vme, vmb, ty, hP, dec_t, dec_f, wrap64, List.length_map, Int.toNat_natCast, Nat.reduceAdd, List.cons_append, List.nil_append, Option.map_some, Option.map_none, strOf_mk, sb_eql, sb_neq, vmg, ↓vgd, ↓vst, ↓vix, ↓vbs, bs56]
        exact retQ_one rfl rfl rfl
end Go.Proofs.YteapjcgeckpknaaDoor
end
/-! script.call comes to the words of a call, or says that it has none. -/
section
set_option linter.unusedVariables false
set_option linter.unusedSimpArgs false
set_option maxRecDepth 100000
set_option maxHeartbeats 4000000
namespace Go.Proofs.YteapjcgeckpknaaDoor
open Go.Vm
/-- Words, as a literal or from their row's begin on. -/
def SlS (S : Store) (v : V) (xs : List (List UInt8)) : Prop := v = .ts (xs.map .str) ∨ ∃ id ys, v = .rs id 0 xs.length ∧ S[id]? = some (.row ((xs ++ ys).map fun a => .d (.str a)) 9)
theorem SlS.one {S : Store} {v : V} {xs : List (List UInt8)} (h : SlS S v xs) : v.one = true := by
  rcases h with rfl | ⟨id, ys, rfl, _⟩ <;> rfl
theorem SlS.frz {S : Store} {v : V} {xs : List (List UInt8)} (h : SlS S v xs) {n : Nat} : Go.Vm.frz S (n + 2) v = some (.sl (xs.map .str)) := by
  rcases h with rfl | h
  · rfl
  · exact SlE.frz (e := 9) (.inr h)
theorem nil9 : (sz Tryd.prog 9).isSome = true := by kernel_rfl
theorem app_S {S : Store} {v : V} {l : List (List UInt8)} (ds : List (List UInt8)) (hl : l.length + ds.length ≤ 100000) (h : SlS S v l) : ∃ v' S' c, appendV Tryd.prog S 56 56 v (.ts (ds.map .str)) = some (v', S', c) ∧ (c = 1 ∨ c = 2 ∨ c = 3) ∧ SlS S' v' (l ++ ds) ∧ (∀ (j : Nat) (o : Ob), S[j]? = some o → idOf v ≠ some j → S'[j]? = some o) ∧ (∀ i, idOf v' = some i → idOf v = some i ∨ S.length ≤ i) := by
  rcases h with rfl | h
  · have hall : ((ds.map D.str).map V.d).all (fitsT Tryd.prog 9) = true := by
      rw [List.all_eq_true]
      intro y hy
      obtain ⟨z, hz, rfl⟩ := List.mem_map.1 hy
      obtain ⟨a, _, rfl⟩ := List.mem_map.1 hz
      exact fitsT9 a
    have src : srcV Tryd.prog S 9 56 (.ts (ds.map .str)) = some ((ds.map D.str).map V.d) := by
      simp only [srcV, Tryd.underlying56, elemsV, hall, nil9, Bool.and_self, if_true]
    cases ds with
    | nil =>
      have src0 : srcV Tryd.prog S 9 56 (.ts []) = some [] := src
      exact ⟨.ts (l.map .str), S, 1, by simp only [appendV, Tryd.underlying56, List.map_nil, src0], .inl rfl, by rw [List.append_nil]; exact .inl rfl, fun _ _ h _ => h, fun i hi => by cases hi⟩
    | cons a r =>
      have src1 : srcV Tryd.prog S 9 56 (.ts (D.str a :: r.map .str)) = some (.d (.str a) :: (r.map D.str).map .d) := src
      have hl2 : ((r.map D.str).map V.d).length = r.length := by simp
      have hr : room Tryd.prog 9 ((l.map D.str).length + (r.length + 1)) = true := room56 (by simp at hl ⊢; omega)
      have hx : (l.map D.str).all (fitsD Tryd.prog 9) = true := by
        rw [List.all_eq_true]
        intro y hy
        obtain ⟨z, hz, rfl⟩ := List.mem_map.1 hy
        exact fits9 z
      refine ⟨.rs S.length 0 ((l.map D.str).length + (r.length + 1)), S ++ [.row ((l.map D.str).map .d ++ .d (.str a) :: (r.map D.str).map .d) 9], 2, ?_, .inr (.inl rfl), .inr ⟨S.length, [], by simp, by simp [Function.comp_def]⟩, fun j o hj _ => Keep.app _ _ hj, fun i hi => by cases hi; exact .inr (Nat.le_refl _)⟩
      show appendV Tryd.prog S 56 56 _ (.ts (D.str a :: r.map .str)) = _
      simp only [appendV, Tryd.underlying56, src1, zOk56, if_true, hx, hl2, hr, Bool.and_self]
  · obtain ⟨v', S', c, h1, h2, h3, h4, h5⟩ := app_data (t := 56) (enc := D.str) (ds := ds) Tryd.underlying56 zOk56 nil9 fitsT9 (room56 (by omega)) (.inr h)
    exact ⟨v', S', c, by rw [app_ts]; exact h1, h2, h3.elim (fun ⟨a, b⟩ => .inl (by rw [a, b]; rfl)) .inr, h4, h5⟩
structure OpB (o : Opn) : Prop where
  off : InB o.off
  n : InB o.n
  a : o.a.length ≤ 100000
  b : o.b.length ≤ 100000
def restO (o : Opn) : List (List UInt8) := if o.does = 7 then [Lib.itoa o.off, hexS o.data] else if o.does = 8 then [Lib.itoa o.off, Lib.itoa o.n] else if o.does = 9 then [Lib.itoa o.n] else []
def wordsO (o : Opn) : List (List UInt8) := nameO o.does :: pathsO o ++ restO o
/-- A call's line. -/
def callS (o : Opn) : Option (List UInt8) := if May o ∧ (pathsO o).all pathB = true then some (Lib.join (wordsO o) [32]) else Option.none
section
variable {ops : Array Oper} {dst : Option Tmp} {k : List Oper} {T : List V} {S : Store} {F : Dfs} {Q : Post}
theorem call_path {s : List UInt8} (h : s.length ≤ 100000) : WpR cfg ops dst k T S F Q (some (.enter 55 [.d (.str s)])) = WpL cfg ops k (putT T dst (.d (.bool (pathB s)))) S F Q :=
  wr_call_d (ds := [.str s]) rfl (path_ok s (by omega))
theorem call_paths {o : Opn} : WpR cfg ops dst k T S F Q (some (.enter 54 [.d (encOpn o)])) = WpL cfg ops k (putT T dst (.d (.sl ((pathsO o).map .str)))) S F Q :=
  wr_call_d (ds := [encOpn o]) rfl (paths_ok o)
theorem call_check {o : Opn} : WpR cfg ops dst k T S F Q (some (.enter 52 [.d (encOpn o)])) = WpL cfg ops k (putT T dst (.d (.int .i64 (if May o then 0 else 1)))) S F Q :=
  wr_call_d (ds := [encOpn o]) rfl (check_ok o)
theorem call_whole {n : Int} (h : InB n) : WpR cfg ops dst k T S F Q (some (.enter 33 [.d (.int .i64 n)])) = WpL cfg ops k (putT T dst (.d (.str (Lib.itoa n)))) S F Q :=
  wr_call_d (ds := [.int .i64 n]) rfl (whole_ok n h)
theorem call_line {v : V} {l : List (List UInt8)} (hv : Go.Vm.frz S frzFuel v = some (.sl (l.map .str))) (h1 : l.length ≤ 1000) (h2 : (Lib.join l [32]).length ≤ 100000000) : WpR cfg ops dst k T S F Q (some (.enter 31 [v])) = WpL cfg ops k (putT T dst (.d (.str (Lib.join l [32])))) S F Q :=
  wr_call_plain (ds := [.sl (l.map .str)]) rfl (by simp only [allO, hv]) rfl (line_ok l (by omega) (by omega))
end
section
variable {ops : Array Oper} {F : Dfs} {Q : Post} {K : List Nat → List (Nat × Nat) → List V → Store → Prop} {rd : List Nat} {cs : List (Nat × Nat)} {i : Nat} {dst : Option Tmp} {T : List V} {S : Store}
theorem dr_whole {n : Int} (h : InB n) : WpE cfg ops F Q K rd cs i dst T S (some (.enter 33 [.d (.int .i64 n)])) = K (i :: rd) (cs ++ [(i, 1)]) (putT T dst (.d (.str (Lib.itoa n)))) S :=
  we_call_d (ds := [.int .i64 n]) rfl (whole_ok n h)
theorem dr_hex {b : List UInt8} (h : b.length ≤ 400000) : WpE cfg ops F Q K rd cs i dst T S (some (.enter 56 [.d (.sl (b.map fun x => D.int .u8 x.toNat))])) = K (i :: rd) (cs ++ [(i, 1)]) (putT T dst (.d (.str (hexS b)))) S :=
  we_call_d (ds := [.sl (b.map fun x => D.int .u8 x.toNat)]) rfl (hex_ok b h)
end
theorem tail_len2 {B : Nat} {sep : List UInt8} : ∀ {l : List (List UInt8)}, (∀ s ∈ l, s.length ≤ B) → (Lib.joinTail sep l).length ≤ l.length * (B + sep.length)
  | [], _ => Nat.zero_le _
  | s :: r, h => by
    have e : Lib.joinTail sep (s :: r) = sep ++ s ++ Lib.joinTail sep r := by simp [Lib.joinTail]
    have h1 := h s (by simp)
    have h2 := tail_len2 (l := r) (B := B) (sep := sep) fun x hx => h x (by simp [hx])
    have e2 : (s :: r).length * (B + sep.length) = r.length * (B + sep.length) + (B + sep.length) := by rw [List.length_cons, Nat.succ_mul]
    rw [e, e2, List.length_append, List.length_append]
    omega
theorem join_len2 {B : Nat} {sep : List UInt8} : ∀ {l : List (List UInt8)}, (∀ s ∈ l, s.length ≤ B) → (Lib.join l sep).length ≤ l.length * (B + sep.length)
  | [], _ => Nat.zero_le _
  | s :: r, h => by
    have h1 := h s (by simp)
    have h2 := tail_len2 (l := r) (B := B) (sep := sep) fun x hx => h x (by simp [hx])
    have e2 : (s :: r).length * (B + sep.length) = r.length * (B + sep.length) + (B + sep.length) := by rw [List.length_cons, Nat.succ_mul]
    rw [e2, Lib.join_cons, List.length_append]
    omega
theorem hexS_len (b : List UInt8) : (hexS b).length ≤ 2 * b.length + 1 := by
  have := hexL_len b
  unfold hexS
  split
  · simp
  · omega
theorem paths_len (o : Opn) : (pathsO o).length ≤ 2 := by unfold pathsO; split; · simp
                                                          split <;> simp
theorem paths_B {o : Opn} (h : OpB o) : ∀ s ∈ pathsO o, s.length ≤ 100000 := by
  intro s hs
  have h1 := h.a
  have h2 := h.b
  unfold pathsO at hs
  split at hs
  · cases hs
  split at hs
  · simp at hs; rcases hs with rfl | rfl <;> omega
  · simp at hs; subst hs; omega
theorem words_B {o : Opn} (h : OpB o) (hm : May o) : (wordsO o).length ≤ 5 ∧ ∀ s ∈ wordsO o, s.length ≤ 100000 := by
  have h1 := itoa_len _ h.off
  have h2 := itoa_len _ h.n
  have h3 := hexS_len o.data
  have h4 := hm.2.2
  have h5 := nameO_len o.does
  have h6 := paths_len o
  have h7 := paths_B h
  have h8 : (restO o).length ≤ 2 ∧ ∀ s ∈ restO o, s.length ≤ 100000 := by
    unfold restO
    split
    · exact ⟨by simp, fun s hs => by simp at hs; rcases hs with rfl | rfl <;> omega⟩
    split
    · exact ⟨by simp, fun s hs => by simp at hs; rcases hs with rfl | rfl <;> omega⟩
    split
    · exact ⟨by simp, fun s hs => by simp at hs; subst hs; omega⟩
    · exact ⟨by simp, fun s hs => by cases hs⟩
  unfold wordsO
  refine ⟨by simp; omega, fun s hs => ?_⟩
  rcases List.mem_append.1 hs with hs | hs
  · rcases List.mem_cons.1 hs with rfl | hs
    · omega
    · exact h7 s hs
  · exact h8.2 s hs
theorem words_join {o : Opn} (h : OpB o) (hm : May o) : (Lib.join (wordsO o) [32]).length ≤ 600000 := by
  obtain ⟨h1, h2⟩ := words_B h hm
  have h3 : (Lib.join (wordsO o) [32]).length ≤ (wordsO o).length * (100000 + 1) := join_len2 (sep := [32]) h2
  omega
end Go.Proofs.YteapjcgeckpknaaDoor
end
/-! script.call: its walk. -/
section
set_option linter.unusedVariables false
set_option linter.unusedSimpArgs false
set_option maxRecDepth 100000
set_option maxHeartbeats 4000000
namespace Go.Proofs.YteapjcgeckpknaaDoor
open Go.Vm
def callO (o : Opn) : Out := match callS o with
  | some l => .ret (.tup [.d (.str l), .d (.int .i64 0)])
  | Option.none => .ret (.tup [.d (.str []), .d (.int .i64 1)])
theorem take_snoc {α : Type} {l : List α} {i : Nat} (h : i < l.length) : l.take (i + 1) = l.take i ++ [l[i]] := by
  rw [List.take_add_one, List.getElem?_eq_getElem h]
  rfl
/-- What stands in the store while words are gathered. -/
def CInv (o : Opn) (ws : List (List UInt8)) (v : V) (S : Store) : Prop := S[0]? = some (.row [.d (encOpn o)] 25) ∧ SlS S v ws ∧ (∀ j, idOf v = some j → 1 ≤ j)
theorem CInv.r0 {o : Opn} {ws : List (List UInt8)} {v : V} {S : Store} (h : CInv o ws v S) : rowE S 0 0 = some (.d (encOpn o)) := by
  unfold rowE
  rw [h.1]
  rfl
theorem CInv.app {o : Opn} {ws : List (List UInt8)} {v : V} {S : Store} (ds : List (List UInt8)) (hl : ws.length + ds.length ≤ 100000) (h : CInv o ws v S) : ∃ v' S' c, appendV Tryd.prog S 56 56 v (.ts (ds.map .str)) = some (v', S', c) ∧ (c = 1 ∨ c = 2 ∨ c = 3) ∧ CInv o (ws ++ ds) v' S' := by
  obtain ⟨h0, h1, h2⟩ := h
  obtain ⟨v', S', c, e1, e2, e3, e4, e5⟩ := app_S ds hl h1
  refine ⟨v', S', c, e1, e2, e4 0 _ h0 (fun hh => by have := h2 0 hh; omega), e3, fun j hj => ?_⟩
  rcases e5 j hj with h | h
  · exact h2 j h
  · have := getLen h0
    omega
theorem callp_l (o : Opn) (nm : List UInt8) (ps : List (List UInt8)) (hps : ps.length ≤ 2) (hB : ∀ s ∈ ps, s.length ≤ 100000) (R : Post) (x0 x2 x3 : V) : ∀ (k i : Nat) (v : V) (S : Store) (g5 g6 g7 g8 g9 g10 g11 g12 g13 g14 g18 g19 g20 g21 g22 g23 g24 g25 g26 g27 g28 g29 g30 g31 g32 g33 g34 g35 g36 g37 g38 g39 g40 g41 g42 g43 g44 g45 g46 g47 g48 g49 g50 g51 g52 g53 g54 g55 g56 g57 g58 g59 g60 g61 g62 : V), ps.length - i = k → i ≤ ps.length → CInv o (nm :: ps.take i) v S →
   ((ps.drop i).all pathB = true → ∀ S v i' g5 g6 g7 g8 g9 g10 g11 g12 g13 g14 g18 g19 g20 g21 g22 g23 g24 g25 g26 g27 g28 g29 g30 g31 g32 g33 g34 g35 g36 g37 g38 g39 g40 g41 g42 g43 g44 g45 g46 g47 g48 g49 g50 g51 g52 g53 g54 g55 g56 g57 g58 g59 g60 g61 g62, CInv o (nm :: ps) v S → R (.exit 0) (x0 :: (.ref 0 0 0) :: x2 :: x3 :: v :: g5 :: g6 :: g7 :: g8 :: g9 :: g10 :: g11 :: g12 :: g13 :: g14 :: (.d (.sl (ps.map .str))) :: (.d (.int .i64 ps.length)) :: i' :: g18 :: g19 :: g20 :: g21 :: g22 :: g23 :: g24 :: g25 :: g26 :: g27 :: g28 :: g29 :: g30 :: g31 :: g32 :: g33 :: g34 :: g35 :: g36 :: g37 :: g38 :: g39 :: g40 :: g41 :: g42 :: g43 :: g44 :: g45 :: g46 :: g47 :: g48 :: g49 :: g50 :: g51 :: g52 :: g53 :: g54 :: g55 :: g56 :: g57 :: g58 :: g59 :: g60 :: g61 :: g62 :: []) S []) →
   ((ps.drop i).all pathB = false → ∀ S v i' g5 g6 g7 g8 g9 g10 g11 g12 g13 g14 g18 g19 g20 g21 g22 g23 g24 g25 g26 g27 g28 g29 g30 g31 g32 g33 g34 g35 g36 g37 g38 g39 g40 g41 g42 g43 g44 g45 g46 g47 g48 g49 g50 g51 g52 g53 g54 g55 g56 g57 g58 g59 g60 g61 g62, R .ret (x0 :: (.ref 0 0 0) :: (.d (.str [])) :: (.d (.int .i64 1)) :: v :: g5 :: g6 :: g7 :: g8 :: g9 :: g10 :: g11 :: g12 :: g13 :: g14 :: (.d (.sl (ps.map .str))) :: (.d (.int .i64 ps.length)) :: i' :: g18 :: g19 :: g20 :: g21 :: g22 :: g23 :: g24 :: g25 :: g26 :: g27 :: g28 :: g29 :: g30 :: g31 :: g32 :: g33 :: g34 :: g35 :: g36 :: g37 :: g38 :: g39 :: g40 :: g41 :: g42 :: g43 :: g44 :: g45 :: g46 :: g47 :: g48 :: g49 :: g50 :: g51 :: g52 :: g53 :: g54 :: g55 :: g56 :: g57 :: g58 :: g59 :: g60 :: g61 :: g62 :: []) S []) →
   Wp cfg (.loop (lpOf (Tryd.f30.body.getD .skip) 0)) (x0 :: (.ref 0 0 0) :: x2 :: x3 :: v :: g5 :: g6 :: g7 :: g8 :: g9 :: g10 :: g11 :: g12 :: g13 :: g14 :: (.d (.sl (ps.map .str))) :: (.d (.int .i64 ps.length)) :: (.d (.int .i64 (i : Int))) :: g18 :: g19 :: g20 :: g21 :: g22 :: g23 :: g24 :: g25 :: g26 :: g27 :: g28 :: g29 :: g30 :: g31 :: g32 :: g33 :: g34 :: g35 :: g36 :: g37 :: g38 :: g39 :: g40 :: g41 :: g42 :: g43 :: g44 :: g45 :: g46 :: g47 :: g48 :: g49 :: g50 :: g51 :: g52 :: g53 :: g54 :: g55 :: g56 :: g57 :: g58 :: g59 :: g60 :: g61 :: g62 :: []) S [] R := by
  intro k
  induction k with
  | zero =>
    intro i v S g5 g6 g7 g8 g9 g10 g11 g12 g13 g14 g18 g19 g20 g21 g22 g23 g24 g25 g26 g27 g28 g29 g30 g31 g32 g33 g34 g35 g36 g37 g38 g39 g40 g41 g42 g43 g44 g45 g46 g47 g48 g49 g50 g51 g52 g53 g54 g55 g56 g57 g58 g59 g60 g61 g62 hk hi hI hE hR
    have hie : i = ps.length := by omega
    rw [hie, List.take_length] at hI
    rw [hie, List.drop_length] at hE
    rw [wk_of]
    refine wk_loop ?_
    conv => arg 2; whnf
    simp (maxSteps := 1000000) (disch := first | assumption | omega | rfl) only [↓vmp, vme, vmb, ty, hP, dec_t, dec_f, wrap64, List.length_map, Int.toNat_natCast, Nat.reduceAdd, List.cons_append, List.nil_append, Option.map_some, Option.map_none, strOf_mk, sb_eql, sb_neq, vmg, ↓vgd, ↓vst, ↓vix]
    exact hE rfl _ _ _ _ _ _ _ _ _ _ _ _ _ _ _ _ _ _ _ _ _ _ _ _ _ _ _ _ _ _ _ _ _ _ _ _ _ _ _ _ _ _ _ _ _ _ _ _ _ _ _ _ _ _ _ _ _ _ hI
  | succ k ih =>
    intro i v S g5 g6 g7 g8 g9 g10 g11 g12 g13 g14 g18 g19 g20 g21 g22 g23 g24 g25 g26 g27 g28 g29 g30 g31 g32 g33 g34 g35 g36 g37 g38 g39 g40 g41 g42 g43 g44 g45 g46 g47 g48 g49 g50 g51 g52 g53 g54 g55 g56 g57 g58 g59 g60 g61 g62 hk hi hI hE hR
    have hlt : i < ps.length := by omega
    have hix := fun S => ix56 (S := S) hlt
    have hb := hB _ (List.getElem_mem hlt)
    rw [List.drop_eq_getElem_cons hlt, List.all_cons] at hE hR
    rw [wk_of]
    refine wk_loop ?_
    conv => arg 2; whnf
    cases hp : pathB ps[i] with
    | false =>
      rw [hp] at hR
      simp (maxSteps := 1000000) (disch := first | assumption | omega | rfl) only [↓vmp, vme, vmb, ty, hP, dec_t, dec_f, wrap64, List.length_map, Int.toNat_natCast, Nat.reduceAdd, List.cons_append, List.nil_append, Option.map_some, Option.map_none, strOf_mk, sb_eql, sb_neq, vmg, ↓vgd, ↓vst, ↓vix, hix, call_path hb, hp, bo55]
      exact hR rfl _ _ _ _ _ _ _ _ _ _ _ _ _ _ _ _ _ _ _ _ _ _ _ _ _ _ _ _ _ _ _ _ _ _ _ _ _ _ _ _ _ _ _ _ _ _ _ _ _ _ _ _ _ _ _ _ _ _
    | true =>
      rw [hp, Bool.true_and] at hE hR
      obtain ⟨v', S', c, e1, hc, e2⟩ := hI.app [ps[i]] (by simp; omega)
      have e1 : appendV Tryd.prog S 56 56 v (.ts [.str ps[i]]) = some (v', S', c) := e1
      have e3 := e2.2.1.one
      rw [List.cons_append, ← take_snoc hlt] at e2
      simp (maxSteps := 1000000) (disch := first | assumption | omega | rfl) only [↓vmp, vme, vmb, ty, hP, dec_t, dec_f, wrap64, List.length_map, Int.toNat_natCast, Nat.reduceAdd, List.cons_append, List.nil_append, Option.map_some, Option.map_none, strOf_mk, sb_eql, sb_neq, vmg, ↓vgd, ↓vst, ↓vix, ↓vbs, hix, call_path hb, hp, bo55, bs56, e1, e3]
      exact ih (i + 1) _ _ _ _ _ _ _ _ _ _ _ _ _ _ _ _ _ _ _ _ _ _ _ _ _ _ _ _ _ _ _ _ _ _ _ _ _ _ _ _ _ _ _ _ _ _ _ _ _ _ _ _ _ _ _ _ _ (by omega) (by omega) e2 hE hR
theorem call_ok (o : Opn) (h : OpB o) : Ev cfg 30 [encOpn o] (callO o) := by
  refine ev_of rfl rfl body30 ?_
  show Wp cfg (Tryd.f30.body.getD .skip) ((.d (encOpn o)) :: (.tup []) :: (.tup []) :: (.tup []) :: (.tup []) :: (.tup []) :: (.tup []) :: (.tup []) :: (.tup []) :: (.tup []) :: (.tup []) :: (.tup []) :: (.tup []) :: (.tup []) :: (.tup []) :: (.tup []) :: (.tup []) :: (.tup []) :: (.tup []) :: (.tup []) :: (.tup []) :: (.tup []) :: (.tup []) :: (.tup []) :: (.tup []) :: (.tup []) :: (.tup []) :: (.tup []) :: (.tup []) :: (.tup []) :: (.tup []) :: (.tup []) :: (.tup []) :: (.tup []) :: (.tup []) :: (.tup []) :: (.tup []) :: (.tup []) :: (.tup []) :: (.tup []) :: (.tup []) :: (.tup []) :: (.tup []) :: (.tup []) :: (.tup []) :: (.tup []) :: (.tup []) :: (.tup []) :: (.tup []) :: (.tup []) :: (.tup []) :: (.tup []) :: (.tup []) :: (.tup []) :: (.tup []) :: (.tup []) :: (.tup []) :: (.tup []) :: (.tup []) :: (.tup []) :: (.tup []) :: (.tup []) :: (.tup []) :: []) [] [] _
  conv => arg 2; whnf
  by_cases hm : May o
  · have hz : (if May o then (0 : Int) else 1) = 0 := if_pos hm
    have hlen := paths_len o
    have hpB := paths_B h
    have hjn := words_join h hm
    have hwl := (words_B h hm).1
    simp (maxSteps := 1000000) (disch := first | assumption | omega | rfl) only [↓vmp, vme, vmb, ty, hP, dec_t, dec_f, wrap64, List.length_map, Int.toNat_natCast, Nat.reduceAdd, List.cons_append, List.nil_append, Option.map_some, Option.map_none, strOf_mk, sb_eql, sb_neq, vmg, ↓vgd, ↓vst, ↓vix, ↓vbs, call_check, hz, bo52, call_name, bo53, bs56, call_paths, bo54]
    refine callp_l o (nameO o.does) (pathsO o) hlen hpB _ _ _ _ (pathsO o).length 0 _ _ _ _ _ _ _ _ _ _ _ _ _ _ _ _ _ _ _ _ _ _ _ _ _ _ _ _ _ _ _ _ _ _ _ _ _ _ _ _ _ _ _ _ _ _ _ _ _ _ _ _ _ _ _ _ _ rfl (Nat.zero_le _) ⟨rfl, .inl rfl, fun j hj => by cases hj⟩ ?_ ?_
    · intro hall S v i' g5 g6 g7 g8 g9 g10 g11 g12 g13 g14 g18 g19 g20 g21 g22 g23 g24 g25 g26 g27 g28 g29 g30 g31 g32 g33 g34 g35 g36 g37 g38 g39 g40 g41 g42 g43 g44 g45 g46 g47 g48 g49 g50 g51 g52 g53 g54 g55 g56 g57 g58 g59 g60 g61 g62 hI
      rw [List.drop_zero] at hall
      have hc : callO o = .ret (.tup [.d (.str (Lib.join (wordsO o) [32])), .d (.int .i64 0)]) := by
        unfold callO callS
        rw [if_pos ⟨hm, hall⟩]
      rw [hc]
      have r0 := hI.r0
      have hd := hm.2.2
      by_cases h7 : o.does = 7
      · obtain ⟨v', S', c, e1, hcc, e2⟩ := hI.app [Lib.itoa o.off, hexS o.data] (by simp; omega)
        have ew : nameO o.does :: pathsO o ++ [Lib.itoa o.off, hexS o.data] = wordsO o := by unfold wordsO restO; rw [if_pos h7]
        rw [ew] at e2
        have e1 : appendV Tryd.prog S 56 56 v (.ts [.str (Lib.itoa o.off), .str (hexS o.data)]) = some (v', S', c) := e1
        have e3 := e2.2.1.one
        have hcl : ∀ {ops : Array Oper} {dst : Option Tmp} {k : List Oper} {T : List V} {F : Dfs} {Q : Post}, WpR cfg ops dst k T S' F Q (some (.enter 31 [v'])) = WpL cfg ops k (putT T dst (.d (.str (Lib.join (wordsO o) [32])))) S' F Q := fun {ops dst k T F Q} => call_line e2.2.1.frz (by omega) (by omega)
        simp (maxSteps := 1000000) (disch := first | assumption | omega | rfl) only [↓vmp, vme, vmb, ty, hP, dec_t, dec_f, wrap64, List.length_map, Int.toNat_natCast, Nat.reduceAdd, List.cons_append, List.nil_append, Option.map_some, Option.map_none, strOf_mk, sb_eql, sb_neq, vmg, ↓vgd, ↓vst, ↓vix, r0, dec_True]
        rcases hcc with rfl | rfl | rfl
        all_goals
          refine wk_draw (is := [0, 1, 2, 4, 5, 3, 6, 7, 8, 9]) (h := 0) (by kernel_rfl) (by kernel_rfl) ?_
          simp (maxSteps := 1000000) (disch := first | assumption | omega | rfl) only [List.replicate_zero, eq_self, vmd, vmk, vmo, vmg, vme, vmb, ty, hP, dec_t, dec_f, wrap64, List.length_map, Int.toNat_natCast, Nat.reduceAdd, ↓vgd, ↓vst, ↓vix, vso, List.append_nil, Option.map_some, r0, encB, dr_whole h.off, bo33, dr_hex (b := o.data) (by omega), bo56, op_bs2, bs2_56, e1]
          first | refine ⟨by kernel_rfl, ?_⟩ | refine ⟨fun _ => by kernel_rfl, by kernel_rfl, ?_⟩
          simp (maxSteps := 1000000) (disch := first | assumption | omega | rfl) only [↓vmp, vme, vmb, ty, hP, dec_t, dec_f, wrap64, List.length_map, Int.toNat_natCast, Nat.reduceAdd, List.cons_append, List.nil_append, Option.map_some, Option.map_none, strOf_mk, sb_eql, sb_neq, vmg, ↓vgd, ↓vst, ↓vix, hcl, bo31, e3]
          exact retQ_two rfl rfl rfl rfl rfl rfl
      by_cases h8 : o.does = 8
      · obtain ⟨v', S', c, e1, hcc, e2⟩ := hI.app [Lib.itoa o.off, Lib.itoa o.n] (by simp; omega)
        have ew : nameO o.does :: pathsO o ++ [Lib.itoa o.off, Lib.itoa o.n] = wordsO o := by unfold wordsO restO; rw [if_neg h7, if_pos h8]
        rw [ew] at e2
        have e1 : appendV Tryd.prog S 56 56 v (.ts [.str (Lib.itoa o.off), .str (Lib.itoa o.n)]) = some (v', S', c) := e1
        have e3 := e2.2.1.one
        have hcl : ∀ {ops : Array Oper} {dst : Option Tmp} {k : List Oper} {T : List V} {F : Dfs} {Q : Post}, WpR cfg ops dst k T S' F Q (some (.enter 31 [v'])) = WpL cfg ops k (putT T dst (.d (.str (Lib.join (wordsO o) [32])))) S' F Q := fun {ops dst k T F Q} => call_line e2.2.1.frz (by omega) (by omega)
        simp (maxSteps := 1000000) (disch := first | assumption | omega | rfl) only [↓vmp, vme, vmb, ty, hP, dec_t, dec_f, wrap64, List.length_map, Int.toNat_natCast, Nat.reduceAdd, List.cons_append, List.nil_append, Option.map_some, Option.map_none, strOf_mk, sb_eql, sb_neq, vmg, ↓vgd, ↓vst, ↓vix, r0, dec_True]
        rcases hcc with rfl | rfl | rfl
        all_goals
          refine wk_draw (is := [0, 1, 2, 4, 5, 3, 6, 7, 8, 9]) (h := 0) (by kernel_rfl) (by kernel_rfl) ?_
          simp (maxSteps := 1000000) (disch := first | assumption | omega | rfl) only [List.replicate_zero, eq_self, vmd, vmk, vmo, vmg, vme, vmb, ty, hP, dec_t, dec_f, wrap64, List.length_map, Int.toNat_natCast, Nat.reduceAdd, ↓vgd, ↓vst, ↓vix, vso, List.append_nil, Option.map_some, r0, dr_whole h.off, dr_whole h.n, bo33, op_bs2, bs2_56, e1]
          first | refine ⟨by kernel_rfl, ?_⟩ | refine ⟨fun _ => by kernel_rfl, by kernel_rfl, ?_⟩
          simp (maxSteps := 1000000) (disch := first | assumption | omega | rfl) only [↓vmp, vme, vmb, ty, hP, dec_t, dec_f, wrap64, List.length_map, Int.toNat_natCast, Nat.reduceAdd, List.cons_append, List.nil_append, Option.map_some, Option.map_none, strOf_mk, sb_eql, sb_neq, vmg, ↓vgd, ↓vst, ↓vix, hcl, bo31, e3]
          exact retQ_two rfl rfl rfl rfl rfl rfl
      by_cases h9 : o.does = 9
      · obtain ⟨v', S', c, e1, hcc, e2⟩ := hI.app [Lib.itoa o.n] (by simp; omega)
        have ew : nameO o.does :: pathsO o ++ [Lib.itoa o.n] = wordsO o := by unfold wordsO restO; rw [if_neg h7, if_neg h8, if_pos h9]
        rw [ew] at e2
        have e1 : appendV Tryd.prog S 56 56 v (.ts [.str (Lib.itoa o.n)]) = some (v', S', c) := e1
        have e3 := e2.2.1.one
        have hcl : ∀ {ops : Array Oper} {dst : Option Tmp} {k : List Oper} {T : List V} {F : Dfs} {Q : Post}, WpR cfg ops dst k T S' F Q (some (.enter 31 [v'])) = WpL cfg ops k (putT T dst (.d (.str (Lib.join (wordsO o) [32])))) S' F Q := fun {ops dst k T F Q} => call_line e2.2.1.frz (by omega) (by omega)
        simp (maxSteps := 1000000) (disch := first | assumption | omega | rfl) only [↓vmp, vme, vmb, ty, hP, dec_t, dec_f, wrap64, List.length_map, Int.toNat_natCast, Nat.reduceAdd, List.cons_append, List.nil_append, Option.map_some, Option.map_none, strOf_mk, sb_eql, sb_neq, vmg, ↓vgd, ↓vst, ↓vix, ↓vbs, r0, dec_True, call_whole h.n, bo33, bs56, e1, hcl, bo31, e3]
        exact retQ_two rfl rfl rfl rfl rfl rfl
      · have ew : nameO o.does :: pathsO o = wordsO o := by unfold wordsO restO; rw [if_neg h7, if_neg h8, if_neg h9, List.append_nil]
        rw [ew] at hI
        have e3 := hI.2.1.one
        have hcl : ∀ {ops : Array Oper} {dst : Option Tmp} {k : List Oper} {T : List V} {F : Dfs} {Q : Post}, WpR cfg ops dst k T S F Q (some (.enter 31 [v])) = WpL cfg ops k (putT T dst (.d (.str (Lib.join (wordsO o) [32])))) S F Q := fun {ops dst k T F Q} => call_line hI.2.1.frz (by omega) (by omega)
        simp (maxSteps := 1000000) (disch := first | assumption | omega | rfl) only [↓vmp, vme, vmb, ty, hP, dec_t, dec_f, wrap64, List.length_map, Int.toNat_natCast, Nat.reduceAdd, List.cons_append, List.nil_append, Option.map_some, Option.map_none, strOf_mk, sb_eql, sb_neq, vmg, ↓vgd, ↓vst, ↓vix, r0, dec_True, hcl, bo31, e3]
        exact retQ_two rfl rfl rfl rfl rfl rfl
    · intro hall S v i' g5 g6 g7 g8 g9 g10 g11 g12 g13 g14 g18 g19 g20 g21 g22 g23 g24 g25 g26 g27 g28 g29 g30 g31 g32 g33 g34 g35 g36 g37 g38 g39 g40 g41 g42 g43 g44 g45 g46 g47 g48 g49 g50 g51 g52 g53 g54 g55 g56 g57 g58 g59 g60 g61 g62
      rw [List.drop_zero] at hall
      have hc : callO o = .ret (.tup [.d (.str []), .d (.int .i64 1)]) := by
        unfold callO callS
        rw [if_neg (fun hh => by rw [hall] at hh; exact absurd hh.2 (by decide))]
      rw [hc]
      simp (maxSteps := 1000000) (disch := first | assumption | omega | rfl) only [↓vmp, vme, vmb, ty, hP, dec_t, dec_f, wrap64, List.length_map, Int.toNat_natCast, Nat.reduceAdd, List.cons_append, List.nil_append, Option.map_some, Option.map_none, strOf_mk, sb_eql, sb_neq, vmg, ↓vgd, ↓vst, ↓vix]
      exact retQ_two rfl rfl rfl rfl rfl rfl
  · have hz : (if May o then (0 : Int) else 1) = 1 := if_neg hm
    have hc : callO o = .ret (.tup [.d (.str []), .d (.int .i64 1)]) := by
      unfold callO callS
      rw [if_neg (fun hh => hm hh.1)]
    rw [hc]
    simp (maxSteps := 1000000) (disch := first | assumption | omega | rfl) only [↓vmp, vme, vmb, ty, hP, dec_t, dec_f, wrap64, List.length_map, Int.toNat_natCast, Nat.reduceAdd, List.cons_append, List.nil_append, Option.map_some, Option.map_none, strOf_mk, sb_eql, sb_neq, vmg, ↓vgd, ↓vst, ↓vix, call_check, hz, bo52]
    exact retQ_two rfl rfl rfl rfl rfl rfl
end Go.Proofs.YteapjcgeckpknaaDoor
end
/-! The document's line of a call. -/
section
set_option linter.unusedVariables false
set_option linter.unusedSimpArgs false
set_option maxRecDepth 100000
set_option maxHeartbeats 4000000
namespace Go.Proofs.YteapjcgeckpknaaDoor
open Go.Vm
def rcallO (o : Opn) : Out := match callS o with
  | some l => .ret (.tup [.d (.str l), .d (.bool true)])
  | Option.none => .ret (.tup [.d (.str []), .d (.bool false)])
theorem ix_on {S : Store} {n : Int} (h1 : 1 ≤ n) (h2 : n ≤ 13) : indexAddrV Tryd.prog S 56 (.d (.sl (onL.map .str))) (.d (.int .i64 n)) = some (.d (.ptr (.str (nameO n)))) := by
  obtain ⟨k, rfl⟩ : ∃ k : Nat, n = k := ⟨n.toNat, by omega⟩
  have hk : k < onL.length := by show k < 14; omega
  rw [ix56 hk, nameO_nat (by omega), List.getD_eq_getElem?_getD, List.getElem?_eq_getElem hk]
  rfl
section
variable {ops : Array Oper} {F : Dfs} {Q : Post} {K : List Nat → List (Nat × Nat) → List V → Store → Prop} {rd : List Nat} {cs : List (Nat × Nat)} {i : Nat} {dst : Option Tmp} {T : List V} {S : Store}
theorem dr_names : WpE cfg ops F Q K rd cs i dst T S (some (.enter 48 [])) = K (i :: rd) (cs ++ [(i, 1)]) (putT T dst (.d (.sl (onL.map .str)))) S :=
  we_call_d (ds := []) rfl names_ok
theorem dr_num {n : Int} (h : InB n) : WpE cfg ops F Q K rd cs i dst T S (some (.enter 26 [.d (.int .i64 n)])) = K (i :: rd) (cs ++ [(i, 1)]) (putT T dst (.d (.str (Lib.itoa n)))) S :=
  we_call_d (ds := [.int .i64 n]) rfl (num_ok n h)
theorem dr_rhex {b : List UInt8} (h : b.length ≤ 400000) : WpE cfg ops F Q K rd cs i dst T S (some (.enter 50 [.d (.sl (b.map fun x => D.int .u8 x.toNat))])) = K (i :: rd) (cs ++ [(i, 1)]) (putT T dst (.d (.str (hexS b)))) S :=
  we_call_d (ds := [.sl (b.map fun x => D.int .u8 x.toNat)]) rfl (rhex_ok b h)
end
section
variable {ops : Array Oper} {dst : Option Tmp} {k : List Oper} {T : List V} {S : Store} {F : Dfs} {Q : Post}
theorem call_may {o : Opn} : WpR cfg ops dst k T S F Q (some (.enter 47 [.d (encOpn o)])) = WpL cfg ops k (putT T dst (.d (.bool (decide (May o))))) S F Q :=
  wr_call_d (ds := [encOpn o]) rfl (may_ok o)
theorem call_rpath {s : List UInt8} (h : s.length ≤ 100000) : WpR cfg ops dst k T S F Q (some (.enter 49 [.d (.str s)])) = WpL cfg ops k (putT T dst (.d (.bool (pathB s)))) S F Q :=
  wr_call_d (ds := [.str s]) rfl (rpath_ok s (by omega))
theorem call_num {n : Int} (h : InB n) : WpR cfg ops dst k T S F Q (some (.enter 26 [.d (.int .i64 n)])) = WpL cfg ops k (putT T dst (.d (.str (Lib.itoa n)))) S F Q :=
  wr_call_d (ds := [.int .i64 n]) rfl (num_ok n h)
end
theorem rcall_ok (o : Opn) (h : OpB o) : Ev cfg 24 [encOpn o] (rcallO o) := by
  have ha := h.a
  have hb := h.b
  have hN := nameO_len o.does
  have l1 := itoa_len _ h.off
  have l2 := itoa_len _ h.n
  have l3 := hexS_len o.data
  refine ev_of rfl rfl body24 ?_
  show Wp cfg (Tryd.f24.body.getD .skip) ((.d (encOpn o)) :: (.tup []) :: (.tup []) :: (.tup []) :: (.tup []) :: (.tup []) :: (.tup []) :: (.tup []) :: (.tup []) :: (.tup []) :: (.tup []) :: (.tup []) :: (.tup []) :: (.tup []) :: (.tup []) :: (.tup []) :: (.tup []) :: (.tup []) :: (.tup []) :: (.tup []) :: (.tup []) :: (.tup []) :: (.tup []) :: (.tup []) :: (.tup []) :: (.tup []) :: (.tup []) :: (.tup []) :: (.tup []) :: (.tup []) :: (.tup []) :: (.tup []) :: (.tup []) :: (.tup []) :: (.tup []) :: (.tup []) :: (.tup []) :: (.tup []) :: (.tup []) :: (.tup []) :: (.tup []) :: (.tup []) :: (.tup []) :: (.tup []) :: (.tup []) :: (.tup []) :: (.tup []) :: (.tup []) :: (.tup []) :: (.tup []) :: (.tup []) :: (.tup []) :: (.tup []) :: (.tup []) :: (.tup []) :: (.tup []) :: (.tup []) :: (.tup []) :: (.tup []) :: (.tup []) :: (.tup []) :: (.tup []) :: (.tup []) :: (.tup []) :: (.tup []) :: (.tup []) :: (.tup []) :: (.tup []) :: (.tup []) :: (.tup []) :: (.tup []) :: (.tup []) :: (.tup []) :: (.tup []) :: (.tup []) :: (.tup []) :: (.tup []) :: (.tup []) :: (.tup []) :: (.tup []) :: (.tup []) :: (.tup []) :: (.tup []) :: (.tup []) :: (.tup []) :: (.tup []) :: (.tup []) :: (.tup []) :: []) [] [] _
  conv => arg 2; whnf
  by_cases hm : May o
  · have hmt : decide (May o) = true := decide_eq_true hm
    have hon := fun S => ix_on (S := S) hm.1 hm.2.1
    have hd := hm.2.2
    simp (maxSteps := 1000000) (disch := first | assumption | omega | rfl) only [↓vmp, vme, vmb, ty, hP, dec_t, dec_f, wrap64, List.length_map, Int.toNat_natCast, Nat.reduceAdd, List.cons_append, List.nil_append, Option.map_some, Option.map_none, strOf_mk, sb_eql, sb_neq, vmg, ↓vgd, ↓vst, ↓vix, call_may, hmt, bo47]
    refine wk_draw (is := [1, 2, 0, 3, 4, 5]) (h := 0) (by kernel_rfl) (by kernel_rfl) ?_
    simp (maxSteps := 1000000) (disch := first | assumption | omega | rfl) only [List.replicate_zero, eq_self, vmd, vmk, vmo, vmg, vme, vmb, ty, hP, dec_t, dec_f, wrap64, List.length_map, Int.toNat_natCast, Nat.reduceAdd, ↓vgd, ↓vst, ↓vix, List.append_nil, dr_names, bo48, hon]
    refine ⟨by kernel_rfl, ?_⟩
    have no : (pathsO o).all pathB = false → rcallO o = .ret (.tup [.d (.str []), .d (.bool false)]) := fun hh => by
      unfold rcallO callS
      rw [if_neg (fun hx => by rw [hh] at hx; exact absurd hx.2 (by decide))]
    have yes : ∀ s, (pathsO o).all pathB = true → Lib.join (wordsO o) [32] = s → rcallO o = .ret (.tup [.d (.str s), .d (.bool true)]) := fun s hh hs => by
      unfold rcallO callS
      rw [if_pos ⟨hm, hh⟩, hs]
    unfold wordsO pathsO at yes
    unfold pathsO at no
    unfold restO at yes
    generalize nameO o.does = N at *
    by_cases h13 : o.does = 13
    · have h7 : ¬ o.does = 7 := by omega
      have h8 : ¬ o.does = 8 := by omega
      have h9 : ¬ o.does = 9 := by omega
      rw [if_pos h13, if_neg h7, if_neg h8, if_neg h9] at yes
      rw [yes N rfl (by rw [List.append_nil, Lib.join_cons]; simp [Lib.joinTail])]
      simp (maxSteps := 1000000) (disch := first | assumption | omega | rfl) only [↓vmp, vme, vmb, ty, hP, dec_t, dec_f, wrap64, List.length_map, Int.toNat_natCast, Nat.reduceAdd, List.cons_append, List.nil_append, Option.map_some, Option.map_none, strOf_mk, sb_eql, sb_neq, vmg, ↓vgd, ↓vst, ↓vix, dec_True]
      exact retQ_two rfl rfl rfl rfl rfl rfl
    rw [if_neg h13] at yes no
    obtain ⟨s1, hs1⟩ : ∃ s, N ++ [32] = s := ⟨_, rfl⟩
    obtain ⟨s2, hs2⟩ : ∃ s, s1 ++ o.a = s := ⟨_, rfl⟩
    obtain ⟨s3, hs3⟩ : ∃ s, s2 ++ [32] = s := ⟨_, rfl⟩
    have k1 : s1.length ≤ 9 := by rw [← hs1]; simp; omega
    have k2 : s2.length ≤ 100009 := by rw [← hs2]; simp; omega
    have k3 : s3.length ≤ 100010 := by rw [← hs3]; simp; omega
    have a1 : strBin .add N [32] = some (.str s1) := by rw [← hs1]; exact sb_add (by simp; omega)
    have a2 : strBin .add s1 o.a = some (.str s2) := by rw [← hs2]; exact sb_add (by omega)
    have a3 : strBin .add s2 [32] = some (.str s3) := by rw [← hs3]; exact sb_add (by simp; omega)
    cases hp : pathB o.a with
    | false =>
      have hall : (if o.does = 3 ∨ o.does = 6 then [o.a, o.b] else [o.a]).all pathB = false := by split <;> simp [hp]
      rw [no hall]
      by_cases h3 : o.does = 3
      · simp (maxSteps := 1000000) (disch := first | assumption | omega | rfl) only [↓vmp, vme, vmb, ty, hP, dec_t, dec_f, wrap64, List.length_map, Int.toNat_natCast, Nat.reduceAdd, List.cons_append, List.nil_append, Option.map_some, Option.map_none, strOf_mk, sb_eql, sb_neq, vmg, ↓vgd, ↓vst, ↓vix, call_rpath ha, hp, bo49, dec_True]
        exact retQ_two rfl rfl rfl rfl rfl rfl
      · by_cases h6 : o.does = 6
        · simp (maxSteps := 1000000) (disch := first | assumption | omega | rfl) only [↓vmp, vme, vmb, ty, hP, dec_t, dec_f, wrap64, List.length_map, Int.toNat_natCast, Nat.reduceAdd, List.cons_append, List.nil_append, Option.map_some, Option.map_none, strOf_mk, sb_eql, sb_neq, vmg, ↓vgd, ↓vst, ↓vix, call_rpath ha, hp, bo49, dec_True]
          exact retQ_two rfl rfl rfl rfl rfl rfl
        · simp (maxSteps := 1000000) (disch := first | assumption | omega | rfl) only [↓vmp, vme, vmb, ty, hP, dec_t, dec_f, wrap64, List.length_map, Int.toNat_natCast, Nat.reduceAdd, List.cons_append, List.nil_append, Option.map_some, Option.map_none, strOf_mk, sb_eql, sb_neq, vmg, ↓vgd, ↓vst, ↓vix, call_rpath ha, hp, bo49, dec_True]
          exact retQ_two rfl rfl rfl rfl rfl rfl
    | true =>
      by_cases h3 : o.does = 3
      · have h7 : ¬ o.does = 7 := by omega
        have h8 : ¬ o.does = 8 := by omega
        have h9 : ¬ o.does = 9 := by omega
        rw [if_pos (.inl h3)] at no
        rw [if_pos (.inl h3), if_neg h7, if_neg h8, if_neg h9] at yes
        cases hq : pathB o.b with
        | false =>
          rw [no (by simp [hq])]
          simp (maxSteps := 1000000) (disch := first | assumption | omega | rfl) only [↓vmp, vme, vmb, ty, hP, dec_t, dec_f, wrap64, List.length_map, Int.toNat_natCast, Nat.reduceAdd, List.cons_append, List.nil_append, Option.map_some, Option.map_none, strOf_mk, sb_eql, sb_neq, vmg, ↓vgd, ↓vst, ↓vix, call_rpath ha, call_rpath hb, hp, hq, bo49, dec_True]
          exact retQ_two rfl rfl rfl rfl rfl rfl
        | true =>
          obtain ⟨s4, hs4⟩ : ∃ s, s3 ++ o.b = s := ⟨_, rfl⟩
          have a4 : strBin .add s3 o.b = some (.str s4) := by rw [← hs4]; exact sb_add (by omega)
          rw [yes s4 (by simp [hp, hq]) (by rw [← hs4, ← hs3, ← hs2, ← hs1, List.append_nil, Lib.join_cons]; simp [Lib.joinTail])]
          simp (maxSteps := 1000000) (disch := first | assumption | omega | rfl) only [↓vmp, vme, vmb, ty, hP, dec_t, dec_f, wrap64, List.length_map, Int.toNat_natCast, Nat.reduceAdd, List.cons_append, List.nil_append, Option.map_some, Option.map_none, strOf_mk, sb_eql, sb_neq, vmg, ↓vgd, ↓vst, ↓vix, call_rpath ha, call_rpath hb, hp, hq, bo49, a1, a2, a3, a4, dec_True]
          exact retQ_two rfl rfl rfl rfl rfl rfl
      by_cases h6 : o.does = 6
      · have h7 : ¬ o.does = 7 := by omega
        have h8 : ¬ o.does = 8 := by omega
        have h9 : ¬ o.does = 9 := by omega
        rw [if_pos (.inr h6)] at no
        rw [if_pos (.inr h6), if_neg h7, if_neg h8, if_neg h9] at yes
        cases hq : pathB o.b with
        | false =>
          rw [no (by simp [hq])]
          simp (maxSteps := 1000000) (disch := first | assumption | omega | rfl) only [↓vmp, vme, vmb, ty, hP, dec_t, dec_f, wrap64, List.length_map, Int.toNat_natCast, Nat.reduceAdd, List.cons_append, List.nil_append, Option.map_some, Option.map_none, strOf_mk, sb_eql, sb_neq, vmg, ↓vgd, ↓vst, ↓vix, call_rpath ha, call_rpath hb, hp, hq, bo49, dec_True]
          exact retQ_two rfl rfl rfl rfl rfl rfl
        | true =>
          obtain ⟨s4, hs4⟩ : ∃ s, s3 ++ o.b = s := ⟨_, rfl⟩
          have a4 : strBin .add s3 o.b = some (.str s4) := by rw [← hs4]; exact sb_add (by omega)
          rw [yes s4 (by simp [hp, hq]) (by rw [← hs4, ← hs3, ← hs2, ← hs1, List.append_nil, Lib.join_cons]; simp [Lib.joinTail])]
          simp (maxSteps := 1000000) (disch := first | assumption | omega | rfl) only [↓vmp, vme, vmb, ty, hP, dec_t, dec_f, wrap64, List.length_map, Int.toNat_natCast, Nat.reduceAdd, List.cons_append, List.nil_append, Option.map_some, Option.map_none, strOf_mk, sb_eql, sb_neq, vmg, ↓vgd, ↓vst, ↓vix, call_rpath ha, call_rpath hb, hp, hq, bo49, a1, a2, a3, a4, dec_True]
          exact retQ_two rfl rfl rfl rfl rfl rfl
      rw [if_neg (fun hh => hh.elim h3 h6)] at yes no
      by_cases h7 : o.does = 7
      · have h8 : ¬ o.does = 8 := by omega
        have h9 : ¬ o.does = 9 := by omega
        rw [if_pos h7] at yes
        obtain ⟨s4, hs4⟩ : ∃ s, s3 ++ Lib.itoa o.off = s := ⟨_, rfl⟩
        obtain ⟨s5, hs5⟩ : ∃ s, s4 ++ [32] = s := ⟨_, rfl⟩
        obtain ⟨s6, hs6⟩ : ∃ s, s5 ++ hexS o.data = s := ⟨_, rfl⟩
        have k4 : s4.length ≤ 100031 := by rw [← hs4]; simp; omega
        have k5 : s5.length ≤ 100032 := by rw [← hs5]; simp; omega
        have a4 : strBin .add s3 (Lib.itoa o.off) = some (.str s4) := by rw [← hs4]; exact sb_add (by omega)
        have a5 : strBin .add s4 [32] = some (.str s5) := by rw [← hs5]; exact sb_add (by simp; omega)
        have a6 : strBin .add s5 (hexS o.data) = some (.str s6) := by rw [← hs6]; exact sb_add (by omega)
        rw [yes s6 (by simp [hp]) (by rw [← hs6, ← hs5, ← hs4, ← hs3, ← hs2, ← hs1, List.cons_append, Lib.join_cons]; simp [Lib.joinTail])]
        simp (maxSteps := 1000000) (disch := first | assumption | omega | rfl) only [↓vmp, vme, vmb, ty, hP, dec_t, dec_f, wrap64, List.length_map, Int.toNat_natCast, Nat.reduceAdd, List.cons_append, List.nil_append, Option.map_some, Option.map_none, strOf_mk, sb_eql, sb_neq, vmg, ↓vgd, ↓vst, ↓vix, call_rpath ha, hp, bo49, a1, a2, dec_True]
        refine wk_draw (is := [0, 1, 2, 3, 7, 8, 4, 5, 6, 9, 10, 11]) (h := 0) (by kernel_rfl) (by kernel_rfl) ?_
        simp (maxSteps := 1000000) (disch := first | assumption | omega | rfl) only [List.replicate_zero, eq_self, vmd, vmk, vmo, vmg, vme, vmb, ty, hP, dec_t, dec_f, wrap64, List.length_map, Int.toNat_natCast, Nat.reduceAdd, ↓vgd, ↓vst, ↓vix, List.append_nil, strOf_mk, encB, a3, a4, a5, a6, dr_num h.off, bo26, dr_rhex (b := o.data) (by omega), bo50]
        refine ⟨by kernel_rfl, ?_⟩
        simp (maxSteps := 1000000) (disch := first | assumption | omega | rfl) only [↓vmp, vme, vmb, ty, hP, dec_t, dec_f, wrap64, List.length_map, Int.toNat_natCast, Nat.reduceAdd, List.cons_append, List.nil_append, Option.map_some, Option.map_none, strOf_mk, sb_eql, sb_neq, vmg, ↓vgd, ↓vst, ↓vix, dec_True]
        exact retQ_two rfl rfl rfl rfl rfl rfl
      by_cases h8 : o.does = 8
      · have h9 : ¬ o.does = 9 := by omega
        rw [if_neg h7, if_pos h8] at yes
        obtain ⟨s4, hs4⟩ : ∃ s, s3 ++ Lib.itoa o.off = s := ⟨_, rfl⟩
        obtain ⟨s5, hs5⟩ : ∃ s, s4 ++ [32] = s := ⟨_, rfl⟩
        obtain ⟨s6, hs6⟩ : ∃ s, s5 ++ Lib.itoa o.n = s := ⟨_, rfl⟩
        have k4 : s4.length ≤ 100031 := by rw [← hs4]; simp; omega
        have k5 : s5.length ≤ 100032 := by rw [← hs5]; simp; omega
        have a4 : strBin .add s3 (Lib.itoa o.off) = some (.str s4) := by rw [← hs4]; exact sb_add (by omega)
        have a5 : strBin .add s4 [32] = some (.str s5) := by rw [← hs5]; exact sb_add (by simp; omega)
        have a6 : strBin .add s5 (Lib.itoa o.n) = some (.str s6) := by rw [← hs6]; exact sb_add (by omega)
        rw [yes s6 (by simp [hp]) (by rw [← hs6, ← hs5, ← hs4, ← hs3, ← hs2, ← hs1, List.cons_append, Lib.join_cons]; simp [Lib.joinTail])]
        simp (maxSteps := 1000000) (disch := first | assumption | omega | rfl) only [↓vmp, vme, vmb, ty, hP, dec_t, dec_f, wrap64, List.length_map, Int.toNat_natCast, Nat.reduceAdd, List.cons_append, List.nil_append, Option.map_some, Option.map_none, strOf_mk, sb_eql, sb_neq, vmg, ↓vgd, ↓vst, ↓vix, call_rpath ha, hp, bo49, a1, a2, dec_True]
        refine wk_draw (is := [0, 1, 2, 3, 7, 8, 4, 5, 6, 9, 10, 11]) (h := 0) (by kernel_rfl) (by kernel_rfl) ?_
        simp (maxSteps := 1000000) (disch := first | assumption | omega | rfl) only [List.replicate_zero, eq_self, vmd, vmk, vmo, vmg, vme, vmb, ty, hP, dec_t, dec_f, wrap64, List.length_map, Int.toNat_natCast, Nat.reduceAdd, ↓vgd, ↓vst, ↓vix, List.append_nil, strOf_mk, a3, a4, a5, a6, dr_num h.off, dr_num h.n, bo26]
        refine ⟨by kernel_rfl, ?_⟩
        simp (maxSteps := 1000000) (disch := first | assumption | omega | rfl) only [↓vmp, vme, vmb, ty, hP, dec_t, dec_f, wrap64, List.length_map, Int.toNat_natCast, Nat.reduceAdd, List.cons_append, List.nil_append, Option.map_some, Option.map_none, strOf_mk, sb_eql, sb_neq, vmg, ↓vgd, ↓vst, ↓vix, dec_True]
        exact retQ_two rfl rfl rfl rfl rfl rfl
      by_cases h9 : o.does = 9
      · rw [if_neg h7, if_neg h8, if_pos h9] at yes
        obtain ⟨s4, hs4⟩ : ∃ s, s3 ++ Lib.itoa o.n = s := ⟨_, rfl⟩
        have a4 : strBin .add s3 (Lib.itoa o.n) = some (.str s4) := by rw [← hs4]; exact sb_add (by omega)
        rw [yes s4 (by simp [hp]) (by rw [← hs4, ← hs3, ← hs2, ← hs1, List.cons_append, Lib.join_cons]; simp [Lib.joinTail])]
        simp (maxSteps := 1000000) (disch := first | assumption | omega | rfl) only [↓vmp, vme, vmb, ty, hP, dec_t, dec_f, wrap64, List.length_map, Int.toNat_natCast, Nat.reduceAdd, List.cons_append, List.nil_append, Option.map_some, Option.map_none, strOf_mk, sb_eql, sb_neq, vmg, ↓vgd, ↓vst, ↓vix, call_rpath ha, hp, bo49, a1, a2, a3, a4, call_num h.n, bo26, dec_True]
        exact retQ_two rfl rfl rfl rfl rfl rfl
      · rw [if_neg h7, if_neg h8, if_neg h9] at yes
        rw [yes s2 (by simp [hp]) (by rw [← hs2, ← hs1, List.append_nil, Lib.join_cons]; simp [Lib.joinTail])]
        simp (maxSteps := 1000000) (disch := first | assumption | omega | rfl) only [↓vmp, vme, vmb, ty, hP, dec_t, dec_f, wrap64, List.length_map, Int.toNat_natCast, Nat.reduceAdd, List.cons_append, List.nil_append, Option.map_some, Option.map_none, strOf_mk, sb_eql, sb_neq, vmg, ↓vgd, ↓vst, ↓vix, call_rpath ha, hp, bo49, a1, a2, dec_True]
        exact retQ_two rfl rfl rfl rfl rfl rfl
  · have hmt : decide (May o) = false := decide_eq_false hm
    have hc : rcallO o = .ret (.tup [.d (.str []), .d (.bool false)]) := by
      unfold rcallO callS
      rw [if_neg (fun hh => hm hh.1)]
    rw [hc]
    simp (maxSteps := 1000000) (disch := first | assumption | omega | rfl) only [↓vmp, vme, vmb, ty, hP, dec_t, dec_f, wrap64, List.length_map, Int.toNat_natCast, Nat.reduceAdd, List.cons_append, List.nil_append, Option.map_some, Option.map_none, strOf_mk, sb_eql, sb_neq, vmg, ↓vgd, ↓vst, ↓vix, call_may, hmt, bo47]
    exact retQ_two rfl rfl rfl rfl rfl rfl
end Go.Proofs.YteapjcgeckpknaaDoor
end
/-! The line of a step: script.Line, and the document's. -/
section
set_option linter.unusedVariables false
set_option linter.unusedSimpArgs false
set_option maxRecDepth 100000
set_option maxHeartbeats 4000000
namespace Go.Proofs.YteapjcgeckpknaaDoor
open Go.Vm
structure StepB (s : Step) : Prop where
  o : OpB s.o
  w0 : 0 ≤ s.w
  w1 : s.w < 18446744073709551616
  n : InB s.n
def lineS (s : Step) : Option (List UInt8) := if s.does = 0 then callS s.o else if s.does = 1 then some ([112, 105, 99, 107] ++ [32] ++ wgtS s.w.toNat) else if s.does = 2 then some ([102, 117, 115, 101] ++ [32] ++ Lib.itoa s.n) else if s.does = 3 then some [111, 112, 101, 110] else Option.none
def lineO (s : Step) : Out := match lineS s with
  | some l => .ret (.tup [.d (.str l), .d (.int .i64 0)])
  | Option.none => .ret (.tup [.d (.str []), .d (.int .i64 1)])
def rlineO (s : Step) : Out := match lineS s with
  | some l => .ret (.tup [.d (.str l), .d (.bool true)])
  | Option.none => .ret (.tup [.d (.str []), .d (.bool false)])
theorem line2 {w x : List UInt8} : Lib.join [w, x] [32] = w ++ [32] ++ x := by rw [Lib.join_cons]; simp [Lib.joinTail]
theorem wgtS_len (w : Nat) : (wgtS w).length ≤ 17 := by
  have := hexS_len (beL w)
  rw [beL_len] at this
  exact this
section
variable {ops : Array Oper} {dst : Option Tmp} {k : List Oper} {T : List V} {S : Store} {F : Dfs} {Q : Post}
theorem call_callS {o : Opn} {l : List UInt8} (h : OpB o) (hc : callS o = some l) : WpR cfg ops dst k T S F Q (some (.enter 30 [.agg [.d (.int .i64 o.does), .d (.str o.a), .d (.str o.b), .d (.int .i64 o.off), .d (.int .i64 o.n), .d (encB o.data)]])) = WpL cfg ops k (putT T dst (.tup [.d (.str l), .d (.int .i64 0)])) S F Q :=
  wr_call_plain (ds := [encOpn o]) rfl rfl rfl (by have := call_ok o h; unfold callO at this; rw [hc] at this; exact this)
theorem call_callN {o : Opn} (h : OpB o) (hc : callS o = Option.none) : WpR cfg ops dst k T S F Q (some (.enter 30 [.agg [.d (.int .i64 o.does), .d (.str o.a), .d (.str o.b), .d (.int .i64 o.off), .d (.int .i64 o.n), .d (encB o.data)]])) = WpL cfg ops k (putT T dst (.tup [.d (.str []), .d (.int .i64 1)])) S F Q :=
  wr_call_plain (ds := [encOpn o]) rfl rfl rfl (by have := call_ok o h; unfold callO at this; rw [hc] at this; exact this)
theorem call_rcallS {o : Opn} {l : List UInt8} (h : OpB o) (hc : callS o = some l) : WpR cfg ops dst k T S F Q (some (.enter 24 [.agg [.d (.int .i64 o.does), .d (.str o.a), .d (.str o.b), .d (.int .i64 o.off), .d (.int .i64 o.n), .d (encB o.data)]])) = WpL cfg ops k (putT T dst (.tup [.d (.str l), .d (.bool true)])) S F Q :=
  wr_call_plain (ds := [encOpn o]) rfl rfl rfl (by have := rcall_ok o h; unfold rcallO at this; rw [hc] at this; exact this)
theorem call_rcallN {o : Opn} (h : OpB o) (hc : callS o = Option.none) : WpR cfg ops dst k T S F Q (some (.enter 24 [.agg [.d (.int .i64 o.does), .d (.str o.a), .d (.str o.b), .d (.int .i64 o.off), .d (.int .i64 o.n), .d (encB o.data)]])) = WpL cfg ops k (putT T dst (.tup [.d (.str []), .d (.bool false)])) S F Q :=
  wr_call_plain (ds := [encOpn o]) rfl rfl rfl (by have := rcall_ok o h; unfold rcallO at this; rw [hc] at this; exact this)
theorem call_weight {w : Int} (h0 : 0 ≤ w) (h1 : w < 18446744073709551616) : WpR cfg ops dst k T S F Q (some (.enter 32 [.d (.int .u64 w)])) = WpL cfg ops k (putT T dst (.d (.str (wgtS w.toNat)))) S F Q := by
  obtain ⟨n, rfl⟩ : ∃ n : Nat, w = n := ⟨w.toNat, by omega⟩
  exact wr_call_d (ds := [.int .u64 (n : Int)]) rfl (weight_ok n (by omega))
theorem call_rweight {w : Int} (h0 : 0 ≤ w) (h1 : w < 18446744073709551616) : WpR cfg ops dst k T S F Q (some (.enter 25 [.d (.int .u64 w)])) = WpL cfg ops k (putT T dst (.d (.str (wgtS w.toNat)))) S F Q := by
  obtain ⟨n, rfl⟩ : ∃ n : Nat, w = n := ⟨w.toNat, by omega⟩
  exact wr_call_d (ds := [.int .u64 (n : Int)]) rfl (rweight_ok n (by omega))
theorem call_join2 {x y : List UInt8} (h : (x ++ [32] ++ y).length ≤ 1000) : WpR cfg ops dst k T S F Q (some (.enter 31 [.ts [.str x, .str y]])) = WpL cfg ops k (putT T dst (.d (.str (x ++ [32] ++ y)))) S F Q := by
  rw [← line2] at h ⊢
  exact call_line (l := [x, y]) rfl (by simp) (by omega)
end
theorem line_step_ok (s : Step) (h : StepB s) : Ev cfg 15 [encStep s] (lineO s) := by
  have l1 := itoa_len _ h.n
  have l2 := wgtS_len s.w.toNat
  refine ev_of rfl rfl body15 ?_
  show Wp cfg (Tryd.f15.body.getD .skip) ((.d (encStep s)) :: (.tup []) :: (.tup []) :: (.tup []) :: (.tup []) :: (.tup []) :: (.tup []) :: (.tup []) :: (.tup []) :: (.tup []) :: (.tup []) :: (.tup []) :: (.tup []) :: (.tup []) :: (.tup []) :: (.tup []) :: (.tup []) :: (.tup []) :: (.tup []) :: (.tup []) :: (.tup []) :: (.tup []) :: (.tup []) :: (.tup []) :: (.tup []) :: (.tup []) :: (.tup []) :: (.tup []) :: (.tup []) :: []) [] [] _
  conv => arg 2; whnf
  unfold lineO lineS
  by_cases h0 : s.does = 0
  · rw [if_pos h0]
    cases hc : callS s.o with
    | some l =>
      simp (maxSteps := 1000000) (disch := first | assumption | omega | rfl) only [↓vmp, vme, vmb, ty, hP, dec_t, dec_f, wrap64, List.length_map, Int.toNat_natCast, Nat.reduceAdd, List.cons_append, List.nil_append, Option.map_some, Option.map_none, strOf_mk, sb_eql, sb_neq, vmg, ↓vgd, ↓vst, ↓vix, call_callS h.o hc, bo30, dec_True]
      exact retQ_two rfl rfl rfl rfl rfl rfl
    | none =>
      simp (maxSteps := 1000000) (disch := first | assumption | omega | rfl) only [↓vmp, vme, vmb, ty, hP, dec_t, dec_f, wrap64, List.length_map, Int.toNat_natCast, Nat.reduceAdd, List.cons_append, List.nil_append, Option.map_some, Option.map_none, strOf_mk, sb_eql, sb_neq, vmg, ↓vgd, ↓vst, ↓vix, call_callN h.o hc, bo30, dec_True]
      exact retQ_two rfl rfl rfl rfl rfl rfl
  rw [if_neg h0]
  by_cases h1 : s.does = 1
  · rw [if_pos h1]
    have hj : ([112, 105, 99, 107] ++ [32] ++ wgtS s.w.toNat).length ≤ 1000 := by simp; omega
    have hcj : ∀ {ops : Array Oper} {dst : Option Tmp} {k : List Oper} {T : List V} {S : Store} {F : Dfs} {Q : Post}, WpR cfg ops dst k T S F Q (some (.enter 31 [.ts [.str [112, 105, 99, 107], .str (wgtS s.w.toNat)]])) = WpL cfg ops k (putT T dst (.d (.str ([112, 105, 99, 107] ++ [32] ++ wgtS s.w.toNat)))) S F Q := fun {ops dst k T S F Q} => call_join2 hj
    simp (maxSteps := 1000000) (disch := first | assumption | omega | rfl) only [↓vmp, vme, vmb, ty, hP, dec_t, dec_f, wrap64, List.length_map, Int.toNat_natCast, Nat.reduceAdd, List.cons_append, List.nil_append, Option.map_some, Option.map_none, strOf_mk, sb_eql, sb_neq, vmg, ↓vgd, ↓vst, ↓vix, ↓vbs, call_weight h.w0 h.w1, bo32, op_bs2, bs2_56, hcj, bo31, dec_True]
    exact retQ_two rfl rfl rfl rfl rfl rfl
  rw [if_neg h1]
  by_cases h2 : s.does = 2
  · rw [if_pos h2]
    have hj : ([102, 117, 115, 101] ++ [32] ++ Lib.itoa s.n).length ≤ 1000 := by simp; omega
    have hcj : ∀ {ops : Array Oper} {dst : Option Tmp} {k : List Oper} {T : List V} {S : Store} {F : Dfs} {Q : Post}, WpR cfg ops dst k T S F Q (some (.enter 31 [.ts [.str [102, 117, 115, 101], .str (Lib.itoa s.n)]])) = WpL cfg ops k (putT T dst (.d (.str ([102, 117, 115, 101] ++ [32] ++ Lib.itoa s.n)))) S F Q := fun {ops dst k T S F Q} => call_join2 hj
    simp (maxSteps := 1000000) (disch := first | assumption | omega | rfl) only [↓vmp, vme, vmb, ty, hP, dec_t, dec_f, wrap64, List.length_map, Int.toNat_natCast, Nat.reduceAdd, List.cons_append, List.nil_append, Option.map_some, Option.map_none, strOf_mk, sb_eql, sb_neq, vmg, ↓vgd, ↓vst, ↓vix, ↓vbs, call_whole h.n, bo33, op_bs2, bs2_56, hcj, bo31, dec_True]
    exact retQ_two rfl rfl rfl rfl rfl rfl
  rw [if_neg h2]
  by_cases h3 : s.does = 3
  · rw [if_pos h3]
    simp (maxSteps := 1000000) (disch := first | assumption | omega | rfl) only [↓vmp, vme, vmb, ty, hP, dec_t, dec_f, wrap64, List.length_map, Int.toNat_natCast, Nat.reduceAdd, List.cons_append, List.nil_append, Option.map_some, Option.map_none, strOf_mk, sb_eql, sb_neq, vmg, ↓vgd, ↓vst, ↓vix, dec_True]
    exact retQ_two rfl rfl rfl rfl rfl rfl
  · rw [if_neg h3]
    simp (maxSteps := 1000000) (disch := first | assumption | omega | rfl) only [↓vmp, vme, vmb, ty, hP, dec_t, dec_f, wrap64, List.length_map, Int.toNat_natCast, Nat.reduceAdd, List.cons_append, List.nil_append, Option.map_some, Option.map_none, strOf_mk, sb_eql, sb_neq, vmg, ↓vgd, ↓vst, ↓vix]
    exact retQ_two rfl rfl rfl rfl rfl rfl
theorem rline_ok (s : Step) (h : StepB s) : Ev cfg 11 [encStep s] (rlineO s) := by
  have l1 := itoa_len _ h.n
  have l2 := wgtS_len s.w.toNat
  refine ev_of rfl rfl body11 ?_
  show Wp cfg (Tryd.f11.body.getD .skip) ((.d (encStep s)) :: (.tup []) :: (.tup []) :: (.tup []) :: (.tup []) :: (.tup []) :: (.tup []) :: (.tup []) :: (.tup []) :: (.tup []) :: (.tup []) :: (.tup []) :: (.tup []) :: (.tup []) :: (.tup []) :: (.tup []) :: (.tup []) :: (.tup []) :: (.tup []) :: (.tup []) :: (.tup []) :: (.tup []) :: (.tup []) :: (.tup []) :: (.tup []) :: (.tup []) :: (.tup []) :: (.tup []) :: (.tup []) :: []) [] [] _
  conv => arg 2; whnf
  unfold rlineO lineS
  by_cases h0 : s.does = 0
  · rw [if_pos h0]
    cases hc : callS s.o with
    | some l =>
      simp (maxSteps := 1000000) (disch := first | assumption | omega | rfl) only [↓vmp, vme, vmb, ty, hP, dec_t, dec_f, wrap64, List.length_map, Int.toNat_natCast, Nat.reduceAdd, List.cons_append, List.nil_append, Option.map_some, Option.map_none, strOf_mk, sb_eql, sb_neq, vmg, ↓vgd, ↓vst, ↓vix, call_rcallS h.o hc, bo24, dec_True]
      exact retQ_two rfl rfl rfl rfl rfl rfl
    | none =>
      simp (maxSteps := 1000000) (disch := first | assumption | omega | rfl) only [↓vmp, vme, vmb, ty, hP, dec_t, dec_f, wrap64, List.length_map, Int.toNat_natCast, Nat.reduceAdd, List.cons_append, List.nil_append, Option.map_some, Option.map_none, strOf_mk, sb_eql, sb_neq, vmg, ↓vgd, ↓vst, ↓vix, call_rcallN h.o hc, bo24, dec_True]
      exact retQ_two rfl rfl rfl rfl rfl rfl
  rw [if_neg h0]
  by_cases h1 : s.does = 1
  · rw [if_pos h1]
    have a1 : strBin .add [112, 105, 99, 107, 32] (wgtS s.w.toNat) = some (.str ([112, 105, 99, 107] ++ [32] ++ wgtS s.w.toNat)) := sb_add (a := [112, 105, 99, 107, 32]) (by simp; omega)
    simp (maxSteps := 1000000) (disch := first | assumption | omega | rfl) only [↓vmp, vme, vmb, ty, hP, dec_t, dec_f, wrap64, List.length_map, Int.toNat_natCast, Nat.reduceAdd, List.cons_append, List.nil_append, Option.map_some, Option.map_none, strOf_mk, sb_eql, sb_neq, vmg, ↓vgd, ↓vst, ↓vix, call_rweight h.w0 h.w1, bo25, a1, dec_True]
    exact retQ_two rfl rfl rfl rfl rfl rfl
  rw [if_neg h1]
  by_cases h2 : s.does = 2
  · rw [if_pos h2]
    have a1 : strBin .add [102, 117, 115, 101, 32] (Lib.itoa s.n) = some (.str ([102, 117, 115, 101] ++ [32] ++ Lib.itoa s.n)) := sb_add (a := [102, 117, 115, 101, 32]) (by simp; omega)
    simp (maxSteps := 1000000) (disch := first | assumption | omega | rfl) only [↓vmp, vme, vmb, ty, hP, dec_t, dec_f, wrap64, List.length_map, Int.toNat_natCast, Nat.reduceAdd, List.cons_append, List.nil_append, Option.map_some, Option.map_none, strOf_mk, sb_eql, sb_neq, vmg, ↓vgd, ↓vst, ↓vix, call_num h.n, bo26, a1, dec_True]
    exact retQ_two rfl rfl rfl rfl rfl rfl
  rw [if_neg h2]
  by_cases h3 : s.does = 3
  · rw [if_pos h3]
    simp (maxSteps := 1000000) (disch := first | assumption | omega | rfl) only [↓vmp, vme, vmb, ty, hP, dec_t, dec_f, wrap64, List.length_map, Int.toNat_natCast, Nat.reduceAdd, List.cons_append, List.nil_append, Option.map_some, Option.map_none, strOf_mk, sb_eql, sb_neq, vmg, ↓vgd, ↓vst, ↓vix, dec_True]
    exact retQ_two rfl rfl rfl rfl rfl rfl
  · rw [if_neg h3]
    simp (maxSteps := 1000000) (disch := first | assumption | omega | rfl) only [↓vmp, vme, vmb, ty, hP, dec_t, dec_f, wrap64, List.length_map, Int.toNat_natCast, Nat.reduceAdd, List.cons_append, List.nil_append, Option.map_some, Option.map_none, strOf_mk, sb_eql, sb_neq, vmg, ↓vgd, ↓vst, ↓vix]
    exact retQ_two rfl rfl rfl rfl rfl rfl
end Go.Proofs.YteapjcgeckpknaaDoor
end
/-! What counts of a call: the document's way. -/
section
set_option linter.unusedVariables false
set_option linter.unusedSimpArgs false
set_option maxRecDepth 100000
set_option maxHeartbeats 4000000
namespace Go.Proofs.YteapjcgeckpknaaDoor
open Go.Vm
def plainO (o : Opn) : Opn := ⟨o.does, if o.does = 13 then [] else o.a, if o.does = 3 ∨ o.does = 6 then o.b else [], if o.does = 7 ∨ o.does = 8 then o.off else 0, if o.does = 8 ∨ o.does = 9 then o.n else 0, if o.does = 7 then o.data else []⟩
theorem bd33 {n : Int} : buildV Tryd.prog 33 [(0, .d (.int .i64 n))] = some (.agg [.d (.int .i64 n), .d (.str []), .d (.str []), .d (.int .i64 0), .d (.int .i64 0), .ts []]) := by kernel_rfl
theorem bd25 {n : Int} : buildV Tryd.prog 25 [(0, .d (.int .i64 n))] = some (.agg [.d (.int .i64 n), .d (.str []), .d (.str []), .d (.int .i64 0), .d (.int .i64 0), .ts []]) := by kernel_rfl
theorem st9_1 {a : List UInt8} {x0 x1 x2 x3 x4 x5 : V} : storeR Tryd.prog 9 1 (.d (.str a)) (.agg [x0, x1, x2, x3, x4, x5]) = some (.agg [x0, .d (.str a), x2, x3, x4, x5]) := by kernel_rfl
theorem st9_2 {a : List UInt8} {x0 x1 x2 x3 x4 x5 : V} : storeR Tryd.prog 9 2 (.d (.str a)) (.agg [x0, x1, x2, x3, x4, x5]) = some (.agg [x0, x1, .d (.str a), x3, x4, x5]) := by kernel_rfl
theorem st23_5 {a : List UInt8} {x0 x1 x2 x3 x4 x5 : V} : storeR Tryd.prog 23 5 (.d (encB a)) (.agg [x0, x1, x2, x3, x4, x5]) = some (.agg [x0, x1, x2, x3, x4, .d (encB a)]) := by kernel_rfl
theorem rplain_ok (o : Opn) : Ev cfg 27 [encOpn o] (.ret (.d (encOpn (plainO o)))) := by
  refine ev_of rfl rfl body27 ?_
  show Wp cfg (Tryd.f27.body.getD .skip) ((.d (encOpn o)) :: (.tup []) :: (.tup []) :: (.tup []) :: (.tup []) :: (.tup []) :: (.tup []) :: (.tup []) :: (.tup []) :: (.tup []) :: (.tup []) :: (.tup []) :: (.tup []) :: (.tup []) :: (.tup []) :: (.tup []) :: (.tup []) :: (.tup []) :: (.tup []) :: (.tup []) :: (.tup []) :: (.tup []) :: (.tup []) :: (.tup []) :: (.tup []) :: (.tup []) :: (.tup []) :: (.tup []) :: (.tup []) :: (.tup []) :: (.tup []) :: (.tup []) :: (.tup []) :: (.tup []) :: (.tup []) :: (.tup []) :: (.tup []) :: (.tup []) :: (.tup []) :: (.tup []) :: (.tup []) :: (.tup []) :: (.tup []) :: (.tup []) :: (.tup []) :: (.tup []) :: (.tup []) :: (.tup []) :: (.tup []) :: (.tup []) :: (.tup []) :: (.tup []) :: (.tup []) :: []) [] [] _
  conv => arg 2; whnf
  have fa := fitsT9 o.a
  have fb := fitsT9 o.b
  have fd : fitsT Tryd.prog 23 (.d (encB o.data)) = true := by kernel_rfl
  unfold plainO
  by_cases h13 : o.does = 13
  · have h3 : ¬ o.does = 3 := by omega
    have h6 : ¬ o.does = 6 := by omega
    have h7 : ¬ o.does = 7 := by omega
    have h8 : ¬ o.does = 8 := by omega
    have h9 : ¬ o.does = 9 := by omega
    rw [if_pos h13, if_neg (fun h => h.elim h3 h6), if_neg (fun h => h.elim h7 h8), if_neg (fun h => h.elim h8 h9), if_neg h7]
    simp (maxSteps := 1000000) (disch := first | assumption | omega | rfl) only [↓vmp, vme, vmb, ty, hP, dec_t, dec_f, wrap64, List.length_map, Int.toNat_natCast, Nat.reduceAdd, List.cons_append, List.nil_append, Option.map_some, Option.map_none, strOf_mk, sb_eql, sb_neq, vmg, ↓vgd, ↓vst, ↓vix, bd33, st9_1, st9_2, st23_5, dec_True]
    exact retQ_cell (u := .ref 1 0 0) (v := .agg [.d (.int .i64 o.does), .d (.str []), .d (.str []), .d (.int .i64 0), .d (.int .i64 0), .ts []]) rfl (by kernel_rfl) rfl (by kernel_rfl)
  rw [if_neg h13]
  by_cases h3 : o.does = 3
  · have h6 : ¬ o.does = 6 := by omega
    have h7 : ¬ o.does = 7 := by omega
    have h8 : ¬ o.does = 8 := by omega
    have h9 : ¬ o.does = 9 := by omega
    rw [if_pos (.inl h3), if_neg (fun h => h.elim h7 h8), if_neg (fun h => h.elim h8 h9), if_neg h7]
    simp (maxSteps := 1000000) (disch := first | assumption | omega | rfl) only [↓vmp, vme, vmb, ty, hP, dec_t, dec_f, wrap64, List.length_map, Int.toNat_natCast, Nat.reduceAdd, List.cons_append, List.nil_append, Option.map_some, Option.map_none, strOf_mk, sb_eql, sb_neq, vmg, ↓vgd, ↓vst, ↓vix, bd33, st9_1, st9_2, st23_5, dec_True]
    exact retQ_cell (u := .ref 1 0 0) (v := .agg [.d (.int .i64 o.does), .d (.str o.a), .d (.str o.b), .d (.int .i64 0), .d (.int .i64 0), .ts []]) rfl (by kernel_rfl) rfl (by kernel_rfl)
  by_cases h6 : o.does = 6
  · have h7 : ¬ o.does = 7 := by omega
    have h8 : ¬ o.does = 8 := by omega
    have h9 : ¬ o.does = 9 := by omega
    rw [if_pos (.inr h6), if_neg (fun h => h.elim h7 h8), if_neg (fun h => h.elim h8 h9), if_neg h7]
    simp (maxSteps := 1000000) (disch := first | assumption | omega | rfl) only [↓vmp, vme, vmb, ty, hP, dec_t, dec_f, wrap64, List.length_map, Int.toNat_natCast, Nat.reduceAdd, List.cons_append, List.nil_append, Option.map_some, Option.map_none, strOf_mk, sb_eql, sb_neq, vmg, ↓vgd, ↓vst, ↓vix, bd33, st9_1, st9_2, st23_5, dec_True]
    exact retQ_cell (u := .ref 1 0 0) (v := .agg [.d (.int .i64 o.does), .d (.str o.a), .d (.str o.b), .d (.int .i64 0), .d (.int .i64 0), .ts []]) rfl (by kernel_rfl) rfl (by kernel_rfl)
  rw [if_neg (fun h => h.elim h3 h6)]
  by_cases h7 : o.does = 7
  · have h8 : ¬ o.does = 8 := by omega
    have h9 : ¬ o.does = 9 := by omega
    rw [if_pos (.inl h7), if_neg (fun h => h.elim h8 h9), if_pos h7]
    simp (maxSteps := 1000000) (disch := first | assumption | omega | rfl) only [↓vmp, vme, vmb, ty, hP, dec_t, dec_f, wrap64, List.length_map, Int.toNat_natCast, Nat.reduceAdd, List.cons_append, List.nil_append, Option.map_some, Option.map_none, strOf_mk, sb_eql, sb_neq, vmg, ↓vgd, ↓vst, ↓vix, bd33, st9_1, st9_2, st23_5, dec_True]
    exact retQ_cell (u := .ref 1 0 0) (v := .agg [.d (.int .i64 o.does), .d (.str o.a), .d (.str []), .d (.int .i64 o.off), .d (.int .i64 0), .d (encB o.data)]) rfl (by kernel_rfl) rfl (by kernel_rfl)
  by_cases h8 : o.does = 8
  · have h9 : ¬ o.does = 9 := by omega
    rw [if_pos (.inr h8), if_pos (.inl h8), if_neg h7]
    simp (maxSteps := 1000000) (disch := first | assumption | omega | rfl) only [↓vmp, vme, vmb, ty, hP, dec_t, dec_f, wrap64, List.length_map, Int.toNat_natCast, Nat.reduceAdd, List.cons_append, List.nil_append, Option.map_some, Option.map_none, strOf_mk, sb_eql, sb_neq, vmg, ↓vgd, ↓vst, ↓vix, bd33, st9_1, st9_2, st23_5, dec_True]
    exact retQ_cell (u := .ref 1 0 0) (v := .agg [.d (.int .i64 o.does), .d (.str o.a), .d (.str []), .d (.int .i64 o.off), .d (.int .i64 o.n), .ts []]) rfl (by kernel_rfl) rfl (by kernel_rfl)
  by_cases h9 : o.does = 9
  · rw [if_neg (fun h => h.elim h7 h8), if_pos (.inr h9), if_neg h7]
    simp (maxSteps := 1000000) (disch := first | assumption | omega | rfl) only [↓vmp, vme, vmb, ty, hP, dec_t, dec_f, wrap64, List.length_map, Int.toNat_natCast, Nat.reduceAdd, List.cons_append, List.nil_append, Option.map_some, Option.map_none, strOf_mk, sb_eql, sb_neq, vmg, ↓vgd, ↓vst, ↓vix, bd33, st9_1, st9_2, st23_5, dec_True]
    exact retQ_cell (u := .ref 1 0 0) (v := .agg [.d (.int .i64 o.does), .d (.str o.a), .d (.str []), .d (.int .i64 0), .d (.int .i64 o.n), .ts []]) rfl (by kernel_rfl) rfl (by kernel_rfl)
  · rw [if_neg (fun h => h.elim h7 h8), if_neg (fun h => h.elim h8 h9), if_neg h7]
    simp (maxSteps := 1000000) (disch := first | assumption | omega | rfl) only [↓vmp, vme, vmb, ty, hP, dec_t, dec_f, wrap64, List.length_map, Int.toNat_natCast, Nat.reduceAdd, List.cons_append, List.nil_append, Option.map_some, Option.map_none, strOf_mk, sb_eql, sb_neq, vmg, ↓vgd, ↓vst, ↓vix, bd33, st9_1, st9_2, st23_5, dec_True]
    exact retQ_cell (u := .ref 1 0 0) (v := .agg [.d (.int .i64 o.does), .d (.str o.a), .d (.str []), .d (.int .i64 0), .d (.int .i64 0), .ts []]) rfl (by kernel_rfl) rfl (by kernel_rfl)
end Go.Proofs.YteapjcgeckpknaaDoor
end
/-! What counts of a call: the program's way. -/
section
set_option linter.unusedVariables false
set_option linter.unusedSimpArgs false
set_option maxRecDepth 100000
set_option maxHeartbeats 4000000
namespace Go.Proofs.YteapjcgeckpknaaDoor
open Go.Vm
theorem st23_5rs {n : Nat} {x0 x1 x2 x3 x4 x5 : V} : storeR Tryd.prog 23 5 (.rs 3 0 n) (.agg [x0, x1, x2, x3, x4, x5]) = some (.agg [x0, x1, x2, x3, x4, .rs 3 0 n]) := by kernel_rfl
theorem bs0_23 {S : Store} {T : List V} {dst : Option Tmp} {ty : TypeId} {pos : String} {after : Array Edge} {g : Option (Nat × Bool)} : opV Tryd.prog S T ⟨dst, .buildSlice 23 0 #[], ty, pos, after, g⟩ = some (.val (.ts []) S 0) := by kernel_rfl
theorem st23_5ts {x0 x1 x2 x3 x4 x5 : V} : storeR Tryd.prog 23 5 (.ts []) (.agg [x0, x1, x2, x3, x4, x5]) = some (.agg [x0, x1, x2, x3, x4, .ts []]) := by kernel_rfl
theorem frz_agg6 {S : Store} {x0 x1 x2 x3 x4 y : D} {v : V} (h : Go.Vm.frz S 11 v = some y) (h0 : [x0, x1, x2, x3, x4, y].any D.isAgg = false) : Go.Vm.frz S frzFuel (.agg [.d x0, .d x1, .d x2, .d x3, .d x4, v]) = some (.agg [x0, x1, x2, x3, x4, y]) := by
  have hd : ∀ x, Go.Vm.frz S 11 (.d x) = some x := fun _ => rfl
  have hall : allO (Go.Vm.frz S 11) [.d x0, .d x1, .d x2, .d x3, .d x4, v] = some [x0, x1, x2, x3, x4, y] := by simp only [allO, hd, h]
  show (match allO (Go.Vm.frz S 11) [.d x0, .d x1, .d x2, .d x3, .d x4, v] with | some ds => if ds.any D.isAgg then (none : Option D) else some (D.agg ds) | none => none) = _
  rw [hall]
  simp only [h0]
  rfl
theorem app_nil {S : Store} : appendV Tryd.prog S 23 23 (.ts []) (.d (encB [])) = some (.ts [], S, 1) := by kernel_rfl
theorem app_new {r0 r1 r2 : Ob} {b : List UInt8} (h0 : b ≠ []) (hl : b.length ≤ 100000) : appendV Tryd.prog [r0, r1, r2] 23 23 (.ts []) (.d (encB b)) = some (.rs 3 0 b.length, [r0, r1, r2, .row (b.map fun a => .d (encU a)) 5], 2) := by
  have hall : ((b.map encU).map V.d).all (fitsT Tryd.prog 5) = true := by
    rw [List.all_eq_true]
    intro y hy
    obtain ⟨z, hz, rfl⟩ := List.mem_map.1 hy
    obtain ⟨a, _, rfl⟩ := List.mem_map.1 hz
    exact fitsT5 _
  have src : srcV Tryd.prog [r0, r1, r2] 5 23 (.d (encB b)) = some ((b.map encU).map V.d) := by
    unfold encB
    simp only [srcV, Tryd.underlying23, elemsV, hall, nil5, Bool.and_self, if_true]
  cases b with
  | nil => exact absurd rfl h0
  | cons a r =>
    have src1 : srcV Tryd.prog [r0, r1, r2] 5 23 (.d (encB (a :: r))) = some (.d (encU a) :: (r.map encU).map .d) := src
    have hl2 : ((r.map encU).map V.d).length = r.length := by simp
    have hr : room Tryd.prog 5 (r.length + 1) = true := room23 (by simp at hl; omega)
    simp only [appendV, Tryd.underlying23, src1, zOk23, if_true, List.all_nil, List.length_nil, hr, Bool.and_self, List.map_nil, List.nil_append, List.length_cons, List.length_nil, List.cons_append, List.map_cons, List.map_map, Function.comp_def, Nat.zero_add, List.length_map, Bool.and_true]
theorem plain_ok (o : Opn) (hl : o.data.length ≤ 100000) : Ev cfg 35 [encOpn o] (.ret (.d (encOpn (plainO o)))) := by
  refine ev_of rfl rfl body35 ?_
  show Wp cfg (Tryd.f35.body.getD .skip) ((.d (encOpn o)) :: (.tup []) :: (.tup []) :: (.tup []) :: (.tup []) :: (.tup []) :: (.tup []) :: (.tup []) :: (.tup []) :: (.tup []) :: (.tup []) :: (.tup []) :: (.tup []) :: (.tup []) :: (.tup []) :: (.tup []) :: (.tup []) :: (.tup []) :: (.tup []) :: (.tup []) :: (.tup []) :: (.tup []) :: (.tup []) :: (.tup []) :: (.tup []) :: (.tup []) :: (.tup []) :: (.tup []) :: (.tup []) :: (.tup []) :: (.tup []) :: (.tup []) :: (.tup []) :: (.tup []) :: (.tup []) :: (.tup []) :: (.tup []) :: (.tup []) :: (.tup []) :: (.tup []) :: (.tup []) :: (.tup []) :: []) [] [] _
  conv => arg 2; whnf
  have fa := fitsT9 o.a
  have fb := fitsT9 o.b
  have fd : fitsT Tryd.prog 23 (.d (encB o.data)) = true := by kernel_rfl
  unfold plainO
  by_cases h13 : o.does = 13
  · have h3 : ¬ o.does = 3 := by omega
    have h6 : ¬ o.does = 6 := by omega
    have h7 : ¬ o.does = 7 := by omega
    have h8 : ¬ o.does = 8 := by omega
    have h9 : ¬ o.does = 9 := by omega
    rw [if_pos h13, if_neg (fun h => h.elim h3 h6), if_neg (fun h => h.elim h7 h8), if_neg (fun h => h.elim h8 h9), if_neg h7]
    simp (maxSteps := 1000000) (disch := first | assumption | omega | rfl) only [↓vmp, vme, vmb, ty, hP, dec_t, dec_f, wrap64, List.length_map, Int.toNat_natCast, Nat.reduceAdd, List.cons_append, List.nil_append, Option.map_some, Option.map_none, strOf_mk, sb_eql, sb_neq, vmg, ↓vgd, ↓vst, ↓vix, bd25, st9_1, st9_2, st23_5, dec_True]
    exact retQ_cell (u := .ref 1 0 0) (v := .agg [.d (.int .i64 o.does), .d (.str []), .d (.str []), .d (.int .i64 0), .d (.int .i64 0), .ts []]) rfl (by kernel_rfl) rfl (by kernel_rfl)
  rw [if_neg h13]
  by_cases h3 : o.does = 3
  · have h6 : ¬ o.does = 6 := by omega
    have h7 : ¬ o.does = 7 := by omega
    have h8 : ¬ o.does = 8 := by omega
    have h9 : ¬ o.does = 9 := by omega
    rw [if_pos (.inl h3), if_neg (fun h => h.elim h7 h8), if_neg (fun h => h.elim h8 h9), if_neg h7]
    simp (maxSteps := 1000000) (disch := first | assumption | omega | rfl) only [↓vmp, vme, vmb, ty, hP, dec_t, dec_f, wrap64, List.length_map, Int.toNat_natCast, Nat.reduceAdd, List.cons_append, List.nil_append, Option.map_some, Option.map_none, strOf_mk, sb_eql, sb_neq, vmg, ↓vgd, ↓vst, ↓vix, bd25, st9_1, st9_2, st23_5, dec_True]
    exact retQ_cell (u := .ref 1 0 0) (v := .agg [.d (.int .i64 o.does), .d (.str o.a), .d (.str o.b), .d (.int .i64 0), .d (.int .i64 0), .ts []]) rfl (by kernel_rfl) rfl (by kernel_rfl)
  by_cases h6 : o.does = 6
  · have h7 : ¬ o.does = 7 := by omega
    have h8 : ¬ o.does = 8 := by omega
    have h9 : ¬ o.does = 9 := by omega
    rw [if_pos (.inr h6), if_neg (fun h => h.elim h7 h8), if_neg (fun h => h.elim h8 h9), if_neg h7]
    simp (maxSteps := 1000000) (disch := first | assumption | omega | rfl) only [↓vmp, vme, vmb, ty, hP, dec_t, dec_f, wrap64, List.length_map, Int.toNat_natCast, Nat.reduceAdd, List.cons_append, List.nil_append, Option.map_some, Option.map_none, strOf_mk, sb_eql, sb_neq, vmg, ↓vgd, ↓vst, ↓vix, bd25, st9_1, st9_2, st23_5, dec_True]
    exact retQ_cell (u := .ref 1 0 0) (v := .agg [.d (.int .i64 o.does), .d (.str o.a), .d (.str o.b), .d (.int .i64 0), .d (.int .i64 0), .ts []]) rfl (by kernel_rfl) rfl (by kernel_rfl)
  rw [if_neg (fun h => h.elim h3 h6)]
  by_cases h7 : o.does = 7
  · have h8 : ¬ o.does = 8 := by omega
    have h9 : ¬ o.does = 9 := by omega
    rw [if_pos (.inl h7), if_neg (fun h => h.elim h8 h9), if_pos h7]
    by_cases hd : o.data = []
    · rw [hd]
      have hn := fun S => app_nil (S := S)
      have he : encB o.data = encB [] := by rw [hd]
      simp (maxSteps := 1000000) (disch := first | assumption | omega | rfl) only [↓vmp, vme, vmb, ty, hP, dec_t, dec_f, wrap64, List.length_map, Int.toNat_natCast, Nat.reduceAdd, List.cons_append, List.nil_append, Option.map_some, Option.map_none, strOf_mk, sb_eql, sb_neq, vmg, ↓vgd, ↓vst, ↓vix, ↓vbs, bd25, st9_1, st9_2, st23_5ts, bs0_23, he, hn, dec_True]
      exact retQ_cell (u := .ref 1 0 0) (v := .agg [.d (.int .i64 o.does), .d (.str o.a), .d (.str []), .d (.int .i64 o.off), .d (.int .i64 0), .ts []]) rfl (by kernel_rfl) rfl (by kernel_rfl)
    · have hn := fun r0 r1 r2 => app_new (r0 := r0) (r1 := r1) (r2 := r2) hd hl
      simp (maxSteps := 1000000) (disch := first | assumption | omega | rfl) only [↓vmp, vme, vmb, ty, hP, dec_t, dec_f, wrap64, List.length_map, Int.toNat_natCast, Nat.reduceAdd, List.cons_append, List.nil_append, Option.map_some, Option.map_none, strOf_mk, sb_eql, sb_neq, vmg, ↓vgd, ↓vst, ↓vix, ↓vbs, bd25, st9_1, st9_2, st23_5rs, bs0_23, hn, dec_True]
      refine retQ_cell (u := .ref 1 0 0) (v := .agg [.d (.int .i64 o.does), .d (.str o.a), .d (.str []), .d (.int .i64 o.off), .d (.int .i64 0), .rs 3 0 o.data.length]) rfl (by kernel_rfl) rfl ?_
      exact frz_agg6 (SlE.frz (enc := encU) (xs := o.data) (e := 5) (.inr ⟨3, [], rfl, by simp⟩)) rfl
  by_cases h8 : o.does = 8
  · have h9 : ¬ o.does = 9 := by omega
    rw [if_pos (.inr h8), if_pos (.inl h8), if_neg h7]
    simp (maxSteps := 1000000) (disch := first | assumption | omega | rfl) only [↓vmp, vme, vmb, ty, hP, dec_t, dec_f, wrap64, List.length_map, Int.toNat_natCast, Nat.reduceAdd, List.cons_append, List.nil_append, Option.map_some, Option.map_none, strOf_mk, sb_eql, sb_neq, vmg, ↓vgd, ↓vst, ↓vix, bd25, st9_1, st9_2, st23_5, dec_True]
    exact retQ_cell (u := .ref 1 0 0) (v := .agg [.d (.int .i64 o.does), .d (.str o.a), .d (.str []), .d (.int .i64 o.off), .d (.int .i64 o.n), .ts []]) rfl (by kernel_rfl) rfl (by kernel_rfl)
  by_cases h9 : o.does = 9
  · rw [if_neg (fun h => h.elim h7 h8), if_pos (.inr h9), if_neg h7]
    simp (maxSteps := 1000000) (disch := first | assumption | omega | rfl) only [↓vmp, vme, vmb, ty, hP, dec_t, dec_f, wrap64, List.length_map, Int.toNat_natCast, Nat.reduceAdd, List.cons_append, List.nil_append, Option.map_some, Option.map_none, strOf_mk, sb_eql, sb_neq, vmg, ↓vgd, ↓vst, ↓vix, bd25, st9_1, st9_2, st23_5, dec_True]
    exact retQ_cell (u := .ref 1 0 0) (v := .agg [.d (.int .i64 o.does), .d (.str o.a), .d (.str []), .d (.int .i64 0), .d (.int .i64 o.n), .ts []]) rfl (by kernel_rfl) rfl (by kernel_rfl)
  · rw [if_neg (fun h => h.elim h7 h8), if_neg (fun h => h.elim h8 h9), if_neg h7]
    simp (maxSteps := 1000000) (disch := first | assumption | omega | rfl) only [↓vmp, vme, vmb, ty, hP, dec_t, dec_f, wrap64, List.length_map, Int.toNat_natCast, Nat.reduceAdd, List.cons_append, List.nil_append, Option.map_some, Option.map_none, strOf_mk, sb_eql, sb_neq, vmg, ↓vgd, ↓vst, ↓vix, bd25, st9_1, st9_2, st23_5, dec_True]
    exact retQ_cell (u := .ref 1 0 0) (v := .agg [.d (.int .i64 o.does), .d (.str o.a), .d (.str []), .d (.int .i64 0), .d (.int .i64 0), .ts []]) rfl (by kernel_rfl) rfl (by kernel_rfl)
end Go.Proofs.YteapjcgeckpknaaDoor
end
/-! What counts of a step, both ways. -/
section
set_option linter.unusedVariables false
set_option linter.unusedSimpArgs false
set_option maxRecDepth 100000
set_option maxHeartbeats 4000000
namespace Go.Proofs.YteapjcgeckpknaaDoor
open Go.Vm
def noOpn : Opn := ⟨0, [], [], 0, 0, []⟩
def plainS (s : Step) : Step := ⟨s.does, if s.does = 0 then plainO s.o else noOpn, if s.does = 1 then s.w else 0, if s.does = 2 then s.n else 0⟩
theorem st26_7 {w : Int} {x0 x1 x2 x3 x4 x5 x6 x7 x8 : V} : storeR Tryd.prog 26 7 (.d (.int .u64 w)) (.agg [x0, x1, x2, x3, x4, x5, x6, x7, x8]) = some (.agg [x0, x1, x2, x3, x4, x5, x6, .d (.int .u64 w), x8]) := by kernel_rfl
theorem bd28 {n : Int} : buildV Tryd.prog 28 [(0, .d (.int .i64 n))] = some (.agg [.d (.int .i64 n), .d (.int .i64 0), .d (.str []), .d (.str []), .d (.int .i64 0), .d (.int .i64 0), .ts [], .d (.int .u64 0), .d (.int .i64 0)]) := by kernel_rfl
theorem bd35 {n : Int} : buildV Tryd.prog 35 [(0, .d (.int .i64 n))] = some (.agg [.d (.int .i64 n), .d (.int .i64 0), .d (.str []), .d (.str []), .d (.int .i64 0), .d (.int .i64 0), .ts [], .d (.int .u64 0), .d (.int .i64 0)]) := by kernel_rfl
section
variable {ops : Array Oper} {dst : Option Tmp} {k : List Oper} {T : List V} {S : Store} {F : Dfs} {Q : Post}
theorem call_plainA {o : Opn} (h : o.data.length ≤ 100000) : WpR cfg ops dst k T S F Q (some (.enter 35 [.agg [.d (.int .i64 o.does), .d (.str o.a), .d (.str o.b), .d (.int .i64 o.off), .d (.int .i64 o.n), .d (encB o.data)]])) = WpL cfg ops k (putT T dst (.d (encOpn (plainO o)))) S F Q :=
  wr_call_v (ds := [encOpn o]) rfl rfl rfl (plain_ok o h)
theorem call_rplainA {o : Opn} : WpR cfg ops dst k T S F Q (some (.enter 27 [.agg [.d (.int .i64 o.does), .d (.str o.a), .d (.str o.b), .d (.int .i64 o.off), .d (.int .i64 o.n), .d (encB o.data)]])) = WpL cfg ops k (putT T dst (.d (encOpn (plainO o)))) S F Q :=
  wr_call_v (ds := [encOpn o]) rfl rfl rfl (rplain_ok o)
end
theorem plains_ok (s : Step) (hl : s.o.data.length ≤ 100000) : Ev cfg 17 [encStep s] (.ret (.d (encStep (plainS s)))) := by
  refine ev_of rfl rfl body17 ?_
  show Wp cfg (Tryd.f17.body.getD .skip) ((.d (encStep s)) :: (.tup []) :: (.tup []) :: (.tup []) :: (.tup []) :: (.tup []) :: (.tup []) :: (.tup []) :: (.tup []) :: (.tup []) :: (.tup []) :: (.tup []) :: (.tup []) :: (.tup []) :: (.tup []) :: (.tup []) :: (.tup []) :: (.tup []) :: (.tup []) :: (.tup []) :: (.tup []) :: (.tup []) :: (.tup []) :: (.tup []) :: (.tup []) :: (.tup []) :: []) [] [] _
  conv => arg 2; whnf
  unfold plainS
  by_cases h0 : s.does = 0
  · have h1 : ¬ s.does = 1 := by omega
    have h2 : ¬ s.does = 2 := by omega
    rw [if_pos h0, if_neg h1, if_neg h2]
    simp (maxSteps := 1000000) (disch := first | assumption | omega | rfl) only [↓vmp, vme, vmb, ty, hP, dec_t, dec_f, wrap64, List.length_map, Int.toNat_natCast, Nat.reduceAdd, List.cons_append, List.nil_append, Option.map_some, Option.map_none, strOf_mk, sb_eql, sb_neq, vmg, ↓vgd, ↓vst, ↓vix, bd28, call_plainA hl, bo35, dec_True]
    exact retQ_cell (u := .ref 1 0 0) (v := .agg [.d (.int .i64 s.does), .d (.int .i64 (plainO s.o).does), .d (.str (plainO s.o).a), .d (.str (plainO s.o).b), .d (.int .i64 (plainO s.o).off), .d (.int .i64 (plainO s.o).n), .d (encB (plainO s.o).data), .d (.int .u64 0), .d (.int .i64 0)]) rfl (by kernel_rfl) rfl (by kernel_rfl)
  rw [if_neg h0]
  by_cases h1 : s.does = 1
  · have h2 : ¬ s.does = 2 := by omega
    rw [if_pos h1, if_neg h2]
    simp (maxSteps := 1000000) (disch := first | assumption | omega | rfl) only [↓vmp, vme, vmb, ty, hP, dec_t, dec_f, wrap64, List.length_map, Int.toNat_natCast, Nat.reduceAdd, List.cons_append, List.nil_append, Option.map_some, Option.map_none, strOf_mk, sb_eql, sb_neq, vmg, ↓vgd, ↓vst, ↓vix, bd28, st26_7, dec_True]
    exact retQ_cell (u := .ref 1 0 0) (v := .agg [.d (.int .i64 s.does), .d (.int .i64 0), .d (.str []), .d (.str []), .d (.int .i64 0), .d (.int .i64 0), .ts [], .d (.int .u64 s.w), .d (.int .i64 0)]) rfl (by kernel_rfl) rfl (by kernel_rfl)
  rw [if_neg h1]
  by_cases h2 : s.does = 2
  · rw [if_pos h2]
    simp (maxSteps := 1000000) (disch := first | assumption | omega | rfl) only [↓vmp, vme, vmb, ty, hP, dec_t, dec_f, wrap64, List.length_map, Int.toNat_natCast, Nat.reduceAdd, List.cons_append, List.nil_append, Option.map_some, Option.map_none, strOf_mk, sb_eql, sb_neq, vmg, ↓vgd, ↓vst, ↓vix, bd28, dec_True]
    exact retQ_cell (u := .ref 1 0 0) (v := .agg [.d (.int .i64 s.does), .d (.int .i64 0), .d (.str []), .d (.str []), .d (.int .i64 0), .d (.int .i64 0), .ts [], .d (.int .u64 0), .d (.int .i64 s.n)]) rfl (by kernel_rfl) rfl (by kernel_rfl)
  · rw [if_neg h2]
    simp (maxSteps := 1000000) (disch := first | assumption | omega | rfl) only [↓vmp, vme, vmb, ty, hP, dec_t, dec_f, wrap64, List.length_map, Int.toNat_natCast, Nat.reduceAdd, List.cons_append, List.nil_append, Option.map_some, Option.map_none, strOf_mk, sb_eql, sb_neq, vmg, ↓vgd, ↓vst, ↓vix, bd28, dec_True]
    exact retQ_cell (u := .ref 1 0 0) (v := .agg [.d (.int .i64 s.does), .d (.int .i64 0), .d (.str []), .d (.str []), .d (.int .i64 0), .d (.int .i64 0), .ts [], .d (.int .u64 0), .d (.int .i64 0)]) rfl (by kernel_rfl) rfl (by kernel_rfl)
theorem rplains_ok (s : Step) : Ev cfg 12 [encStep s] (.ret (.d (encStep (plainS s)))) := by
  refine ev_of rfl rfl body12 ?_
  show Wp cfg (Tryd.f12.body.getD .skip) ((.d (encStep s)) :: (.tup []) :: (.tup []) :: (.tup []) :: (.tup []) :: (.tup []) :: (.tup []) :: (.tup []) :: (.tup []) :: (.tup []) :: (.tup []) :: (.tup []) :: (.tup []) :: (.tup []) :: (.tup []) :: (.tup []) :: (.tup []) :: (.tup []) :: (.tup []) :: (.tup []) :: (.tup []) :: (.tup []) :: (.tup []) :: (.tup []) :: (.tup []) :: (.tup []) :: (.tup []) :: []) [] [] _
  conv => arg 2; whnf
  unfold plainS
  by_cases h0 : s.does = 0
  · have h1 : ¬ s.does = 1 := by omega
    have h2 : ¬ s.does = 2 := by omega
    rw [if_pos h0, if_neg h1, if_neg h2]
    simp (maxSteps := 1000000) (disch := first | assumption | omega | rfl) only [↓vmp, vme, vmb, ty, hP, dec_t, dec_f, wrap64, List.length_map, Int.toNat_natCast, Nat.reduceAdd, List.cons_append, List.nil_append, Option.map_some, Option.map_none, strOf_mk, sb_eql, sb_neq, vmg, ↓vgd, ↓vst, ↓vix, bd35, call_rplainA, bo27, dec_True]
    exact retQ_cell (u := .ref 1 0 0) (v := .agg [.d (.int .i64 s.does), .d (.int .i64 (plainO s.o).does), .d (.str (plainO s.o).a), .d (.str (plainO s.o).b), .d (.int .i64 (plainO s.o).off), .d (.int .i64 (plainO s.o).n), .d (encB (plainO s.o).data), .d (.int .u64 0), .d (.int .i64 0)]) rfl (by kernel_rfl) rfl (by kernel_rfl)
  rw [if_neg h0]
  by_cases h1 : s.does = 1
  · have h2 : ¬ s.does = 2 := by omega
    rw [if_pos h1, if_neg h2]
    simp (maxSteps := 1000000) (disch := first | assumption | omega | rfl) only [↓vmp, vme, vmb, ty, hP, dec_t, dec_f, wrap64, List.length_map, Int.toNat_natCast, Nat.reduceAdd, List.cons_append, List.nil_append, Option.map_some, Option.map_none, strOf_mk, sb_eql, sb_neq, vmg, ↓vgd, ↓vst, ↓vix, bd35, st26_7, dec_True]
    exact retQ_cell (u := .ref 1 0 0) (v := .agg [.d (.int .i64 s.does), .d (.int .i64 0), .d (.str []), .d (.str []), .d (.int .i64 0), .d (.int .i64 0), .ts [], .d (.int .u64 s.w), .d (.int .i64 0)]) rfl (by kernel_rfl) rfl (by kernel_rfl)
  rw [if_neg h1]
  by_cases h2 : s.does = 2
  · rw [if_pos h2]
    simp (maxSteps := 1000000) (disch := first | assumption | omega | rfl) only [↓vmp, vme, vmb, ty, hP, dec_t, dec_f, wrap64, List.length_map, Int.toNat_natCast, Nat.reduceAdd, List.cons_append, List.nil_append, Option.map_some, Option.map_none, strOf_mk, sb_eql, sb_neq, vmg, ↓vgd, ↓vst, ↓vix, bd35, dec_True]
    exact retQ_cell (u := .ref 1 0 0) (v := .agg [.d (.int .i64 s.does), .d (.int .i64 0), .d (.str []), .d (.str []), .d (.int .i64 0), .d (.int .i64 0), .ts [], .d (.int .u64 0), .d (.int .i64 s.n)]) rfl (by kernel_rfl) rfl (by kernel_rfl)
  · rw [if_neg h2]
    simp (maxSteps := 1000000) (disch := first | assumption | omega | rfl) only [↓vmp, vme, vmb, ty, hP, dec_t, dec_f, wrap64, List.length_map, Int.toNat_natCast, Nat.reduceAdd, List.cons_append, List.nil_append, Option.map_some, Option.map_none, strOf_mk, sb_eql, sb_neq, vmg, ↓vgd, ↓vst, ↓vix, bd35, dec_True]
    exact retQ_cell (u := .ref 1 0 0) (v := .agg [.d (.int .i64 s.does), .d (.int .i64 0), .d (.str []), .d (.str []), .d (.int .i64 0), .d (.int .i64 0), .ts [], .d (.int .u64 0), .d (.int .i64 0)]) rfl (by kernel_rfl) rfl (by kernel_rfl)
end Go.Proofs.YteapjcgeckpknaaDoor
end
/-! Bytes that are the same; calls that are alike, steps that are the same, the document's way. -/
section
set_option linter.unusedVariables false
set_option linter.unusedSimpArgs false
set_option maxRecDepth 100000
set_option maxHeartbeats 4000000
namespace Go.Proofs.YteapjcgeckpknaaDoor
open Go.Vm
theorem same01_l (a b : List UInt8) (hl : a.length ≤ 1000000) (he : a.length = b.length) (R : Post) (x4 : V) : ∀ (k i : Nat) (g2 g3 g6 g7 g8 g9 g10 g11 g12 g13 g14 g15 g16 g17 g18 g19 g20 g21 g22 g23 g24 g25 : V), a.length - i = k → i ≤ a.length →
   (a.drop i = b.drop i → ∀ i' g2 g3 g6 g7 g8 g9 g10 g11 g12 g13 g14 g15 g16 g17 g18 g19 g20 g21 g22 g23 g24 g25, R (.exit 0) ((.d (encB a)) :: (.d (encB b)) :: g2 :: g3 :: x4 :: i' :: g6 :: g7 :: g8 :: g9 :: g10 :: g11 :: g12 :: g13 :: g14 :: g15 :: g16 :: g17 :: g18 :: g19 :: g20 :: g21 :: g22 :: g23 :: g24 :: g25 :: []) [] []) →
   (a.drop i ≠ b.drop i → ∀ i' g2 g3 g6 g7 g8 g9 g10 g11 g12 g13 g14 g15 g16 g17 g18 g19 g20 g21 g22 g23 g24 g25, R .ret ((.d (encB a)) :: (.d (encB b)) :: g2 :: g3 :: (.d (.bool false)) :: i' :: g6 :: g7 :: g8 :: g9 :: g10 :: g11 :: g12 :: g13 :: g14 :: g15 :: g16 :: g17 :: g18 :: g19 :: g20 :: g21 :: g22 :: g23 :: g24 :: g25 :: []) [] []) →
   Wp cfg (.loop (lpOf (Tryd.f46.body.getD .skip) 0)) ((.d (encB a)) :: (.d (encB b)) :: g2 :: g3 :: x4 :: (.d (.int .i64 (i : Int))) :: g6 :: g7 :: g8 :: g9 :: g10 :: g11 :: g12 :: g13 :: g14 :: g15 :: g16 :: g17 :: g18 :: g19 :: g20 :: g21 :: g22 :: g23 :: g24 :: g25 :: []) [] [] R := by
  intro k
  induction k with
  | zero =>
    intro i g2 g3 g6 g7 g8 g9 g10 g11 g12 g13 g14 g15 g16 g17 g18 g19 g20 g21 g22 g23 g24 g25 hk hi hE hR
    have hie : i = a.length := by omega
    have hd : a.drop i = b.drop i := by rw [hie, List.drop_length, he, List.drop_length]
    rw [wk_of]
    refine wk_loop ?_
    conv => arg 2; whnf
    simp (maxSteps := 1000000) (disch := first | assumption | omega | rfl) only [↓vmp, vme, vmb, ty, hP, dec_t, dec_f, wrap64, List.length_map, Int.toNat_natCast, Nat.reduceAdd, List.cons_append, List.nil_append, Option.map_some, Option.map_none, strOf_mk, sb_eql, sb_neq, vmg, ↓vgd, ↓vst, ↓vix, encB]
    exact hE hd _ _ _ _ _ _ _ _ _ _ _ _ _ _ _ _ _ _ _ _ _ _ _
  | succ k ih =>
    intro i g2 g3 g6 g7 g8 g9 g10 g11 g12 g13 g14 g15 g16 g17 g18 g19 g20 g21 g22 g23 g24 g25 hk hi hE hR
    have hlt : i < a.length := by omega
    have hlt' : i < b.length := by omega
    have hix := fun S => ix23 (S := S) hlt
    have hiy := fun S => ix23 (S := S) hlt'
    rw [List.drop_eq_getElem_cons hlt, List.drop_eq_getElem_cons hlt'] at hE hR
    have hxy : ((a[i].toNat : Int) = (b[i].toNat : Int)) ↔ a[i] = b[i] := ⟨fun h => UInt8.toNat_inj.1 (by omega), fun h => by rw [h]⟩
    rw [wk_of]
    refine wk_loop ?_
    conv => arg 2; whnf
    by_cases hc : a[i] = b[i]
    · have hc' := hxy.2 hc
      rw [hc] at hE hR hix
      simp (maxSteps := 1000000) (disch := first | assumption | omega | rfl) only [↓vmp, vme, vmb, ty, hP, dec_t, dec_f, wrap64, List.length_map, Int.toNat_natCast, Nat.reduceAdd, List.cons_append, List.nil_append, Option.map_some, Option.map_none, strOf_mk, sb_eql, sb_neq, vmg, ↓vgd, ↓vst, ↓vix, encB]
      refine wk_draw (is := [0, 1, 2, 3, 4, 5, 6, 7, 8]) (h := 0) (by kernel_rfl) (by kernel_rfl) ?_
      simp (maxSteps := 1000000) (disch := first | assumption | omega | rfl) only [List.replicate_zero, eq_self, vmd, vmk, vmo, vmg, vme, vmb, ty, hP, dec_t, dec_f, wrap64, List.length_map, Int.toNat_natCast, Nat.reduceAdd, ↓vgd, ↓vst, ↓vix, List.append_nil, hix, hiy, dne]
      refine ⟨by kernel_rfl, ?_⟩
      simp (maxSteps := 1000000) (disch := first | assumption | omega | rfl) only [↓vmp, vme, vmb, ty, hP, dec_t, dec_f, wrap64, List.length_map, Int.toNat_natCast, Nat.reduceAdd, List.cons_append, List.nil_append, Option.map_some, Option.map_none, strOf_mk, sb_eql, sb_neq, vmg, ↓vgd, ↓vst, ↓vix, dne]
      exact ih (i + 1) _ _ _ _ _ _ _ _ _ _ _ _ _ _ _ _ _ _ _ _ _ _ (by omega) (by omega) (fun h => hE (by rw [h])) (fun h => hR (fun hh => h (List.cons.inj hh).2))
    · have hc' : ¬ ((a[i].toNat : Int) = (b[i].toNat : Int)) := fun h => hc (hxy.1 h)
      have hc2 : ((a[i].toNat : Int) ≠ (b[i].toNat : Int)) := hc'
      simp (maxSteps := 1000000) (disch := first | assumption | omega | rfl) only [↓vmp, vme, vmb, ty, hP, dec_t, dec_f, wrap64, List.length_map, Int.toNat_natCast, Nat.reduceAdd, List.cons_append, List.nil_append, Option.map_some, Option.map_none, strOf_mk, sb_eql, sb_neq, vmg, ↓vgd, ↓vst, ↓vix, encB]
      refine wk_draw (is := [0, 1, 2, 3, 4, 5, 6, 7, 8]) (h := 0) (by kernel_rfl) (by kernel_rfl) ?_
      simp (maxSteps := 1000000) (disch := first | assumption | omega | rfl) only [List.replicate_zero, eq_self, vmd, vmk, vmo, vmg, vme, vmb, ty, hP, dec_t, dec_f, wrap64, List.length_map, Int.toNat_natCast, Nat.reduceAdd, ↓vgd, ↓vst, ↓vix, List.append_nil, hix, hiy]
      refine ⟨by kernel_rfl, ?_⟩
      simp (maxSteps := 1000000) (disch := first | assumption | omega | rfl) only [↓vmp, vme, vmb, ty, hP, dec_t, dec_f, wrap64, List.length_map, Int.toNat_natCast, Nat.reduceAdd, List.cons_append, List.nil_append, Option.map_some, Option.map_none, strOf_mk, sb_eql, sb_neq, vmg, ↓vgd, ↓vst, ↓vix]
      exact hR (fun hh => hc (List.cons.inj hh).1) _ _ _ _ _ _ _ _ _ _ _ _ _ _ _ _ _ _ _ _ _ _ _
theorem same01_ok (a b : List UInt8) (hl : a.length ≤ 1000000) (hl' : b.length ≤ 1000000) : Ev cfg 46 [encB a, encB b] (.ret (.d (.bool (decide (a = b))))) := by
  refine ev_of rfl rfl body46 ?_
  show Wp cfg (Tryd.f46.body.getD .skip) ((.d (encB a)) :: (.d (encB b)) :: (.tup []) :: (.tup []) :: (.tup []) :: (.tup []) :: (.tup []) :: (.tup []) :: (.tup []) :: (.tup []) :: (.tup []) :: (.tup []) :: (.tup []) :: (.tup []) :: (.tup []) :: (.tup []) :: (.tup []) :: (.tup []) :: (.tup []) :: (.tup []) :: (.tup []) :: (.tup []) :: (.tup []) :: (.tup []) :: (.tup []) :: (.tup []) :: []) [] [] _
  conv => arg 2; whnf
  by_cases he : (a.length : Int) = (b.length : Int)
  · generalize hp : decide (a = b) = p
    simp (maxSteps := 1000000) (disch := first | assumption | omega | rfl) only [↓vmp, vme, vmb, ty, hP, dec_t, dec_f, wrap64, List.length_map, Int.toNat_natCast, Nat.reduceAdd, List.cons_append, List.nil_append, Option.map_some, Option.map_none, strOf_mk, sb_eql, sb_neq, vmg, ↓vgd, ↓vst, ↓vix, encB, dne, dec_True]
    refine same01_l a b hl (by omega) _ _ a.length 0 _ _ _ _ _ _ _ _ _ _ _ _ _ _ _ _ _ _ _ _ _ _ rfl (Nat.zero_le _) ?_ ?_
    · intro h i' g2 g3 g6 g7 g8 g9 g10 g11 g12 g13 g14 g15 g16 g17 g18 g19 g20 g21 g22 g23 g24 g25
      have hp : p = true := by rw [← hp]; exact decide_eq_true h
      subst hp
      simp (maxSteps := 1000000) (disch := first | assumption | omega | rfl) only [↓vmp, vme, vmb, ty, hP, dec_t, dec_f, wrap64, List.length_map, Int.toNat_natCast, Nat.reduceAdd, List.cons_append, List.nil_append, Option.map_some, Option.map_none, strOf_mk, sb_eql, sb_neq, vmg, ↓vgd, ↓vst, ↓vix]
      exact retQ_one rfl rfl rfl
    · intro h i' g2 g3 g6 g7 g8 g9 g10 g11 g12 g13 g14 g15 g16 g17 g18 g19 g20 g21 g22 g23 g24 g25
      have hp : p = false := by rw [← hp]; exact decide_eq_false h
      subst hp
      simp (maxSteps := 1000000) (disch := first | assumption | omega | rfl) only [↓vmp, vme, vmb, ty, hP, dec_t, dec_f, wrap64, List.length_map, Int.toNat_natCast, Nat.reduceAdd, List.cons_append, List.nil_append, Option.map_some, Option.map_none, strOf_mk, sb_eql, sb_neq, vmg, ↓vgd, ↓vst, ↓vix]
      exact retQ_one rfl rfl rfl
  · have hne : decide (a = b) = false := decide_eq_false (fun h => he (by rw [h]))
    have he' : (a.length : Int) ≠ (b.length : Int) := he
    rw [hne]
    simp (maxSteps := 1000000) (disch := first | assumption | omega | rfl) only [↓vmp, vme, vmb, ty, hP, dec_t, dec_f, wrap64, List.length_map, Int.toNat_natCast, Nat.reduceAdd, List.cons_append, List.nil_append, Option.map_some, Option.map_none, strOf_mk, sb_eql, sb_neq, vmg, ↓vgd, ↓vst, ↓vix, encB]
    exact retQ_one rfl rfl rfl
end Go.Proofs.YteapjcgeckpknaaDoor
end
