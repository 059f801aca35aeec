/- Functions of Go's library as calls apart: what they answer, by the kit's shelf. -/
import Derived.Stop.LaidErr
import Derived.Test.YteapjcgeckpknaaDoorRows
import Derived.ProofKit
import Derived.LaidMore
import Derived.Lib.LaidTab
import Derived.MakeChecks
import Derived.Lay
import Derived.Shelf.Vars
import Derived.Handed
import Derived.Test.YteapjcgeckpknaaDoorProg
import Derived.Test.YteapjcgeckpknaaDoorJ06
/-! Functions of Go's library as calls apart: what they answer, by the kit's shelf. -/
section
set_option linter.unusedVariables false
set_option linter.unusedSimpArgs false
set_option maxRecDepth 100000
namespace Go.Proofs.YteapjcgeckpknaaDoor
open Go.Vm
def itoaX : List D → Option Out := fun ds => match ds with
  | [.int .i64 n] => if -9223372036854775808 ≤ n ∧ n ≤ 9223372036854775807 then some (.ret (.d (.str (Lib.itoa n)))) else Option.none
  | _ => Option.none
def strD : D → Option (List UInt8)
  | .str s => some s
  | _ => Option.none
def joinX : List D → Option Out := fun ds => match ds with
  | [.sl xs, .str sep] => match allO strD xs with
    | some l => if l.length ≤ 140737488355328 ∧ (Lib.join l sep).length ≤ 140737488355328 then some (.ret (.d (.str (Lib.join l sep)))) else Option.none
    | Option.none => Option.none
  | _ => Option.none
theorem allO_str : ∀ {xs : List D} {l : List (List UInt8)}, allO strD xs = some l → xs = l.map .str
  | [], l, h => by cases h; rfl
  | x :: r, l, h => by
    unfold allO at h
    split at h
    · cases h
    · rename_i y hy
      split at h
      · cases h
      · rename_i ys hys
        cases h
        rw [List.map_cons, ← allO_str hys]
        unfold strD at hy
        split at hy
        · cases hy; rfl
        · cases hy
theorem var_ok {A : Nat → Prop} {w : World} (h : GlobOk Tryd.prog A w) {x : String × GDat} (hx : x ∈ globTabs) {g : Nat} (hg : Tryd.prog.globalNamed x.1 = some g) : ∃ c, w.var? Tryd.prog x.1 = some c ∧ x.2.Holds Tryd.prog A w c := by
  obtain ⟨_, c, t, m, h2, h3⟩ := h x hx g hg
  refine ⟨c, ?_, h3⟩
  unfold World.var?
  rw [hg]
  show (match w.heap[g]? with | some (.cells cs _ _) => some cs | _ => none) = _
  rw [h2]
theorem tab_ok {A : Nat → Prop} {w : World} (h : GlobOk Tryd.prog A w) : Lib.TabIs Tryd.prog w "internal/strconv.uint64pow10" .u64 Lib.pow10Tab := by
  obtain ⟨c, h1, h2⟩ := var_ok h (x := globTabs[0]) (List.getElem_mem (by decide)) (g := 5) (by kernel_rfl)
  have h2 : c = _ := h2
  subst h2
  have h1 : w.var? Tryd.prog "internal/strconv.uint64pow10" = _ := h1
  refine h1.trans ?_
  show some _ = some _
  kernel_rfl
theorem alloc_heap {w : World} {o : Obj} : (w.alloc o).heap = w.heap.push o := rfl
theorem iso_alloc {A : Nat → Prop} {w : World} {o : Obj} (hlt : ∀ b, A b → b < w.heap.size) : Iso A w (fun b => A b ∨ b = w.heap.size) (w.alloc o) :=
  ⟨rfl, rfl, rfl, by rw [alloc_heap, Array.size_push]; omega, fun b hb => by rw [alloc_heap, Array.getElem?_push, if_neg (by omega)], fun _ h => .inl h, fun b h => h.imp id (fun h => by omega), fun b h => by
    rw [alloc_heap, Array.size_push]
    rcases h with h | h
    · have := hlt b h; omega
    · omega⟩
theorem alloc_cell {w : World} {o : Obj} : (w.alloc o).heap[w.heap.size]? = some o := by rw [alloc_heap, Array.getElem?_push, if_pos rfl]
theorem max_ok {A : Nat → Prop} {w : World} (h : GlobOk Tryd.prog A w) : ∃ m, w.cell? ⟨0, 0, none⟩ = some (.int .i64 m) := by
  have hg : Tryd.prog.globalNamed (globTabs[1]).1 = some 0 := by kernel_rfl
  obtain ⟨c, h1, h2⟩ := var_ok h (x := globTabs[1]) (List.getElem_mem (by decide)) hg
  obtain ⟨m, h2⟩ : ∃ m, c = #[.int .i64 m] := h2
  subst h2
  exact ⟨m, (World.var?_cell hg h1 0).trans rfl⟩
theorem iso_of {A : Nat → Prop} {w w' : World} (hlt : ∀ b, A b → b < w.heap.size) (h : RowKit.Below w.heap.size w w') : Iso A w A w' :=
  ⟨h.os, h.tape, h.output, h.size, fun b hb => h.block b hb, fun _ h => h, fun _ h => .inl h, fun b hb => Nat.lt_of_lt_of_le (hlt b hb) h.size⟩
theorem itoaX_ok : ∀ ds o, itoaX ds = some o → ∃ o', o = OutD.out o' ∧ ∀ (A : Nat → Prop) (w : World) (us : Array Value), (∀ b, A b → b < w.heap.size) → GlobOk Tryd.prog A w → RepS A w ds us.toList → Calls Tryd.prog 58 us w (AnsPost A w o') := by
  intro ds o ho
  unfold itoaX at ho
  split at ho
  · rename_i n
    split at ho
    · rename_i hb
      cases ho
      refine ⟨.ret (.str (Lib.itoa n)), rfl, fun A w us hlt hgl hr => ?_⟩
      have hus : us = #[.int .i64 n] := by
        simp only [RepS, RepC, D.isAgg] at hr
        obtain ⟨v, us', h1, h2, h3⟩ := hr
        have h2 : v = .int .i64 n := by simpa using h2
        rw [h3, h2] at h1
        apply Array.toList_inj.1
        rw [h1]
      subst hus
      refine (Any.strconv_Itoa lays171 n hb.1 hb.2 w (tab_ok hgl)).mono fun e w' he => ?_
      obtain ⟨rfl, k, os, rfl⟩ := he
      refine ⟨A, ⟨rfl, rfl, rfl, by simp [Sort.grow, World.drewN], fun b hb => ?_, fun _ h => h, fun _ h => .inl h, fun b hb => ?_⟩, .inr ⟨rfl, rfl⟩⟩
      · simp [Sort.grow, World.drewN, Array.getElem?_append, hb]
      · have := hlt b hb
        simp [Sort.grow, World.drewN]; omega
    · cases ho
  · cases ho
theorem repE_str {A : Nat → Prop} {w : World} {k : Nat} : ∀ {l : List (List UInt8)} {us : List Value}, RepE A w k (l.map .str) us → us = l.map fun s => Value.string ⟨s.toArray⟩
  | [], us, h => by simpa [RepE] using h
  | s :: r, us, h => by
    simp only [List.map_cons, RepE] at h
    obtain ⟨u, ws, rfl, h1, h2, h3⟩ := h
    have h2 : u = [.string ⟨s.toArray⟩] := by simpa [RepC] using h2
    rw [h2, repE_str h3]
    rfl
theorem joinX_ok : ∀ ds o, joinX ds = some o → ∃ o', o = OutD.out o' ∧ ∀ (A : Nat → Prop) (w : World) (us : Array Value), (∀ b, A b → b < w.heap.size) → GlobOk Tryd.prog A w → RepS A w ds us.toList → Calls Tryd.prog 57 us w (AnsPost A w o') := by
  intro ds o ho
  unfold joinX at ho
  split at ho
  · rename_i xs sep
    split at ho
    · rename_i l hl
      split at ho
      · rename_i hb
        cases ho
        refine ⟨.ret (.str (Lib.join l sep)), rfl, fun A w us hlt hgl hr => ?_⟩
        have hx := allO_str hl
        subst hx
        have hjl : (l.map fun s => (⟨s.toArray⟩ : ByteArray)).map (·.data.toList) = l := by
          rw [List.map_map]
          exact (List.map_congr_left fun s _ => rfl).trans (List.map_id l)
        simp only [RepS, RepC, D.isAgg] at hr
        obtain ⟨v, us', h1, h2, v2, us2, h3, h4, h5⟩ := hr
        have h4 : v2 = .string ⟨sep.toArray⟩ := by simpa using h4
        have h2 : ∃ a cap, v = .slice a l.length cap ∧ l.length ≤ cap ∧ (l = [] ∨ ∃ ad k us, a = some ad ∧ ad.spot = none ∧ A ad.block ∧ CellsAt w ad.block ad.off us ∧ RepE A w k (l.map .str) us) := by simpa using h2
        obtain ⟨a, cap, h6, h7, h8⟩ := h2
        have hus : us = #[.slice a l.length cap, .string ⟨sep.toArray⟩] := by
          apply Array.toList_inj.1
          rw [h1, h3, h5, h4, h6]
        subst hus
        rcases h8 with h8 | ⟨ad, k, cs, h8, h9, h10, h11, h12⟩
        · subst h8
          refine (Any.strings_Join_none lays156 extraJ a cap _ w).mono fun e w' he => ?_
          obtain ⟨rfl, rfl⟩ := he
          exact ⟨A, iso_of hlt (RowKit.Below.refl _ _), .inr ⟨rfl, rfl⟩⟩
        · subst h8
          obtain ⟨bk, o, sp⟩ := ad
          simp only at h9 h10 h11
          subst h9
          have hcs := repE_str h12
          subst hcs
          obtain ⟨c, ety, fl, hh, hc⟩ := h11
          have hcell : ∀ (j : Nat) x, (l.map fun s => (⟨s.toArray⟩ : ByteArray))[j]? = some x → w.cell? ⟨bk, o + j, none⟩ = some (.string x) := fun j x hj => by
            have h13 : (l.map fun s => Value.string ⟨s.toArray⟩)[j]? = some (.string x) := by
              rw [List.getElem?_map] at hj ⊢
              obtain ⟨s, hs, rfl⟩ := Option.map_eq_some_iff.1 hj
              rw [hs]
              rfl
            have := hc j _ h13
            simp only [World.cell?, hh]
            exact this
          have hlen : (l.map fun s => (⟨s.toArray⟩ : ByteArray)).length = l.length := by simp
          have := Any.strings_Join lays156 extraJ bk o cap (l.map fun s => (⟨s.toArray⟩ : ByteArray)) ⟨sep.toArray⟩ w hcell (hlt _ h10) (by rw [hlen]; exact hb.1) (by rw [hlen]; exact h7) (by rw [hjl]; exact hb.2)
          rw [hjl, hlen] at this
          refine this.mono fun e w' he => ?_
          obtain ⟨rfl, hbl⟩ := he
          exact ⟨A, iso_of hlt hbl, .inr ⟨rfl, rfl⟩⟩
      · cases ho
    · cases ho
  · cases ho
theorem indexByteX_str {A : Nat → Prop} {w : World} {s : List UInt8} {v : Value} (h : RepC A w (.str s) [v]) : v = .string ⟨s.toArray⟩ := by
  simpa [RepC] using h
def indexByteX : List D → Option Out := fun ds => match ds with
  | [.str s, .int .u8 c] => if 0 ≤ c ∧ c ≤ 255 then some (.ret (.d (.int .i64 (Lib.indexByte s c.toNat.toUInt8)))) else Option.none
  | _ => Option.none
theorem indexByteX_ok : ∀ ds o, indexByteX ds = some o → ∃ o', o = OutD.out o' ∧ ∀ (A : Nat → Prop) (w : World) (us : Array Value), (∀ b, A b → b < w.heap.size) → GlobOk Tryd.prog A w → RepS A w ds us.toList → Calls Tryd.prog 38 us w (AnsPost A w o') := by
  intro ds o ho
  unfold indexByteX at ho
  split at ho
  · rename_i s c
    split at ho
    · cases ho
      refine ⟨.ret (.int .i64 (Lib.indexByte s c.toNat.toUInt8)), rfl, fun A w us hlt hgl hr => ?_⟩
      simp only [RepS, RepC, D.isAgg] at hr
      obtain ⟨v, us', h1, h2, v2, us2, h3, h4, h5⟩ := hr
      have h2 : v = .string ⟨s.toArray⟩ := by simpa using h2
      have h4 : v2 = .int .u8 c := by simpa using h4
      have hus : us = #[.string ⟨s.toArray⟩, .int .u8 c] := by
        apply Array.toList_inj.1
        rw [h1, h3, h5, h4, h2]
      subst hus
      refine (Any.strings_IndexByte lays137 ⟨s.toArray⟩ c w).mono fun e w' he => ?_
      obtain ⟨rfl, rfl⟩ := he
      exact ⟨A, iso_of hlt (RowKit.Below.refl _ _), .inr ⟨rfl, rfl⟩⟩
    · cases ho
  · cases ho
def splitL (s sep : List UInt8) : List (List UInt8) := (Lib.splitB ⟨sep.toArray⟩ 0 (Lib.countB ⟨s.toArray⟩ ⟨sep.toArray⟩) ⟨s.toArray⟩).map (·.data.toList)
def splitX : List D → Option Out := fun ds => match ds with
  | [.str s, .str sep] => if s.length < 4294967281 ∧ 1 ≤ sep.length then some (.ret (.d (.sl ((splitL s sep).map .str)))) else Option.none
  | _ => Option.none
theorem repE_mk {A : Nat → Prop} {w : World} : ∀ {l : List ByteArray}, RepE A w 1 ((l.map (·.data.toList)).map .str) (l.map Value.string)
  | [] => rfl
  | s :: r => by
    simp only [List.map_cons, RepE]
    exact ⟨[.string s], r.map Value.string, rfl, rfl, rfl, repE_mk⟩
theorem splitX_ok : ∀ ds o, splitX ds = some o → ∃ o', o = OutD.out o' ∧ ∀ (A : Nat → Prop) (w : World) (us : Array Value), (∀ b, A b → b < w.heap.size) → GlobOk Tryd.prog A w → RepS A w ds us.toList → Calls Tryd.prog 21 us w (AnsPost A w o') := by
  intro ds o ho
  unfold splitX at ho
  split at ho
  · rename_i s sep
    split at ho
    · rename_i hb
      cases ho
      refine ⟨.ret (.sl ((splitL s sep).map .str)), rfl, fun A w us hlt hgl hr => ?_⟩
      simp only [RepS, RepC, D.isAgg] at hr
      obtain ⟨v, us', h1, h2, v2, us2, h3, h4, h5⟩ := hr
      have h2 : v = .string ⟨s.toArray⟩ := by simpa using h2
      have h4 : v2 = .string ⟨sep.toArray⟩ := by simpa using h4
      have hus : us = #[.string ⟨s.toArray⟩, .string ⟨sep.toArray⟩] := by
        apply Array.toList_inj.1
        rw [h1, h3, h5, h4, h2]
      subst hus
      obtain ⟨m, hm⟩ := max_ok hgl
      have hl : (Lib.splitB ⟨sep.toArray⟩ 0 (Lib.countB ⟨s.toArray⟩ ⟨sep.toArray⟩) ⟨s.toArray⟩).length = Lib.countB ⟨s.toArray⟩ ⟨sep.toArray⟩ + 1 := Lib.splitB_all ⟨sep.toArray⟩ hb.2 0 _ ⟨s.toArray⟩ rfl
      refine (Any.strings_Split lays146 hi9 ⟨s.toArray⟩ ⟨sep.toArray⟩ m w hb.1 hm hb.2).mono fun e w' he => ?_
      obtain ⟨rfl, rfl⟩ := he
      unfold splitL
      generalize Lib.splitB ⟨sep.toArray⟩ 0 (Lib.countB ⟨s.toArray⟩ ⟨sep.toArray⟩) ⟨s.toArray⟩ = l at *
      rw [← hl]
      refine ⟨fun b => A b ∨ b = w.heap.size, iso_alloc hlt, .inr ⟨rfl, ?_⟩⟩
      simp only [RepC]
      exact ⟨some ⟨w.heap.size, 0, Option.none⟩, l.length, by simp, by simp, .inr ⟨⟨w.heap.size, 0, Option.none⟩, 1, l.map Value.string, rfl, rfl, .inr rfl, ⟨_, _, _, alloc_cell, fun i v hv => by simpa using hv⟩, repE_mk⟩⟩
    · cases ho
  · cases ho
end Go.Proofs.YteapjcgeckpknaaDoor
end
/-! strconv.Atoi as a call apart: the number, or its error as data. -/
section
set_option linter.unusedVariables false
set_option linter.unusedSimpArgs false
set_option maxRecDepth 100000
namespace Go.Proofs.YteapjcgeckpknaaDoor
open Go.Vm
theorem row125 (u : TypeId) (h : Tryd.prog.typeName? 3 u = some "*errors.errorString") : u = 125 :=
  have star : "*" ++ "errors.errorString" = "*errors.errorString" := by decide
  typeName_ptr_named (nm := "errors.errorString") (by rw [star]; kernel_rfl) (by kernel_rfl) (by decide) u (by rw [star]; exact h)
def synS : List UInt8 := [105, 110, 118, 97, 108, 105, 100, 32, 115, 121, 110, 116, 97, 120]
def rngS : List UInt8 := [118, 97, 108, 117, 101, 32, 111, 117, 116, 32, 111, 102, 32, 114, 97, 110, 103, 101]
def errD (txt s : List UInt8) : D := .iface 106 (.ptr (.agg [.str [65, 116, 111, 105], .str s, .iface 125 (.ptr (.agg [.str txt]))]))
def atoiX : List D → Option Out := fun ds => match ds with
  | [.str s] => if s.length ≤ 281474976710656 then some (.ret (.tup (match Lib.atoiAll s with
    | .ok v => [.d (.int .i64 v), .d .nili]
    | .range => [.d (.int .i64 (Lib.atoiSat s)), .d (errD rngS s)]
    | _ => [.d (.int .i64 0), .d (errD synS s)]))) else Option.none
  | _ => Option.none
theorem err_rep {A : Nat → Prop} {w w' : World} {n : Int} {s txt : List UInt8} {tp : TypeId} {ad : Addr} {N : Nat} (hlt : ∀ b, A b → b < w.heap.size) (htp : tp = 125) (hc : RepC A w (.ptr (.agg [.str txt])) [.pointer (some ad)])
    (hN : w'.heap[N]? = some (.cells #[.string ⟨#[65, 116, 111, 105]⟩, .string ⟨s.toArray⟩, .iface tp (.pointer (some ad))] 116 (0, 0))) (hsz : w.heap.size ≤ N) (hB : RowKit.Below w.heap.size w w') :
    ∃ A', Iso A w A' w' ∧ RepRes A' w' (.tup [.int .i64 n, errD txt s]) (.tuple #[.int .i64 n, .iface 106 (.pointer (some ⟨N, 0, Option.none⟩))]) := by
  subst htp
  have hNs : N < w'.heap.size := (Array.getElem?_eq_some_iff.1 hN).1
  have hc' : RepC (fun b => A b ∨ b = N) w' (.ptr (.agg [.str txt])) [.pointer (some ad)] := repC_mono (fun _ h => .inl h) (fun b hb => hB.block b (hlt b hb)) _ _ hc
  refine ⟨fun b => A b ∨ b = N, ⟨hB.os, hB.tape, hB.output, hB.size, fun b hb => hB.block b hb, fun _ h => .inl h, fun b h => h.imp id (fun h => by omega), fun b h => ?_⟩, _, rfl, ?_⟩
  · have h1 := hB.size
    rcases h with h | h
    · have := hlt b h; omega
    · omega
  · simp only [RepS]
    refine ⟨_, _, rfl, .inr ⟨rfl, rfl⟩, _, _, rfl, .inr ⟨rfl, ?_⟩, rfl⟩
    unfold errD
    simp only [RepC]
    refine ⟨.pointer (some ⟨N, 0, Option.none⟩), rfl, .inr ⟨rfl, ⟨N, 0, Option.none⟩, [.string ⟨#[65, 116, 111, 105]⟩, .string ⟨s.toArray⟩, .iface 125 (.pointer (some ad))], rfl, rfl, .inr rfl, ⟨_, _, _, hN, fun i v hv => by simpa using hv⟩, ?_⟩⟩
    simp only [RepL]
    refine ⟨_, _, rfl, rfl, rfl, _, _, rfl, rfl, rfl, _, _, rfl, rfl, ?_, rfl⟩
    simp only [RepC]
    simp only [RepC] at hc'
    exact ⟨_, rfl, .inr ⟨rfl, hc'⟩⟩
theorem sent_ok {A : Nat → Prop} {w : World} (h : GlobOk Tryd.prog A w) {nm : String} {txt : List UInt8} {g : Nat} (hx : (nm, GDat.err "*errors.errorString" txt) ∈ globTabs) (hg : Tryd.prog.globalNamed nm = some g) : ∃ ad, w.var? Tryd.prog nm = some #[.iface 125 (.pointer (some ad))] ∧ RepC A w (.ptr (.agg [.str txt])) [.pointer (some ad)] := by
  obtain ⟨c, h1, h2⟩ := var_ok h hx hg
  obtain ⟨tp, ad, h3, h4, h5⟩ := h2
  cases row125 tp h4
  rw [h3] at h1
  exact ⟨ad, h1, h5⟩
theorem atoiX_ok : ∀ ds o, atoiX ds = some o → ∃ o', o = OutD.out o' ∧ ∀ (A : Nat → Prop) (w : World) (us : Array Value), (∀ b, A b → b < w.heap.size) → GlobOk Tryd.prog A w → RepS A w ds us.toList → Calls Tryd.prog 41 us w (AnsPost A w o') := by
  intro ds o ho
  unfold atoiX at ho
  split at ho
  · rename_i s
    split at ho
    · rename_i hb
      have hus : ∀ {A : Nat → Prop} {w : World} {us : Array Value}, RepS A w [.str s] us.toList → us = #[.string ⟨s.toArray⟩] := fun {A w us} hr => by
        simp only [RepS, RepC, D.isAgg] at hr
        obtain ⟨v, us', h1, h2, h3⟩ := hr
        have h2 : v = .string ⟨s.toArray⟩ := by simpa using h2
        apply Array.toList_inj.1
        rw [h1, h3, h2]
      rcases hs : Lib.atoiAll s with v | _ | _
      · skip
        rw [hs] at ho
        cases ho
        refine ⟨.tup [.int .i64 v, .nili], rfl, fun A w us hlt hgl hr => ?_⟩
        cases hus hr
        refine (Any.strconv_Atoi_ok lays172 ⟨s.toArray⟩ (Nat.le_trans hb (by decide)) v hs w).mono fun e w' he => ?_
        obtain ⟨rfl, he⟩ := he
        have hB : RowKit.Below w.heap.size w w' := by
          rcases he with rfl | ⟨t, rfl⟩
          · exact RowKit.Below.refl _ _
          · exact Lib.bytesWorld_below w _ t
        refine ⟨A, iso_of hlt hB, _, rfl, ?_⟩
        simp only [RepS]
        exact ⟨_, _, rfl, .inr ⟨rfl, rfl⟩, _, _, rfl, .inr ⟨rfl, rfl⟩, rfl⟩
      · skip
        rw [hs] at ho
        cases ho
        refine ⟨.tup [.int .i64 0, errD synS s], rfl, fun A w us hlt hgl hr => ?_⟩
        cases hus hr
        obtain ⟨ad, hv, hc⟩ := sent_ok hgl (nm := "strconv.ErrSyntax") (txt := synS) (g := 1) (by unfold globTabs synS; simp) (by kernel_rfl)
        refine (Any.strconv_Atoi_syntax_var lays172 ⟨s.toArray⟩ hb hs _ _ w hv).mono fun e w' he => ?_
        obtain ⟨N, rfl, h1, h2, h3⟩ := he
        exact err_rep hlt rfl hc h2 h1 h3
      · skip
        rw [hs] at ho
        cases ho
        refine ⟨.tup [.int .i64 (Lib.atoiSat s), errD rngS s], rfl, fun A w us hlt hgl hr => ?_⟩
        cases hus hr
        obtain ⟨ad, hv, hc⟩ := sent_ok hgl (nm := "strconv.ErrRange") (txt := rngS) (g := 2) (by unfold globTabs rngS; simp) (by kernel_rfl)
        refine (Any.strconv_Atoi_range_var lays172 ⟨s.toArray⟩ hb hs _ _ w hv).mono fun e w' he => ?_
        obtain ⟨N, rfl, h1, h2, h3⟩ := he
        exact err_rep hlt rfl hc h2 h1 h3
    · cases ho
  · cases ho
end Go.Proofs.YteapjcgeckpknaaDoor
end
/-! What the row's condition and the world's shape give the machine: the library's table of powers of ten, its MaxLen, and the errors of strconv. -/
section
set_option linter.unusedVariables false
set_option linter.unusedSimpArgs false
set_option maxRecDepth 100000
namespace Go.Proofs.YteapjcgeckpknaaDoor
open Go.ChangeShapes Go.WideShapes Go.ChangeAt Go.RowKit Go.Vm
theorem returnsInHanded_of_change_and_shaped {H : Type} {enc : TypeId × Value → H} {a : Assume} {C : Checked} {os : Os} {f : FuncId} {fn : Func} {s : ChangeSpec} {conds : List PathCond} {apart fresh handsOn again : Bool} {X : World → Array Value → Prop}
    (hX : ∀ (w w' : World) (args : Array Value), w.heap = w'.heap → X w args → X w' args)
    (own : ownKnob C.prog.godebug = Option.none) (started : os.Started) (noInit : C.prog.inits.idxOf? f = Option.none) (hfn : C.prog.funcs[f]? = some fn)
    (witness : ∃ (w : World) (tape : Tape) (i : Input), w.os = os ∧ (w.forCall tape i).Shaped C.prog ∧ i.vars = [] ∧ Input.okWide C.prog (w.forCall tape i) .any w.heap.size f i ∧
      ((s.pre enc C.prog fn conds apart (w.forCall tape i).memory i.args ∧ X (w.forCall tape i).memory i.args) ∧ sizedMet enc C.prog fn (OpenSpec.ofChange s) apart (w.forCall tape i).memory i.args) ∧ a.holds C.prog (lone (Frame.enter C.prog f i.args .normal) [] (w.forCall tape i)))
    (contract : ∀ (W : World) (base : Nat) (args : Array Value) (ds gs : List (DataW H)) (before : List MemPlace),
      (∀ (j : Nat) t v, fn.params[j]? = some t → args[j]? = some v → Value.okWide C.prog W .any base t v) →
      DataW.Whole enc C.prog fn.params.toList s.vars apart W args.toList ds gs before →
      conds.all (PathCond.test C.prog ⟨fn.params.toList, ds, s.plain.varTypes C.prog, gs⟩) = true →
      (DataW.weightsEach C.prog (fn.params.toList ++ s.plain.varTypes C.prog) (ds ++ gs)).all (· ≤ reachBytes) = true → X W args → W.ShapedOpen C.prog →
      a.holds C.prog (lone (Frame.enter C.prog f args .normal) [] W) →
      Calls C.prog f args W fun e W' => ∃ v, e = .returned v ∧ s.post enc C.prog fn apart fresh handsOn again W args v W') :
    ReturnsInHanded a C os f .any (fun w args => (s.pre enc C.prog fn conds apart w args ∧ X w args) ∧ sizedMet enc C.prog fn (OpenSpec.ofChange s) apart w args) (s.post enc C.prog fn apart fresh handsOn again) := by
  refine returnsInHanded_of_calls own started noInit witness ?_
  intro w tape i _ hsh _ hok hpre hholds
  obtain ⟨_, _, _, fn', hfn', _, _, _, _, hval⟩ := hok
  have e : fn' = fn := Option.some.inj (hfn'.symm.trans hfn)
  subst e
  obtain ⟨⟨⟨ds, gs, before, hw, hc⟩, hx⟩, hz⟩ := hpre
  have hw' := DataW.Whole.of_heap (w' := w.forCall tape i) (by rfl) hw
  refine (contract (w.forCall tape i) w.heap.size i.args ds gs before hval hw' hc (hz.weights hw) (hX _ _ _ (by rfl) hx) hsh hholds).mono fun e W' ⟨v, he, hp⟩ => ?_
  subst he
  exact ChangeSpec.post_blind hp
theorem Tryd.own : ownKnob Tryd.prog.godebug = Option.none := by kernel_rfl
theorem Tryd.laidOut : laidOutB Tryd.prog = true := by kernel_rfl
def laid7 : List (String × DataW Unit) := [("math/bits.deBruijn32tab", Rows.laid_math_bits_deBruijn32tab), ("math/bits.deBruijn64tab", Rows.laid_math_bits_deBruijn64tab), ("internal/strconv.uint64pow10", Rows.laid_internal_strconv_uint64pow10), ("unicode/utf8.acceptRanges", Rows.laid_unicode_utf8_acceptRanges), ("strconv.ErrRange", Rows.laid_strconv_ErrRange), ("strconv.ErrSyntax", Rows.laid_strconv_ErrSyntax), ("unicode/utf8.first", Rows.laid_unicode_utf8_first)]
def pows : List Int := (List.range 20).map fun i => ((10 ^ i : Nat) : Int)
theorem powsD {H : Type} : (Rows.laid_internal_strconv_uint64pow10 : DataW H) = Lib.tabData .u64 pows := by kernel_rfl
theorem door_met (os : Os) (args : Array Value) : laidMetH Tryd.prog laid7 ((World.laidAll Tryd.prog os laid7).forCall (fun _ _ => 0) ⟨#[], args, []⟩).memory := by
  rw [MakeChecks.laidMetH_plain _ _ _ (by kernel_rfl)]; exact laidMet_laidAll _ (by kernel_rfl) (by kernel_rfl)
theorem cells_of_var {W : World} {n : String} {g : Nat} {cs : Array Value} (hg : Tryd.prog.globalNamed n = some g) (hv : W.var? Tryd.prog n = some cs) : g < W.heap.size ∧ ∃ t m, W.heap[g]? = some (.cells cs t m) := by
  unfold World.var? at hv
  rw [hg] at hv
  simp only [Option.bind_some] at hv
  cases ho : W.heap[g]? with
  | none => rw [ho] at hv; cases hv
  | some o =>
    rw [ho] at hv
    split at hv
    · rename_i cs t m he
      cases he
      simp only [Option.some.injEq] at hv
      exact ⟨(Array.getElem?_eq_some_iff.1 ho).1, t, m, by rw [hv]⟩
    · cases hv
theorem err_of {W : World} {s : ByteArray} {a : Addr} {text : List UInt8} (h1 : W.cell? a = some (.string s)) (h2 : s.data.toList = text) : RepC (Old W) W (.ptr (.agg [.str text])) [.pointer (some a)] := by
  subst h2
  obtain ⟨b, o, sp⟩ := a
  unfold World.cell? at h1
  split at h1
  · rename_i c e f hh
    split at h1
    · cases h1
    · rename_i hs
      have hsp : sp = Option.none := by cases sp with
        | none => rfl
        | some x => exact absurd rfl hs
      simp only [RepC]
      refine ⟨⟨b, o, sp⟩, [.string s], rfl, hsp, (Array.getElem?_eq_some_iff.1 hh).1, ⟨c, e, f, hh, fun i v hv => ?_⟩, ?_⟩
      · cases i with
        | zero => cases hv; exact h1
        | succ i => cases hv
      · simp only [RepL]
        exact ⟨_, _, rfl, rfl, by simp only [RepC], rfl⟩
  · cases h1
theorem glob_of_laid {W : World} (h : laidMetH Tryd.prog laid7 W) (hs : W.ShapedOpen Tryd.prog) : GlobOk Tryd.prog (Old W) W := by
  rw [MakeChecks.laidMetH_plain _ _ _ (by kernel_rfl)] at h
  have h3 := h.tail.tail
  rw [powsD] at h3
  have ht : Lib.TabIs Tryd.prog W "internal/strconv.uint64pow10" .u64 pows :=
    Lib.tabIs_of_head (g := 5) (t := 136) (e := 26) (n := 20) (by kernel_rfl) (by kernel_rfl) Tryd.underlying136 Tryd.underlying26 (by kernel_rfl) (by kernel_rfl) h3
  obtain ⟨a1, s1, hv1, hc1, hs1, _⟩ := laid_sentinel (g := 2) h3.tail.tail (by kernel_rfl) (by kernel_rfl) (show Tryd.prog.underlying 73 = _ from Tryd.underlying73) (fun u hu => row125 u hu) Tryd.underlying125 Tryd.underlying127 rfl rfl Tryd.underlying9 (by kernel_rfl) (by kernel_rfl)
  obtain ⟨a2, s2, hv2, hc2, hs2, _⟩ := laid_sentinel (g := 1) h3.tail.tail.tail (by kernel_rfl) (by kernel_rfl) (show Tryd.prog.underlying 73 = _ from Tryd.underlying73) (fun u hu => row125 u hu) Tryd.underlying125 Tryd.underlying127 rfl rfl Tryd.underlying9 (by kernel_rfl) (by kernel_rfl)
  intro x hx g hg
  simp only [globTabs, List.mem_cons, List.not_mem_nil, or_false] at hx
  rcases hx with rfl | rfl | rfl | rfl
  · obtain ⟨h1, t, m, h2⟩ := cells_of_var hg ht
    exact ⟨h1, _, t, m, h2, rfl⟩
  · have hg0 : Tryd.prog.globalNamed "internal/bytealg.MaxLen" = some 0 := by kernel_rfl
    obtain rfl := Option.some.inj (hg0.symm.trans hg)
    have h0 : ((begin Tryd.prog (fun _ _ => 0) default).world.heap[0]?).bind Obj.row? = some (#[.int .i64 0], 3) := by kernel_rfl
    obtain ⟨cs, hh, hsz, _⟩ := hs.1 0 #[.int .i64 0] 3 (of_decide_eq_true (by kernel_rfl)) h0
    obtain ⟨m, hm⟩ := cell_of_shapedOpen_int (g := 0) hs (of_decide_eq_true (by kernel_rfl)) h0 rfl (by kernel_rfl) (by kernel_rfl) Tryd.underlying3
    refine ⟨(Array.getElem?_eq_some_iff.1 hh).1, cs, _, _, hh, m, ?_⟩
    unfold World.cell? at hm
    simp only [hh] at hm
    have hm : cs[0]? = some (.int .i64 m) := hm
    obtain ⟨l⟩ := cs
    match l, hsz, hm with
    | [v], _, hm => cases hm; rfl
  · obtain ⟨h1, t, m, h2⟩ := cells_of_var hg hv2
    exact ⟨h1, _, t, m, h2, 125, a2, rfl, show Tryd.prog.typeName? 3 125 = some "*errors.errorString" by kernel_rfl, err_of hc2 hs2⟩
  · obtain ⟨h1, t, m, h2⟩ := cells_of_var hg hv1
    exact ⟨h1, _, t, m, h2, 125, a1, rfl, show Tryd.prog.typeName? 3 125 = some "*errors.errorString" by kernel_rfl, err_of hc1 hs1⟩
end Go.Proofs.YteapjcgeckpknaaDoor
end
/-! Facts on the program's types, and its functions' bodies: written by mkty.py. -/
section
set_option linter.unusedVariables false
set_option maxRecDepth 100000
namespace Go.Proofs.YteapjcgeckpknaaDoor
open Go.Vm
/-- The example is told by what it came to. -/
def worksX : List D → Option Out := fun ds => match ds with | [] => some (.ret (.d (.bool true))) | _ => Option.none
def mask : Nat := 1649267441664
noncomputable def cfg : Cfg := { P := Tryd.prog, mixed := by kernel_rfl, shared := fun f => Nat.testBit mask f, ext := fun f => match Nat.beq f 41 with | true => some atoiX | false => match Nat.beq f 38 with | true => some indexByteX | false => match Nat.beq f 21 with | true => some splitX | false => match Nat.beq f 57 with | true => some joinX | false => match Nat.beq f 58 with | true => some itoaX | false => match Nat.beq f 7 with | true => some worksX | false => Option.none, catch_ := fun f => Option.none }
theorem hP : cfg.P = Tryd.prog := rfl
def encB (l : List UInt8) : D := .sl (l.map fun b => .int .u8 b.toNat)
theorem fits3 (a : Int) : fitsD Tryd.prog 3 (.int .i64 a) = true := by kernel_rfl
theorem fitsT3 (a : Int) : fitsT Tryd.prog 3 (.d (.int .i64 a)) = true := by kernel_rfl
theorem ff3 {a : Int} : fitsT Tryd.prog 3 (.d (.int .i64 a)) = true := by kernel_rfl
theorem ld3 {S : Store} {a : Int} : loadV Tryd.prog S 3 (.d (.ptr (.int .i64 a))) = some (.d (.int .i64 a)) := by kernel_rfl
theorem fits29 (a : Int) : fitsD Tryd.prog 29 (.int .i64 a) = true := by kernel_rfl
theorem fitsT29 (a : Int) : fitsT Tryd.prog 29 (.d (.int .i64 a)) = true := by kernel_rfl
theorem ff29 {a : Int} : fitsT Tryd.prog 29 (.d (.int .i64 a)) = true := by kernel_rfl
theorem ld29 {S : Store} {a : Int} : loadV Tryd.prog S 29 (.d (.ptr (.int .i64 a))) = some (.d (.int .i64 a)) := by kernel_rfl
theorem fits5 (a : Int) : fitsD Tryd.prog 5 (.int .u8 a) = true := by kernel_rfl
theorem fitsT5 (a : Int) : fitsT Tryd.prog 5 (.d (.int .u8 a)) = true := by kernel_rfl
theorem ff5 {a : Int} : fitsT Tryd.prog 5 (.d (.int .u8 a)) = true := by kernel_rfl
theorem ld5 {S : Store} {a : Int} : loadV Tryd.prog S 5 (.d (.ptr (.int .u8 a))) = some (.d (.int .u8 a)) := by kernel_rfl
theorem fits9 (a : (List UInt8)) : fitsD Tryd.prog 9 (.str a) = true := by kernel_rfl
theorem fitsT9 (a : (List UInt8)) : fitsT Tryd.prog 9 (.d (.str a)) = true := by kernel_rfl
theorem ff9 {a : (List UInt8)} : fitsT Tryd.prog 9 (.d (.str a)) = true := by kernel_rfl
theorem ld9 {S : Store} {a : (List UInt8)} : loadV Tryd.prog S 9 (.d (.ptr (.str a))) = some (.d (.str a)) := by kernel_rfl
theorem fits4 (a : Bool) : fitsD Tryd.prog 4 (.bool a) = true := by kernel_rfl
theorem fitsT4 (a : Bool) : fitsT Tryd.prog 4 (.d (.bool a)) = true := by kernel_rfl
theorem ff4 {a : Bool} : fitsT Tryd.prog 4 (.d (.bool a)) = true := by kernel_rfl
theorem ld4 {S : Store} {a : Bool} : loadV Tryd.prog S 4 (.d (.ptr (.bool a))) = some (.d (.bool a)) := by kernel_rfl
theorem fits26 (a : Int) : fitsD Tryd.prog 26 (.int .u64 a) = true := by kernel_rfl
theorem fitsT26 (a : Int) : fitsT Tryd.prog 26 (.d (.int .u64 a)) = true := by kernel_rfl
theorem ff26 {a : Int} : fitsT Tryd.prog 26 (.d (.int .u64 a)) = true := by kernel_rfl
theorem ld26 {S : Store} {a : Int} : loadV Tryd.prog S 26 (.d (.ptr (.int .u64 a))) = some (.d (.int .u64 a)) := by kernel_rfl
theorem fits23 (a : List D) : fitsD Tryd.prog 23 (.sl a) = true := by kernel_rfl
theorem ff23 {a : List D} : fitsT Tryd.prog 23 (.d (.sl a)) = true := by kernel_rfl
theorem ld23 {S : Store} {a : List D} : loadV Tryd.prog S 23 (.d (.ptr (.sl a))) = some (.d (.sl a)) := by kernel_rfl
theorem fits56 (a : List D) : fitsD Tryd.prog 56 (.sl a) = true := by kernel_rfl
theorem ff56 {a : List D} : fitsT Tryd.prog 56 (.d (.sl a)) = true := by kernel_rfl
theorem ld56 {S : Store} {a : List D} : loadV Tryd.prog S 56 (.d (.ptr (.sl a))) = some (.d (.sl a)) := by kernel_rfl
theorem fits90 (a : List D) : fitsD Tryd.prog 90 (.sl a) = true := by kernel_rfl
theorem ff90 {a : List D} : fitsT Tryd.prog 90 (.d (.sl a)) = true := by kernel_rfl
theorem ld90 {S : Store} {a : List D} : loadV Tryd.prog S 90 (.d (.ptr (.sl a))) = some (.d (.sl a)) := by kernel_rfl
theorem fits42 (a : List D) : fitsD Tryd.prog 42 (.sl a) = true := by kernel_rfl
theorem ff42 {a : List D} : fitsT Tryd.prog 42 (.d (.sl a)) = true := by kernel_rfl
theorem ld42 {S : Store} {a : List D} : loadV Tryd.prog S 42 (.d (.ptr (.sl a))) = some (.d (.sl a)) := by kernel_rfl
theorem fits43 (a : List D) : fitsD Tryd.prog 43 (.sl a) = true := by kernel_rfl
theorem ff43 {a : List D} : fitsT Tryd.prog 43 (.d (.sl a)) = true := by kernel_rfl
theorem ld43 {S : Store} {a : List D} : loadV Tryd.prog S 43 (.d (.ptr (.sl a))) = some (.d (.sl a)) := by kernel_rfl
structure Opn where
  does : Int
  a : (List UInt8)
  b : (List UInt8)
  off : Int
  n : Int
  data : List UInt8
  deriving DecidableEq
def encOpn (a : Opn) : D := .agg [.int .i64 a.does, .str a.a, .str a.b, .int .i64 a.off, .int .i64 a.n, encB a.data]
theorem fits33 (a : Opn) : fitsD Tryd.prog 33 (encOpn a) = true := by kernel_rfl
theorem fitsT33 (a : Opn) : fitsT Tryd.prog 33 (.d (encOpn a)) = true := by kernel_rfl
theorem z33 : zeroV Tryd.prog 33 = some (.agg [.d (.int .i64 0), .d (.str []), .d (.str []), .d (.int .i64 0), .d (.int .i64 0), .ts []]) := by kernel_rfl
theorem zf33 : fitsT Tryd.prog 33 (.agg [.d (.int .i64 0), .d (.str []), .d (.str []), .d (.int .i64 0), .d (.int .i64 0), .ts []]) = true := by kernel_rfl
theorem zz33  : zeroV Tryd.prog 33 = some (.agg [.d (.int .i64 0), .d (.str []), .d (.str []), .d (.int .i64 0), .d (.int .i64 0), .ts []]) := z33
theorem zzf33  : fitsT Tryd.prog 33 (.agg [.d (.int .i64 0), .d (.str []), .d (.str []), .d (.int .i64 0), .d (.int .i64 0), .ts []]) = true := zf33
theorem ff33 {a : Opn} : fitsT Tryd.prog 33 (.d (encOpn a)) = true := by kernel_rfl
theorem ffa33 {x0 x1 x2 x3 x4 x5 : V} : fitsT Tryd.prog 33 (.agg [x0, x1, x2, x3, x4, x5]) = true := by kernel_rfl
theorem lr33 {a : Opn} : loadR Tryd.prog 33 0 (some (.d (encOpn a))) = some (.d (encOpn a)) := by kernel_rfl
theorem lra33 {x0 x1 x2 x3 x4 x5 : V} : loadR Tryd.prog 33 0 (some (.agg [x0, x1, x2, x3, x4, x5])) = some (.agg [x0, x1, x2, x3, x4, x5]) := by kernel_rfl
theorem sr33 {a b : Opn} : storeR Tryd.prog 33 0 (.d (encOpn a)) (.d (encOpn b)) = some (.d (encOpn a)) := by kernel_rfl
theorem srb33 {a : Opn} {x0 x1 x2 x3 x4 x5 : V} : storeR Tryd.prog 33 0 (.d (encOpn a)) (.agg [x0, x1, x2, x3, x4, x5]) = some (.d (encOpn a)) := by kernel_rfl
theorem src33 {a : Opn} {x0 x1 x2 x3 x4 x5 : V} : storeR Tryd.prog 33 0 (.agg [x0, x1, x2, x3, x4, x5]) (.d (encOpn a)) = some (.agg [x0, x1, x2, x3, x4, x5]) := by kernel_rfl
theorem srd33 {x0 x1 x2 x3 x4 x5 y0 y1 y2 y3 y4 y5 : V} : storeR Tryd.prog 33 0 (.agg [x0, x1, x2, x3, x4, x5]) (.agg [y0, y1, y2, y3, y4, y5]) = some (.agg [x0, x1, x2, x3, x4, x5]) := by kernel_rfl
theorem ld33 {S : Store} {a : Opn} : loadV Tryd.prog S 33 (.d (.ptr (encOpn a))) = some (.d (encOpn a)) := by kernel_rfl
theorem fa33_0 {a : Opn} : fieldAddrV Tryd.prog 33 0 (.d (.ptr (encOpn a))) = some (.d (.ptr (.int .i64 a.does))) := by kernel_rfl
theorem fd33_0 {a : Opn} : fieldV Tryd.prog 33 0 (.d (encOpn a)) = some (.d (.int .i64 a.does)) := by kernel_rfl
theorem lr33_0 {a : Opn} : loadR Tryd.prog 3 0 (some (.d (encOpn a))) = some ((.d (.int .i64 a.does))) := by kernel_rfl
theorem lra33_0 {x0 x1 x2 x3 x4 x5 : V} : loadR Tryd.prog 3 0 (some (.agg [x0, x1, x2, x3, x4, x5])) = some x0 := by kernel_rfl
theorem sr33_0 {a : Opn} {v : V} (h1 : fitsT Tryd.prog 3 v = true) (h2 : v.cells = [v]) : storeR Tryd.prog 3 0 v (.d (encOpn a)) = some (.agg [v, .d (.str a.a), .d (.str a.b), .d (.int .i64 a.off), .d (.int .i64 a.n), .d (encB a.data)]) := by simp only [storeR, h1, h2]; rfl
theorem sra33_0 {x0 x1 x2 x3 x4 x5 v : V} (h1 : fitsT Tryd.prog 3 v = true) (h2 : v.cells = [v]) : storeR Tryd.prog 3 0 v (.agg [x0, x1, x2, x3, x4, x5]) = some (.agg [v, x1, x2, x3, x4, x5]) := by simp only [storeR, h1, h2]; rfl
theorem sri33_0 {a : Opn} {x : Int} : storeR Tryd.prog 3 0 (.d (.int .i64 x)) (.d (encOpn a)) = some (.agg [.d (.int .i64 x), .d (.str a.a), .d (.str a.b), .d (.int .i64 a.off), .d (.int .i64 a.n), .d (encB a.data)]) := by kernel_rfl
theorem sria33_0 {x0 x1 x2 x3 x4 x5 : V} {x : Int} : storeR Tryd.prog 3 0 (.d (.int .i64 x)) (.agg [x0, x1, x2, x3, x4, x5]) = some (.agg [.d (.int .i64 x), x1, x2, x3, x4, x5]) := by kernel_rfl
theorem fr33_0 {j x y : Nat} : fieldAddrV Tryd.prog 33 0 (.ref j x y) = some (.ref j x (y + 0)) := by kernel_rfl
theorem fa33_1 {a : Opn} : fieldAddrV Tryd.prog 33 1 (.d (.ptr (encOpn a))) = some (.d (.ptr (.str a.a))) := by kernel_rfl
theorem fd33_1 {a : Opn} : fieldV Tryd.prog 33 1 (.d (encOpn a)) = some (.d (.str a.a)) := by kernel_rfl
theorem lr33_1 {a : Opn} : loadR Tryd.prog 9 1 (some (.d (encOpn a))) = some ((.d (.str a.a))) := by kernel_rfl
theorem lra33_1 {x0 x1 x2 x3 x4 x5 : V} : loadR Tryd.prog 9 1 (some (.agg [x0, x1, x2, x3, x4, x5])) = some x1 := by kernel_rfl
theorem sr33_1 {a : Opn} {v : V} (h1 : fitsT Tryd.prog 9 v = true) (h2 : v.cells = [v]) : storeR Tryd.prog 9 1 v (.d (encOpn a)) = some (.agg [.d (.int .i64 a.does), v, .d (.str a.b), .d (.int .i64 a.off), .d (.int .i64 a.n), .d (encB a.data)]) := by simp only [storeR, h1, h2]; rfl
theorem sra33_1 {x0 x1 x2 x3 x4 x5 v : V} (h1 : fitsT Tryd.prog 9 v = true) (h2 : v.cells = [v]) : storeR Tryd.prog 9 1 v (.agg [x0, x1, x2, x3, x4, x5]) = some (.agg [x0, v, x2, x3, x4, x5]) := by simp only [storeR, h1, h2]; rfl
theorem fr33_1 {j x y : Nat} : fieldAddrV Tryd.prog 33 1 (.ref j x y) = some (.ref j x (y + 1)) := by kernel_rfl
theorem fa33_2 {a : Opn} : fieldAddrV Tryd.prog 33 2 (.d (.ptr (encOpn a))) = some (.d (.ptr (.str a.b))) := by kernel_rfl
theorem fd33_2 {a : Opn} : fieldV Tryd.prog 33 2 (.d (encOpn a)) = some (.d (.str a.b)) := by kernel_rfl
theorem lr33_2 {a : Opn} : loadR Tryd.prog 9 2 (some (.d (encOpn a))) = some ((.d (.str a.b))) := by kernel_rfl
theorem lra33_2 {x0 x1 x2 x3 x4 x5 : V} : loadR Tryd.prog 9 2 (some (.agg [x0, x1, x2, x3, x4, x5])) = some x2 := by kernel_rfl
theorem sr33_2 {a : Opn} {v : V} (h1 : fitsT Tryd.prog 9 v = true) (h2 : v.cells = [v]) : storeR Tryd.prog 9 2 v (.d (encOpn a)) = some (.agg [.d (.int .i64 a.does), .d (.str a.a), v, .d (.int .i64 a.off), .d (.int .i64 a.n), .d (encB a.data)]) := by simp only [storeR, h1, h2]; rfl
theorem sra33_2 {x0 x1 x2 x3 x4 x5 v : V} (h1 : fitsT Tryd.prog 9 v = true) (h2 : v.cells = [v]) : storeR Tryd.prog 9 2 v (.agg [x0, x1, x2, x3, x4, x5]) = some (.agg [x0, x1, v, x3, x4, x5]) := by simp only [storeR, h1, h2]; rfl
theorem fr33_2 {j x y : Nat} : fieldAddrV Tryd.prog 33 2 (.ref j x y) = some (.ref j x (y + 2)) := by kernel_rfl
theorem fa33_3 {a : Opn} : fieldAddrV Tryd.prog 33 3 (.d (.ptr (encOpn a))) = some (.d (.ptr (.int .i64 a.off))) := by kernel_rfl
theorem fd33_3 {a : Opn} : fieldV Tryd.prog 33 3 (.d (encOpn a)) = some (.d (.int .i64 a.off)) := by kernel_rfl
theorem lr33_3 {a : Opn} : loadR Tryd.prog 3 3 (some (.d (encOpn a))) = some ((.d (.int .i64 a.off))) := by kernel_rfl
theorem lra33_3 {x0 x1 x2 x3 x4 x5 : V} : loadR Tryd.prog 3 3 (some (.agg [x0, x1, x2, x3, x4, x5])) = some x3 := by kernel_rfl
theorem sr33_3 {a : Opn} {v : V} (h1 : fitsT Tryd.prog 3 v = true) (h2 : v.cells = [v]) : storeR Tryd.prog 3 3 v (.d (encOpn a)) = some (.agg [.d (.int .i64 a.does), .d (.str a.a), .d (.str a.b), v, .d (.int .i64 a.n), .d (encB a.data)]) := by simp only [storeR, h1, h2]; rfl
theorem sra33_3 {x0 x1 x2 x3 x4 x5 v : V} (h1 : fitsT Tryd.prog 3 v = true) (h2 : v.cells = [v]) : storeR Tryd.prog 3 3 v (.agg [x0, x1, x2, x3, x4, x5]) = some (.agg [x0, x1, x2, v, x4, x5]) := by simp only [storeR, h1, h2]; rfl
theorem sri33_3 {a : Opn} {x : Int} : storeR Tryd.prog 3 3 (.d (.int .i64 x)) (.d (encOpn a)) = some (.agg [.d (.int .i64 a.does), .d (.str a.a), .d (.str a.b), .d (.int .i64 x), .d (.int .i64 a.n), .d (encB a.data)]) := by kernel_rfl
theorem sria33_3 {x0 x1 x2 x3 x4 x5 : V} {x : Int} : storeR Tryd.prog 3 3 (.d (.int .i64 x)) (.agg [x0, x1, x2, x3, x4, x5]) = some (.agg [x0, x1, x2, .d (.int .i64 x), x4, x5]) := by kernel_rfl
theorem fr33_3 {j x y : Nat} : fieldAddrV Tryd.prog 33 3 (.ref j x y) = some (.ref j x (y + 3)) := by kernel_rfl
theorem fa33_4 {a : Opn} : fieldAddrV Tryd.prog 33 4 (.d (.ptr (encOpn a))) = some (.d (.ptr (.int .i64 a.n))) := by kernel_rfl
theorem fd33_4 {a : Opn} : fieldV Tryd.prog 33 4 (.d (encOpn a)) = some (.d (.int .i64 a.n)) := by kernel_rfl
theorem lr33_4 {a : Opn} : loadR Tryd.prog 3 4 (some (.d (encOpn a))) = some ((.d (.int .i64 a.n))) := by kernel_rfl
theorem lra33_4 {x0 x1 x2 x3 x4 x5 : V} : loadR Tryd.prog 3 4 (some (.agg [x0, x1, x2, x3, x4, x5])) = some x4 := by kernel_rfl
theorem sr33_4 {a : Opn} {v : V} (h1 : fitsT Tryd.prog 3 v = true) (h2 : v.cells = [v]) : storeR Tryd.prog 3 4 v (.d (encOpn a)) = some (.agg [.d (.int .i64 a.does), .d (.str a.a), .d (.str a.b), .d (.int .i64 a.off), v, .d (encB a.data)]) := by simp only [storeR, h1, h2]; rfl
theorem sra33_4 {x0 x1 x2 x3 x4 x5 v : V} (h1 : fitsT Tryd.prog 3 v = true) (h2 : v.cells = [v]) : storeR Tryd.prog 3 4 v (.agg [x0, x1, x2, x3, x4, x5]) = some (.agg [x0, x1, x2, x3, v, x5]) := by simp only [storeR, h1, h2]; rfl
theorem sri33_4 {a : Opn} {x : Int} : storeR Tryd.prog 3 4 (.d (.int .i64 x)) (.d (encOpn a)) = some (.agg [.d (.int .i64 a.does), .d (.str a.a), .d (.str a.b), .d (.int .i64 a.off), .d (.int .i64 x), .d (encB a.data)]) := by kernel_rfl
theorem sria33_4 {x0 x1 x2 x3 x4 x5 : V} {x : Int} : storeR Tryd.prog 3 4 (.d (.int .i64 x)) (.agg [x0, x1, x2, x3, x4, x5]) = some (.agg [x0, x1, x2, x3, .d (.int .i64 x), x5]) := by kernel_rfl
theorem fr33_4 {j x y : Nat} : fieldAddrV Tryd.prog 33 4 (.ref j x y) = some (.ref j x (y + 4)) := by kernel_rfl
theorem fa33_5 {a : Opn} : fieldAddrV Tryd.prog 33 5 (.d (.ptr (encOpn a))) = some (.d (.ptr (encB a.data))) := by kernel_rfl
theorem fd33_5 {a : Opn} : fieldV Tryd.prog 33 5 (.d (encOpn a)) = some (.d (encB a.data)) := by kernel_rfl
theorem lr33_5 {a : Opn} : loadR Tryd.prog 23 5 (some (.d (encOpn a))) = some ((.d (encB a.data))) := by kernel_rfl
theorem lra33_5 {x0 x1 x2 x3 x4 x5 : V} : loadR Tryd.prog 23 5 (some (.agg [x0, x1, x2, x3, x4, x5])) = some x5 := by kernel_rfl
theorem sr33_5 {a : Opn} {v : V} (h1 : fitsT Tryd.prog 23 v = true) (h2 : v.cells = [v]) : storeR Tryd.prog 23 5 v (.d (encOpn a)) = some (.agg [.d (.int .i64 a.does), .d (.str a.a), .d (.str a.b), .d (.int .i64 a.off), .d (.int .i64 a.n), v]) := by simp only [storeR, h1, h2]; rfl
theorem sra33_5 {x0 x1 x2 x3 x4 x5 v : V} (h1 : fitsT Tryd.prog 23 v = true) (h2 : v.cells = [v]) : storeR Tryd.prog 23 5 v (.agg [x0, x1, x2, x3, x4, x5]) = some (.agg [x0, x1, x2, x3, x4, v]) := by simp only [storeR, h1, h2]; rfl
theorem fr33_5 {j x y : Nat} : fieldAddrV Tryd.prog 33 5 (.ref j x y) = some (.ref j x (y + 5)) := by kernel_rfl
theorem fits25 (a : Opn) : fitsD Tryd.prog 25 (encOpn a) = true := by kernel_rfl
theorem fitsT25 (a : Opn) : fitsT Tryd.prog 25 (.d (encOpn a)) = true := by kernel_rfl
theorem z25 : zeroV Tryd.prog 25 = some (.agg [.d (.int .i64 0), .d (.str []), .d (.str []), .d (.int .i64 0), .d (.int .i64 0), .ts []]) := by kernel_rfl
theorem zf25 : fitsT Tryd.prog 25 (.agg [.d (.int .i64 0), .d (.str []), .d (.str []), .d (.int .i64 0), .d (.int .i64 0), .ts []]) = true := by kernel_rfl
theorem zz25  : zeroV Tryd.prog 25 = some (.agg [.d (.int .i64 0), .d (.str []), .d (.str []), .d (.int .i64 0), .d (.int .i64 0), .ts []]) := z25
theorem zzf25  : fitsT Tryd.prog 25 (.agg [.d (.int .i64 0), .d (.str []), .d (.str []), .d (.int .i64 0), .d (.int .i64 0), .ts []]) = true := zf25
theorem ff25 {a : Opn} : fitsT Tryd.prog 25 (.d (encOpn a)) = true := by kernel_rfl
theorem ffa25 {x0 x1 x2 x3 x4 x5 : V} : fitsT Tryd.prog 25 (.agg [x0, x1, x2, x3, x4, x5]) = true := by kernel_rfl
theorem lr25 {a : Opn} : loadR Tryd.prog 25 0 (some (.d (encOpn a))) = some (.d (encOpn a)) := by kernel_rfl
theorem lra25 {x0 x1 x2 x3 x4 x5 : V} : loadR Tryd.prog 25 0 (some (.agg [x0, x1, x2, x3, x4, x5])) = some (.agg [x0, x1, x2, x3, x4, x5]) := by kernel_rfl
theorem sr25 {a b : Opn} : storeR Tryd.prog 25 0 (.d (encOpn a)) (.d (encOpn b)) = some (.d (encOpn a)) := by kernel_rfl
theorem srb25 {a : Opn} {x0 x1 x2 x3 x4 x5 : V} : storeR Tryd.prog 25 0 (.d (encOpn a)) (.agg [x0, x1, x2, x3, x4, x5]) = some (.d (encOpn a)) := by kernel_rfl
theorem src25 {a : Opn} {x0 x1 x2 x3 x4 x5 : V} : storeR Tryd.prog 25 0 (.agg [x0, x1, x2, x3, x4, x5]) (.d (encOpn a)) = some (.agg [x0, x1, x2, x3, x4, x5]) := by kernel_rfl
theorem srd25 {x0 x1 x2 x3 x4 x5 y0 y1 y2 y3 y4 y5 : V} : storeR Tryd.prog 25 0 (.agg [x0, x1, x2, x3, x4, x5]) (.agg [y0, y1, y2, y3, y4, y5]) = some (.agg [x0, x1, x2, x3, x4, x5]) := by kernel_rfl
theorem ld25 {S : Store} {a : Opn} : loadV Tryd.prog S 25 (.d (.ptr (encOpn a))) = some (.d (encOpn a)) := by kernel_rfl
theorem fa25_0 {a : Opn} : fieldAddrV Tryd.prog 25 0 (.d (.ptr (encOpn a))) = some (.d (.ptr (.int .i64 a.does))) := by kernel_rfl
theorem fd25_0 {a : Opn} : fieldV Tryd.prog 25 0 (.d (encOpn a)) = some (.d (.int .i64 a.does)) := by kernel_rfl
theorem lr25_0 {a : Opn} : loadR Tryd.prog 3 0 (some (.d (encOpn a))) = some ((.d (.int .i64 a.does))) := by kernel_rfl
theorem lra25_0 {x0 x1 x2 x3 x4 x5 : V} : loadR Tryd.prog 3 0 (some (.agg [x0, x1, x2, x3, x4, x5])) = some x0 := by kernel_rfl
theorem sr25_0 {a : Opn} {v : V} (h1 : fitsT Tryd.prog 3 v = true) (h2 : v.cells = [v]) : storeR Tryd.prog 3 0 v (.d (encOpn a)) = some (.agg [v, .d (.str a.a), .d (.str a.b), .d (.int .i64 a.off), .d (.int .i64 a.n), .d (encB a.data)]) := by simp only [storeR, h1, h2]; rfl
theorem sra25_0 {x0 x1 x2 x3 x4 x5 v : V} (h1 : fitsT Tryd.prog 3 v = true) (h2 : v.cells = [v]) : storeR Tryd.prog 3 0 v (.agg [x0, x1, x2, x3, x4, x5]) = some (.agg [v, x1, x2, x3, x4, x5]) := by simp only [storeR, h1, h2]; rfl
theorem sri25_0 {a : Opn} {x : Int} : storeR Tryd.prog 3 0 (.d (.int .i64 x)) (.d (encOpn a)) = some (.agg [.d (.int .i64 x), .d (.str a.a), .d (.str a.b), .d (.int .i64 a.off), .d (.int .i64 a.n), .d (encB a.data)]) := by kernel_rfl
theorem sria25_0 {x0 x1 x2 x3 x4 x5 : V} {x : Int} : storeR Tryd.prog 3 0 (.d (.int .i64 x)) (.agg [x0, x1, x2, x3, x4, x5]) = some (.agg [.d (.int .i64 x), x1, x2, x3, x4, x5]) := by kernel_rfl
theorem fr25_0 {j x y : Nat} : fieldAddrV Tryd.prog 25 0 (.ref j x y) = some (.ref j x (y + 0)) := by kernel_rfl
theorem fa25_1 {a : Opn} : fieldAddrV Tryd.prog 25 1 (.d (.ptr (encOpn a))) = some (.d (.ptr (.str a.a))) := by kernel_rfl
theorem fd25_1 {a : Opn} : fieldV Tryd.prog 25 1 (.d (encOpn a)) = some (.d (.str a.a)) := by kernel_rfl
theorem lr25_1 {a : Opn} : loadR Tryd.prog 9 1 (some (.d (encOpn a))) = some ((.d (.str a.a))) := by kernel_rfl
theorem lra25_1 {x0 x1 x2 x3 x4 x5 : V} : loadR Tryd.prog 9 1 (some (.agg [x0, x1, x2, x3, x4, x5])) = some x1 := by kernel_rfl
theorem sr25_1 {a : Opn} {v : V} (h1 : fitsT Tryd.prog 9 v = true) (h2 : v.cells = [v]) : storeR Tryd.prog 9 1 v (.d (encOpn a)) = some (.agg [.d (.int .i64 a.does), v, .d (.str a.b), .d (.int .i64 a.off), .d (.int .i64 a.n), .d (encB a.data)]) := by simp only [storeR, h1, h2]; rfl
theorem sra25_1 {x0 x1 x2 x3 x4 x5 v : V} (h1 : fitsT Tryd.prog 9 v = true) (h2 : v.cells = [v]) : storeR Tryd.prog 9 1 v (.agg [x0, x1, x2, x3, x4, x5]) = some (.agg [x0, v, x2, x3, x4, x5]) := by simp only [storeR, h1, h2]; rfl
theorem fr25_1 {j x y : Nat} : fieldAddrV Tryd.prog 25 1 (.ref j x y) = some (.ref j x (y + 1)) := by kernel_rfl
theorem fa25_2 {a : Opn} : fieldAddrV Tryd.prog 25 2 (.d (.ptr (encOpn a))) = some (.d (.ptr (.str a.b))) := by kernel_rfl
theorem fd25_2 {a : Opn} : fieldV Tryd.prog 25 2 (.d (encOpn a)) = some (.d (.str a.b)) := by kernel_rfl
theorem lr25_2 {a : Opn} : loadR Tryd.prog 9 2 (some (.d (encOpn a))) = some ((.d (.str a.b))) := by kernel_rfl
theorem lra25_2 {x0 x1 x2 x3 x4 x5 : V} : loadR Tryd.prog 9 2 (some (.agg [x0, x1, x2, x3, x4, x5])) = some x2 := by kernel_rfl
theorem sr25_2 {a : Opn} {v : V} (h1 : fitsT Tryd.prog 9 v = true) (h2 : v.cells = [v]) : storeR Tryd.prog 9 2 v (.d (encOpn a)) = some (.agg [.d (.int .i64 a.does), .d (.str a.a), v, .d (.int .i64 a.off), .d (.int .i64 a.n), .d (encB a.data)]) := by simp only [storeR, h1, h2]; rfl
theorem sra25_2 {x0 x1 x2 x3 x4 x5 v : V} (h1 : fitsT Tryd.prog 9 v = true) (h2 : v.cells = [v]) : storeR Tryd.prog 9 2 v (.agg [x0, x1, x2, x3, x4, x5]) = some (.agg [x0, x1, v, x3, x4, x5]) := by simp only [storeR, h1, h2]; rfl
theorem fr25_2 {j x y : Nat} : fieldAddrV Tryd.prog 25 2 (.ref j x y) = some (.ref j x (y + 2)) := by kernel_rfl
theorem fa25_3 {a : Opn} : fieldAddrV Tryd.prog 25 3 (.d (.ptr (encOpn a))) = some (.d (.ptr (.int .i64 a.off))) := by kernel_rfl
theorem fd25_3 {a : Opn} : fieldV Tryd.prog 25 3 (.d (encOpn a)) = some (.d (.int .i64 a.off)) := by kernel_rfl
theorem lr25_3 {a : Opn} : loadR Tryd.prog 3 3 (some (.d (encOpn a))) = some ((.d (.int .i64 a.off))) := by kernel_rfl
theorem lra25_3 {x0 x1 x2 x3 x4 x5 : V} : loadR Tryd.prog 3 3 (some (.agg [x0, x1, x2, x3, x4, x5])) = some x3 := by kernel_rfl
theorem sr25_3 {a : Opn} {v : V} (h1 : fitsT Tryd.prog 3 v = true) (h2 : v.cells = [v]) : storeR Tryd.prog 3 3 v (.d (encOpn a)) = some (.agg [.d (.int .i64 a.does), .d (.str a.a), .d (.str a.b), v, .d (.int .i64 a.n), .d (encB a.data)]) := by simp only [storeR, h1, h2]; rfl
theorem sra25_3 {x0 x1 x2 x3 x4 x5 v : V} (h1 : fitsT Tryd.prog 3 v = true) (h2 : v.cells = [v]) : storeR Tryd.prog 3 3 v (.agg [x0, x1, x2, x3, x4, x5]) = some (.agg [x0, x1, x2, v, x4, x5]) := by simp only [storeR, h1, h2]; rfl
theorem sri25_3 {a : Opn} {x : Int} : storeR Tryd.prog 3 3 (.d (.int .i64 x)) (.d (encOpn a)) = some (.agg [.d (.int .i64 a.does), .d (.str a.a), .d (.str a.b), .d (.int .i64 x), .d (.int .i64 a.n), .d (encB a.data)]) := by kernel_rfl
theorem sria25_3 {x0 x1 x2 x3 x4 x5 : V} {x : Int} : storeR Tryd.prog 3 3 (.d (.int .i64 x)) (.agg [x0, x1, x2, x3, x4, x5]) = some (.agg [x0, x1, x2, .d (.int .i64 x), x4, x5]) := by kernel_rfl
theorem fr25_3 {j x y : Nat} : fieldAddrV Tryd.prog 25 3 (.ref j x y) = some (.ref j x (y + 3)) := by kernel_rfl
theorem fa25_4 {a : Opn} : fieldAddrV Tryd.prog 25 4 (.d (.ptr (encOpn a))) = some (.d (.ptr (.int .i64 a.n))) := by kernel_rfl
theorem fd25_4 {a : Opn} : fieldV Tryd.prog 25 4 (.d (encOpn a)) = some (.d (.int .i64 a.n)) := by kernel_rfl
theorem lr25_4 {a : Opn} : loadR Tryd.prog 3 4 (some (.d (encOpn a))) = some ((.d (.int .i64 a.n))) := by kernel_rfl
theorem lra25_4 {x0 x1 x2 x3 x4 x5 : V} : loadR Tryd.prog 3 4 (some (.agg [x0, x1, x2, x3, x4, x5])) = some x4 := by kernel_rfl
theorem sr25_4 {a : Opn} {v : V} (h1 : fitsT Tryd.prog 3 v = true) (h2 : v.cells = [v]) : storeR Tryd.prog 3 4 v (.d (encOpn a)) = some (.agg [.d (.int .i64 a.does), .d (.str a.a), .d (.str a.b), .d (.int .i64 a.off), v, .d (encB a.data)]) := by simp only [storeR, h1, h2]; rfl
theorem sra25_4 {x0 x1 x2 x3 x4 x5 v : V} (h1 : fitsT Tryd.prog 3 v = true) (h2 : v.cells = [v]) : storeR Tryd.prog 3 4 v (.agg [x0, x1, x2, x3, x4, x5]) = some (.agg [x0, x1, x2, x3, v, x5]) := by simp only [storeR, h1, h2]; rfl
theorem sri25_4 {a : Opn} {x : Int} : storeR Tryd.prog 3 4 (.d (.int .i64 x)) (.d (encOpn a)) = some (.agg [.d (.int .i64 a.does), .d (.str a.a), .d (.str a.b), .d (.int .i64 a.off), .d (.int .i64 x), .d (encB a.data)]) := by kernel_rfl
theorem sria25_4 {x0 x1 x2 x3 x4 x5 : V} {x : Int} : storeR Tryd.prog 3 4 (.d (.int .i64 x)) (.agg [x0, x1, x2, x3, x4, x5]) = some (.agg [x0, x1, x2, x3, .d (.int .i64 x), x5]) := by kernel_rfl
theorem fr25_4 {j x y : Nat} : fieldAddrV Tryd.prog 25 4 (.ref j x y) = some (.ref j x (y + 4)) := by kernel_rfl
theorem fa25_5 {a : Opn} : fieldAddrV Tryd.prog 25 5 (.d (.ptr (encOpn a))) = some (.d (.ptr (encB a.data))) := by kernel_rfl
theorem fd25_5 {a : Opn} : fieldV Tryd.prog 25 5 (.d (encOpn a)) = some (.d (encB a.data)) := by kernel_rfl
theorem lr25_5 {a : Opn} : loadR Tryd.prog 23 5 (some (.d (encOpn a))) = some ((.d (encB a.data))) := by kernel_rfl
theorem lra25_5 {x0 x1 x2 x3 x4 x5 : V} : loadR Tryd.prog 23 5 (some (.agg [x0, x1, x2, x3, x4, x5])) = some x5 := by kernel_rfl
theorem sr25_5 {a : Opn} {v : V} (h1 : fitsT Tryd.prog 23 v = true) (h2 : v.cells = [v]) : storeR Tryd.prog 23 5 v (.d (encOpn a)) = some (.agg [.d (.int .i64 a.does), .d (.str a.a), .d (.str a.b), .d (.int .i64 a.off), .d (.int .i64 a.n), v]) := by simp only [storeR, h1, h2]; rfl
theorem sra25_5 {x0 x1 x2 x3 x4 x5 v : V} (h1 : fitsT Tryd.prog 23 v = true) (h2 : v.cells = [v]) : storeR Tryd.prog 23 5 v (.agg [x0, x1, x2, x3, x4, x5]) = some (.agg [x0, x1, x2, x3, x4, v]) := by simp only [storeR, h1, h2]; rfl
theorem fr25_5 {j x y : Nat} : fieldAddrV Tryd.prog 25 5 (.ref j x y) = some (.ref j x (y + 5)) := by kernel_rfl
structure Step where
  does : Int
  o : Opn
  w : Int
  n : Int
  deriving DecidableEq
def encStep (a : Step) : D := .agg [.int .i64 a.does, .int .i64 a.o.does, .str a.o.a, .str a.o.b, .int .i64 a.o.off, .int .i64 a.o.n, encB a.o.data, .int .u64 a.w, .int .i64 a.n]
theorem fits35 (a : Step) : fitsD Tryd.prog 35 (encStep a) = true := by kernel_rfl
theorem fitsT35 (a : Step) : fitsT Tryd.prog 35 (.d (encStep a)) = true := by kernel_rfl
theorem z35 : zeroV Tryd.prog 35 = some (.agg [.d (.int .i64 0), .d (.int .i64 0), .d (.str []), .d (.str []), .d (.int .i64 0), .d (.int .i64 0), .ts [], .d (.int .u64 0), .d (.int .i64 0)]) := by kernel_rfl
theorem zf35 : fitsT Tryd.prog 35 (.agg [.d (.int .i64 0), .d (.int .i64 0), .d (.str []), .d (.str []), .d (.int .i64 0), .d (.int .i64 0), .ts [], .d (.int .u64 0), .d (.int .i64 0)]) = true := by kernel_rfl
theorem zz35  : zeroV Tryd.prog 35 = some (.agg [.d (.int .i64 0), .d (.int .i64 0), .d (.str []), .d (.str []), .d (.int .i64 0), .d (.int .i64 0), .ts [], .d (.int .u64 0), .d (.int .i64 0)]) := z35
theorem zzf35  : fitsT Tryd.prog 35 (.agg [.d (.int .i64 0), .d (.int .i64 0), .d (.str []), .d (.str []), .d (.int .i64 0), .d (.int .i64 0), .ts [], .d (.int .u64 0), .d (.int .i64 0)]) = true := zf35
theorem ff35 {a : Step} : fitsT Tryd.prog 35 (.d (encStep a)) = true := by kernel_rfl
theorem ffa35 {x0 x1 x2 x3 x4 x5 x6 x7 x8 : V} : fitsT Tryd.prog 35 (.agg [x0, x1, x2, x3, x4, x5, x6, x7, x8]) = true := by kernel_rfl
theorem lr35 {a : Step} : loadR Tryd.prog 35 0 (some (.d (encStep a))) = some (.d (encStep a)) := by kernel_rfl
theorem lra35 {x0 x1 x2 x3 x4 x5 x6 x7 x8 : V} : loadR Tryd.prog 35 0 (some (.agg [x0, x1, x2, x3, x4, x5, x6, x7, x8])) = some (.agg [x0, x1, x2, x3, x4, x5, x6, x7, x8]) := by kernel_rfl
theorem sr35 {a b : Step} : storeR Tryd.prog 35 0 (.d (encStep a)) (.d (encStep b)) = some (.d (encStep a)) := by kernel_rfl
theorem srb35 {a : Step} {x0 x1 x2 x3 x4 x5 x6 x7 x8 : V} : storeR Tryd.prog 35 0 (.d (encStep a)) (.agg [x0, x1, x2, x3, x4, x5, x6, x7, x8]) = some (.d (encStep a)) := by kernel_rfl
theorem src35 {a : Step} {x0 x1 x2 x3 x4 x5 x6 x7 x8 : V} : storeR Tryd.prog 35 0 (.agg [x0, x1, x2, x3, x4, x5, x6, x7, x8]) (.d (encStep a)) = some (.agg [x0, x1, x2, x3, x4, x5, x6, x7, x8]) := by kernel_rfl
theorem srd35 {x0 x1 x2 x3 x4 x5 x6 x7 x8 y0 y1 y2 y3 y4 y5 y6 y7 y8 : V} : storeR Tryd.prog 35 0 (.agg [x0, x1, x2, x3, x4, x5, x6, x7, x8]) (.agg [y0, y1, y2, y3, y4, y5, y6, y7, y8]) = some (.agg [x0, x1, x2, x3, x4, x5, x6, x7, x8]) := by kernel_rfl
theorem ld35 {S : Store} {a : Step} : loadV Tryd.prog S 35 (.d (.ptr (encStep a))) = some (.d (encStep a)) := by kernel_rfl
theorem fa35_0 {a : Step} : fieldAddrV Tryd.prog 35 0 (.d (.ptr (encStep a))) = some (.d (.ptr (.int .i64 a.does))) := by kernel_rfl
theorem fd35_0 {a : Step} : fieldV Tryd.prog 35 0 (.d (encStep a)) = some (.d (.int .i64 a.does)) := by kernel_rfl
theorem lr35_0 {a : Step} : loadR Tryd.prog 3 0 (some (.d (encStep a))) = some ((.d (.int .i64 a.does))) := by kernel_rfl
theorem lra35_0 {x0 x1 x2 x3 x4 x5 x6 x7 x8 : V} : loadR Tryd.prog 3 0 (some (.agg [x0, x1, x2, x3, x4, x5, x6, x7, x8])) = some x0 := by kernel_rfl
theorem sr35_0 {a : Step} {v : V} (h1 : fitsT Tryd.prog 3 v = true) (h2 : v.cells = [v]) : storeR Tryd.prog 3 0 v (.d (encStep a)) = some (.agg [v, .d (.int .i64 a.o.does), .d (.str a.o.a), .d (.str a.o.b), .d (.int .i64 a.o.off), .d (.int .i64 a.o.n), .d (encB a.o.data), .d (.int .u64 a.w), .d (.int .i64 a.n)]) := by simp only [storeR, h1, h2]; rfl
theorem sra35_0 {x0 x1 x2 x3 x4 x5 x6 x7 x8 v : V} (h1 : fitsT Tryd.prog 3 v = true) (h2 : v.cells = [v]) : storeR Tryd.prog 3 0 v (.agg [x0, x1, x2, x3, x4, x5, x6, x7, x8]) = some (.agg [v, x1, x2, x3, x4, x5, x6, x7, x8]) := by simp only [storeR, h1, h2]; rfl
theorem sri35_0 {a : Step} {x : Int} : storeR Tryd.prog 3 0 (.d (.int .i64 x)) (.d (encStep a)) = some (.agg [.d (.int .i64 x), .d (.int .i64 a.o.does), .d (.str a.o.a), .d (.str a.o.b), .d (.int .i64 a.o.off), .d (.int .i64 a.o.n), .d (encB a.o.data), .d (.int .u64 a.w), .d (.int .i64 a.n)]) := by kernel_rfl
theorem sria35_0 {x0 x1 x2 x3 x4 x5 x6 x7 x8 : V} {x : Int} : storeR Tryd.prog 3 0 (.d (.int .i64 x)) (.agg [x0, x1, x2, x3, x4, x5, x6, x7, x8]) = some (.agg [.d (.int .i64 x), x1, x2, x3, x4, x5, x6, x7, x8]) := by kernel_rfl
theorem fr35_0 {j x y : Nat} : fieldAddrV Tryd.prog 35 0 (.ref j x y) = some (.ref j x (y + 0)) := by kernel_rfl
theorem fa35_1 {a : Step} : fieldAddrV Tryd.prog 35 1 (.d (.ptr (encStep a))) = some (.d (.ptr (encOpn a.o))) := by kernel_rfl
theorem fd35_1 {a : Step} : fieldV Tryd.prog 35 1 (.d (encStep a)) = some (.d (encOpn a.o)) := by kernel_rfl
theorem lr35_1 {a : Step} : loadR Tryd.prog 33 1 (some (.d (encStep a))) = some (.agg [.d (.int .i64 a.o.does), .d (.str a.o.a), .d (.str a.o.b), .d (.int .i64 a.o.off), .d (.int .i64 a.o.n), .d (encB a.o.data)]) := by kernel_rfl
theorem lra35_1 {x0 x1 x2 x3 x4 x5 x6 x7 x8 : V} : loadR Tryd.prog 33 1 (some (.agg [x0, x1, x2, x3, x4, x5, x6, x7, x8])) = some (.agg [x1, x2, x3, x4, x5, x6]) := by kernel_rfl
theorem sr35_1 {a : Step} {b : Opn} : storeR Tryd.prog 33 1 (.d (encOpn b)) (.d (encStep a)) = some (.agg [.d (.int .i64 a.does), .d (.int .i64 b.does), .d (.str b.a), .d (.str b.b), .d (.int .i64 b.off), .d (.int .i64 b.n), .d (encB b.data), .d (.int .u64 a.w), .d (.int .i64 a.n)]) := by kernel_rfl
theorem sra35_1 {x0 x1 x2 x3 x4 x5 x6 x7 x8 : V} {b : Opn} : storeR Tryd.prog 33 1 (.d (encOpn b)) (.agg [x0, x1, x2, x3, x4, x5, x6, x7, x8]) = some (.agg [x0, .d (.int .i64 b.does), .d (.str b.a), .d (.str b.b), .d (.int .i64 b.off), .d (.int .i64 b.n), .d (encB b.data), x7, x8]) := by kernel_rfl
theorem srn35_1 {a : Step} {y0 y1 y2 y3 y4 y5 : V} : storeR Tryd.prog 33 1 (.agg [y0, y1, y2, y3, y4, y5]) (.d (encStep a)) = some (.agg [.d (.int .i64 a.does), y0, y1, y2, y3, y4, y5, .d (.int .u64 a.w), .d (.int .i64 a.n)]) := by kernel_rfl
theorem srna35_1 {x0 x1 x2 x3 x4 x5 x6 x7 x8 y0 y1 y2 y3 y4 y5 : V} : storeR Tryd.prog 33 1 (.agg [y0, y1, y2, y3, y4, y5]) (.agg [x0, x1, x2, x3, x4, x5, x6, x7, x8]) = some (.agg [x0, y0, y1, y2, y3, y4, y5, x7, x8]) := by kernel_rfl
theorem fr35_1 {j x y : Nat} : fieldAddrV Tryd.prog 35 1 (.ref j x y) = some (.ref j x (y + 1)) := by kernel_rfl
theorem fa35_2 {a : Step} : fieldAddrV Tryd.prog 35 2 (.d (.ptr (encStep a))) = some (.d (.ptr (.int .u64 a.w))) := by kernel_rfl
theorem fd35_2 {a : Step} : fieldV Tryd.prog 35 2 (.d (encStep a)) = some (.d (.int .u64 a.w)) := by kernel_rfl
theorem lr35_2 {a : Step} : loadR Tryd.prog 26 7 (some (.d (encStep a))) = some ((.d (.int .u64 a.w))) := by kernel_rfl
theorem lra35_2 {x0 x1 x2 x3 x4 x5 x6 x7 x8 : V} : loadR Tryd.prog 26 7 (some (.agg [x0, x1, x2, x3, x4, x5, x6, x7, x8])) = some x7 := by kernel_rfl
theorem sr35_2 {a : Step} {v : V} (h1 : fitsT Tryd.prog 26 v = true) (h2 : v.cells = [v]) : storeR Tryd.prog 26 7 v (.d (encStep a)) = some (.agg [.d (.int .i64 a.does), .d (.int .i64 a.o.does), .d (.str a.o.a), .d (.str a.o.b), .d (.int .i64 a.o.off), .d (.int .i64 a.o.n), .d (encB a.o.data), v, .d (.int .i64 a.n)]) := by simp only [storeR, h1, h2]; rfl
theorem sra35_2 {x0 x1 x2 x3 x4 x5 x6 x7 x8 v : V} (h1 : fitsT Tryd.prog 26 v = true) (h2 : v.cells = [v]) : storeR Tryd.prog 26 7 v (.agg [x0, x1, x2, x3, x4, x5, x6, x7, x8]) = some (.agg [x0, x1, x2, x3, x4, x5, x6, v, x8]) := by simp only [storeR, h1, h2]; rfl
theorem fr35_2 {j x y : Nat} : fieldAddrV Tryd.prog 35 2 (.ref j x y) = some (.ref j x (y + 7)) := by kernel_rfl
theorem fa35_3 {a : Step} : fieldAddrV Tryd.prog 35 3 (.d (.ptr (encStep a))) = some (.d (.ptr (.int .i64 a.n))) := by kernel_rfl
theorem fd35_3 {a : Step} : fieldV Tryd.prog 35 3 (.d (encStep a)) = some (.d (.int .i64 a.n)) := by kernel_rfl
theorem lr35_3 {a : Step} : loadR Tryd.prog 3 8 (some (.d (encStep a))) = some ((.d (.int .i64 a.n))) := by kernel_rfl
theorem lra35_3 {x0 x1 x2 x3 x4 x5 x6 x7 x8 : V} : loadR Tryd.prog 3 8 (some (.agg [x0, x1, x2, x3, x4, x5, x6, x7, x8])) = some x8 := by kernel_rfl
theorem sr35_3 {a : Step} {v : V} (h1 : fitsT Tryd.prog 3 v = true) (h2 : v.cells = [v]) : storeR Tryd.prog 3 8 v (.d (encStep a)) = some (.agg [.d (.int .i64 a.does), .d (.int .i64 a.o.does), .d (.str a.o.a), .d (.str a.o.b), .d (.int .i64 a.o.off), .d (.int .i64 a.o.n), .d (encB a.o.data), .d (.int .u64 a.w), v]) := by simp only [storeR, h1, h2]; rfl
theorem sra35_3 {x0 x1 x2 x3 x4 x5 x6 x7 x8 v : V} (h1 : fitsT Tryd.prog 3 v = true) (h2 : v.cells = [v]) : storeR Tryd.prog 3 8 v (.agg [x0, x1, x2, x3, x4, x5, x6, x7, x8]) = some (.agg [x0, x1, x2, x3, x4, x5, x6, x7, v]) := by simp only [storeR, h1, h2]; rfl
theorem sri35_3 {a : Step} {x : Int} : storeR Tryd.prog 3 8 (.d (.int .i64 x)) (.d (encStep a)) = some (.agg [.d (.int .i64 a.does), .d (.int .i64 a.o.does), .d (.str a.o.a), .d (.str a.o.b), .d (.int .i64 a.o.off), .d (.int .i64 a.o.n), .d (encB a.o.data), .d (.int .u64 a.w), .d (.int .i64 x)]) := by kernel_rfl
theorem sria35_3 {x0 x1 x2 x3 x4 x5 x6 x7 x8 : V} {x : Int} : storeR Tryd.prog 3 8 (.d (.int .i64 x)) (.agg [x0, x1, x2, x3, x4, x5, x6, x7, x8]) = some (.agg [x0, x1, x2, x3, x4, x5, x6, x7, .d (.int .i64 x)]) := by kernel_rfl
theorem fr35_3 {j x y : Nat} : fieldAddrV Tryd.prog 35 3 (.ref j x y) = some (.ref j x (y + 8)) := by kernel_rfl
theorem fits28 (a : Step) : fitsD Tryd.prog 28 (encStep a) = true := by kernel_rfl
theorem fitsT28 (a : Step) : fitsT Tryd.prog 28 (.d (encStep a)) = true := by kernel_rfl
theorem z28 : zeroV Tryd.prog 28 = some (.agg [.d (.int .i64 0), .d (.int .i64 0), .d (.str []), .d (.str []), .d (.int .i64 0), .d (.int .i64 0), .ts [], .d (.int .u64 0), .d (.int .i64 0)]) := by kernel_rfl
theorem zf28 : fitsT Tryd.prog 28 (.agg [.d (.int .i64 0), .d (.int .i64 0), .d (.str []), .d (.str []), .d (.int .i64 0), .d (.int .i64 0), .ts [], .d (.int .u64 0), .d (.int .i64 0)]) = true := by kernel_rfl
theorem zz28  : zeroV Tryd.prog 28 = some (.agg [.d (.int .i64 0), .d (.int .i64 0), .d (.str []), .d (.str []), .d (.int .i64 0), .d (.int .i64 0), .ts [], .d (.int .u64 0), .d (.int .i64 0)]) := z28
theorem zzf28  : fitsT Tryd.prog 28 (.agg [.d (.int .i64 0), .d (.int .i64 0), .d (.str []), .d (.str []), .d (.int .i64 0), .d (.int .i64 0), .ts [], .d (.int .u64 0), .d (.int .i64 0)]) = true := zf28
theorem ff28 {a : Step} : fitsT Tryd.prog 28 (.d (encStep a)) = true := by kernel_rfl
theorem ffa28 {x0 x1 x2 x3 x4 x5 x6 x7 x8 : V} : fitsT Tryd.prog 28 (.agg [x0, x1, x2, x3, x4, x5, x6, x7, x8]) = true := by kernel_rfl
theorem lr28 {a : Step} : loadR Tryd.prog 28 0 (some (.d (encStep a))) = some (.d (encStep a)) := by kernel_rfl
theorem lra28 {x0 x1 x2 x3 x4 x5 x6 x7 x8 : V} : loadR Tryd.prog 28 0 (some (.agg [x0, x1, x2, x3, x4, x5, x6, x7, x8])) = some (.agg [x0, x1, x2, x3, x4, x5, x6, x7, x8]) := by kernel_rfl
theorem sr28 {a b : Step} : storeR Tryd.prog 28 0 (.d (encStep a)) (.d (encStep b)) = some (.d (encStep a)) := by kernel_rfl
theorem srb28 {a : Step} {x0 x1 x2 x3 x4 x5 x6 x7 x8 : V} : storeR Tryd.prog 28 0 (.d (encStep a)) (.agg [x0, x1, x2, x3, x4, x5, x6, x7, x8]) = some (.d (encStep a)) := by kernel_rfl
theorem src28 {a : Step} {x0 x1 x2 x3 x4 x5 x6 x7 x8 : V} : storeR Tryd.prog 28 0 (.agg [x0, x1, x2, x3, x4, x5, x6, x7, x8]) (.d (encStep a)) = some (.agg [x0, x1, x2, x3, x4, x5, x6, x7, x8]) := by kernel_rfl
theorem srd28 {x0 x1 x2 x3 x4 x5 x6 x7 x8 y0 y1 y2 y3 y4 y5 y6 y7 y8 : V} : storeR Tryd.prog 28 0 (.agg [x0, x1, x2, x3, x4, x5, x6, x7, x8]) (.agg [y0, y1, y2, y3, y4, y5, y6, y7, y8]) = some (.agg [x0, x1, x2, x3, x4, x5, x6, x7, x8]) := by kernel_rfl
theorem ld28 {S : Store} {a : Step} : loadV Tryd.prog S 28 (.d (.ptr (encStep a))) = some (.d (encStep a)) := by kernel_rfl
theorem fa28_0 {a : Step} : fieldAddrV Tryd.prog 28 0 (.d (.ptr (encStep a))) = some (.d (.ptr (.int .i64 a.does))) := by kernel_rfl
theorem fd28_0 {a : Step} : fieldV Tryd.prog 28 0 (.d (encStep a)) = some (.d (.int .i64 a.does)) := by kernel_rfl
theorem lr28_0 {a : Step} : loadR Tryd.prog 3 0 (some (.d (encStep a))) = some ((.d (.int .i64 a.does))) := by kernel_rfl
theorem lra28_0 {x0 x1 x2 x3 x4 x5 x6 x7 x8 : V} : loadR Tryd.prog 3 0 (some (.agg [x0, x1, x2, x3, x4, x5, x6, x7, x8])) = some x0 := by kernel_rfl
theorem sr28_0 {a : Step} {v : V} (h1 : fitsT Tryd.prog 3 v = true) (h2 : v.cells = [v]) : storeR Tryd.prog 3 0 v (.d (encStep a)) = some (.agg [v, .d (.int .i64 a.o.does), .d (.str a.o.a), .d (.str a.o.b), .d (.int .i64 a.o.off), .d (.int .i64 a.o.n), .d (encB a.o.data), .d (.int .u64 a.w), .d (.int .i64 a.n)]) := by simp only [storeR, h1, h2]; rfl
theorem sra28_0 {x0 x1 x2 x3 x4 x5 x6 x7 x8 v : V} (h1 : fitsT Tryd.prog 3 v = true) (h2 : v.cells = [v]) : storeR Tryd.prog 3 0 v (.agg [x0, x1, x2, x3, x4, x5, x6, x7, x8]) = some (.agg [v, x1, x2, x3, x4, x5, x6, x7, x8]) := by simp only [storeR, h1, h2]; rfl
theorem sri28_0 {a : Step} {x : Int} : storeR Tryd.prog 3 0 (.d (.int .i64 x)) (.d (encStep a)) = some (.agg [.d (.int .i64 x), .d (.int .i64 a.o.does), .d (.str a.o.a), .d (.str a.o.b), .d (.int .i64 a.o.off), .d (.int .i64 a.o.n), .d (encB a.o.data), .d (.int .u64 a.w), .d (.int .i64 a.n)]) := by kernel_rfl
theorem sria28_0 {x0 x1 x2 x3 x4 x5 x6 x7 x8 : V} {x : Int} : storeR Tryd.prog 3 0 (.d (.int .i64 x)) (.agg [x0, x1, x2, x3, x4, x5, x6, x7, x8]) = some (.agg [.d (.int .i64 x), x1, x2, x3, x4, x5, x6, x7, x8]) := by kernel_rfl
theorem fr28_0 {j x y : Nat} : fieldAddrV Tryd.prog 28 0 (.ref j x y) = some (.ref j x (y + 0)) := by kernel_rfl
theorem fa28_1 {a : Step} : fieldAddrV Tryd.prog 28 1 (.d (.ptr (encStep a))) = some (.d (.ptr (encOpn a.o))) := by kernel_rfl
theorem fd28_1 {a : Step} : fieldV Tryd.prog 28 1 (.d (encStep a)) = some (.d (encOpn a.o)) := by kernel_rfl
theorem lr28_1 {a : Step} : loadR Tryd.prog 25 1 (some (.d (encStep a))) = some (.agg [.d (.int .i64 a.o.does), .d (.str a.o.a), .d (.str a.o.b), .d (.int .i64 a.o.off), .d (.int .i64 a.o.n), .d (encB a.o.data)]) := by kernel_rfl
theorem lra28_1 {x0 x1 x2 x3 x4 x5 x6 x7 x8 : V} : loadR Tryd.prog 25 1 (some (.agg [x0, x1, x2, x3, x4, x5, x6, x7, x8])) = some (.agg [x1, x2, x3, x4, x5, x6]) := by kernel_rfl
theorem sr28_1 {a : Step} {b : Opn} : storeR Tryd.prog 25 1 (.d (encOpn b)) (.d (encStep a)) = some (.agg [.d (.int .i64 a.does), .d (.int .i64 b.does), .d (.str b.a), .d (.str b.b), .d (.int .i64 b.off), .d (.int .i64 b.n), .d (encB b.data), .d (.int .u64 a.w), .d (.int .i64 a.n)]) := by kernel_rfl
theorem sra28_1 {x0 x1 x2 x3 x4 x5 x6 x7 x8 : V} {b : Opn} : storeR Tryd.prog 25 1 (.d (encOpn b)) (.agg [x0, x1, x2, x3, x4, x5, x6, x7, x8]) = some (.agg [x0, .d (.int .i64 b.does), .d (.str b.a), .d (.str b.b), .d (.int .i64 b.off), .d (.int .i64 b.n), .d (encB b.data), x7, x8]) := by kernel_rfl
theorem srn28_1 {a : Step} {y0 y1 y2 y3 y4 y5 : V} : storeR Tryd.prog 25 1 (.agg [y0, y1, y2, y3, y4, y5]) (.d (encStep a)) = some (.agg [.d (.int .i64 a.does), y0, y1, y2, y3, y4, y5, .d (.int .u64 a.w), .d (.int .i64 a.n)]) := by kernel_rfl
theorem srna28_1 {x0 x1 x2 x3 x4 x5 x6 x7 x8 y0 y1 y2 y3 y4 y5 : V} : storeR Tryd.prog 25 1 (.agg [y0, y1, y2, y3, y4, y5]) (.agg [x0, x1, x2, x3, x4, x5, x6, x7, x8]) = some (.agg [x0, y0, y1, y2, y3, y4, y5, x7, x8]) := by kernel_rfl
theorem fr28_1 {j x y : Nat} : fieldAddrV Tryd.prog 28 1 (.ref j x y) = some (.ref j x (y + 1)) := by kernel_rfl
theorem fa28_2 {a : Step} : fieldAddrV Tryd.prog 28 2 (.d (.ptr (encStep a))) = some (.d (.ptr (.int .u64 a.w))) := by kernel_rfl
theorem fd28_2 {a : Step} : fieldV Tryd.prog 28 2 (.d (encStep a)) = some (.d (.int .u64 a.w)) := by kernel_rfl
theorem lr28_2 {a : Step} : loadR Tryd.prog 26 7 (some (.d (encStep a))) = some ((.d (.int .u64 a.w))) := by kernel_rfl
theorem lra28_2 {x0 x1 x2 x3 x4 x5 x6 x7 x8 : V} : loadR Tryd.prog 26 7 (some (.agg [x0, x1, x2, x3, x4, x5, x6, x7, x8])) = some x7 := by kernel_rfl
theorem sr28_2 {a : Step} {v : V} (h1 : fitsT Tryd.prog 26 v = true) (h2 : v.cells = [v]) : storeR Tryd.prog 26 7 v (.d (encStep a)) = some (.agg [.d (.int .i64 a.does), .d (.int .i64 a.o.does), .d (.str a.o.a), .d (.str a.o.b), .d (.int .i64 a.o.off), .d (.int .i64 a.o.n), .d (encB a.o.data), v, .d (.int .i64 a.n)]) := by simp only [storeR, h1, h2]; rfl
theorem sra28_2 {x0 x1 x2 x3 x4 x5 x6 x7 x8 v : V} (h1 : fitsT Tryd.prog 26 v = true) (h2 : v.cells = [v]) : storeR Tryd.prog 26 7 v (.agg [x0, x1, x2, x3, x4, x5, x6, x7, x8]) = some (.agg [x0, x1, x2, x3, x4, x5, x6, v, x8]) := by simp only [storeR, h1, h2]; rfl
theorem fr28_2 {j x y : Nat} : fieldAddrV Tryd.prog 28 2 (.ref j x y) = some (.ref j x (y + 7)) := by kernel_rfl
theorem fa28_3 {a : Step} : fieldAddrV Tryd.prog 28 3 (.d (.ptr (encStep a))) = some (.d (.ptr (.int .i64 a.n))) := by kernel_rfl
theorem fd28_3 {a : Step} : fieldV Tryd.prog 28 3 (.d (encStep a)) = some (.d (.int .i64 a.n)) := by kernel_rfl
theorem lr28_3 {a : Step} : loadR Tryd.prog 3 8 (some (.d (encStep a))) = some ((.d (.int .i64 a.n))) := by kernel_rfl
theorem lra28_3 {x0 x1 x2 x3 x4 x5 x6 x7 x8 : V} : loadR Tryd.prog 3 8 (some (.agg [x0, x1, x2, x3, x4, x5, x6, x7, x8])) = some x8 := by kernel_rfl
theorem sr28_3 {a : Step} {v : V} (h1 : fitsT Tryd.prog 3 v = true) (h2 : v.cells = [v]) : storeR Tryd.prog 3 8 v (.d (encStep a)) = some (.agg [.d (.int .i64 a.does), .d (.int .i64 a.o.does), .d (.str a.o.a), .d (.str a.o.b), .d (.int .i64 a.o.off), .d (.int .i64 a.o.n), .d (encB a.o.data), .d (.int .u64 a.w), v]) := by simp only [storeR, h1, h2]; rfl
theorem sra28_3 {x0 x1 x2 x3 x4 x5 x6 x7 x8 v : V} (h1 : fitsT Tryd.prog 3 v = true) (h2 : v.cells = [v]) : storeR Tryd.prog 3 8 v (.agg [x0, x1, x2, x3, x4, x5, x6, x7, x8]) = some (.agg [x0, x1, x2, x3, x4, x5, x6, x7, v]) := by simp only [storeR, h1, h2]; rfl
theorem sri28_3 {a : Step} {x : Int} : storeR Tryd.prog 3 8 (.d (.int .i64 x)) (.d (encStep a)) = some (.agg [.d (.int .i64 a.does), .d (.int .i64 a.o.does), .d (.str a.o.a), .d (.str a.o.b), .d (.int .i64 a.o.off), .d (.int .i64 a.o.n), .d (encB a.o.data), .d (.int .u64 a.w), .d (.int .i64 x)]) := by kernel_rfl
theorem sria28_3 {x0 x1 x2 x3 x4 x5 x6 x7 x8 : V} {x : Int} : storeR Tryd.prog 3 8 (.d (.int .i64 x)) (.agg [x0, x1, x2, x3, x4, x5, x6, x7, x8]) = some (.agg [x0, x1, x2, x3, x4, x5, x6, x7, .d (.int .i64 x)]) := by kernel_rfl
theorem fr28_3 {j x y : Nat} : fieldAddrV Tryd.prog 28 3 (.ref j x y) = some (.ref j x (y + 8)) := by kernel_rfl
theorem zOk23 : zOk Tryd.prog 5 = true := by kernel_rfl
theorem szo23 : (sz Tryd.prog 5).isSome = true := by kernel_rfl
theorem room23 {m : Nat} (h : m ≤ 1000000) : room Tryd.prog 5 m = true := room_of rfl (by decide +kernel) h
theorem ix23 {S : Store} {l : List UInt8} {i : Nat} (h : i < l.length) : indexAddrV Tryd.prog S 23 (.d (.sl (l.map (fun b : UInt8 => D.int .u8 b.toNat)))) (.d (.int .i64 i)) = some (.d (.ptr (.int .u8 (l[i].toNat : Int)))) := ix_map Tryd.underlying23 (fun a => fits5 _) h
theorem len23 {S : Store} {xs : List D} : builtinV Tryd.prog S .len [23] [.d (.sl xs)] = some (.val (.d (.int .i64 xs.length)) S 0) := len_sl Tryd.underlying23
theorem lents23 {S : Store} {xs : List D} : builtinV Tryd.prog S .len [23] [.ts xs] = some (.val (.d (.int .i64 xs.length)) S 0) := len_ts Tryd.underlying23
theorem lenrs23 {S : Store} {i o m : Nat} : builtinV Tryd.prog S .len [23] [.rs i o m] = some (.val (.d (.int .i64 m)) S 0) := len_rs Tryd.underlying23
theorem bs23 {S : Store} {a : Int} : bs1 Tryd.prog S 23 (.d (.int .u8 a)) = some (.val (.ts [.int .u8 a]) S 0) := by kernel_rfl
theorem ap23 {S : Store} {v : V} {xs : List UInt8} (a : UInt8) (ho : OwnS S v 5 (xs.map fun x => .d (.int .u8 x.toNat))) (hl : xs.length < 1000000) : ∃ v' S' c, appendV Tryd.prog S 23 23 v (.ts [.int .u8 a.toNat]) = some (v', S', c) ∧ OwnS S' v' 5 ((xs ++ [a]).map fun x => .d (.int .u8 x.toNat)) ∧ (∀ j o, S[j]? = some o → NotAt v j → S'[j]? = some o ∧ NotAt v' j) ∧ S.length ≤ S'.length := append_enc (enc := fun x : UInt8 => D.int .u8 x.toNat) a Tryd.underlying23 zOk23 szo23 (fits5 _) ho (room23 (by omega))
theorem zOk56 : zOk Tryd.prog 9 = true := by kernel_rfl
theorem szo56 : (sz Tryd.prog 9).isSome = true := by kernel_rfl
theorem room56 {m : Nat} (h : m ≤ 1000000) : room Tryd.prog 9 m = true := room_of rfl (by decide +kernel) h
theorem ix56 {S : Store} {l : List (List UInt8)} {i : Nat} (h : i < l.length) : indexAddrV Tryd.prog S 56 (.d (.sl (l.map (D.str)))) (.d (.int .i64 i)) = some (.d (.ptr ((D.str) l[i]))) := ix_map Tryd.underlying56 (fun a => fits9 a) h
theorem len56 {S : Store} {xs : List D} : builtinV Tryd.prog S .len [56] [.d (.sl xs)] = some (.val (.d (.int .i64 xs.length)) S 0) := len_sl Tryd.underlying56
theorem lents56 {S : Store} {xs : List D} : builtinV Tryd.prog S .len [56] [.ts xs] = some (.val (.d (.int .i64 xs.length)) S 0) := len_ts Tryd.underlying56
theorem lenrs56 {S : Store} {i o m : Nat} : builtinV Tryd.prog S .len [56] [.rs i o m] = some (.val (.d (.int .i64 m)) S 0) := len_rs Tryd.underlying56
theorem bs56 {S : Store} {a : (List UInt8)} : bs1 Tryd.prog S 56 (.d (.str a)) = some (.val (.ts [.str a]) S 0) := by kernel_rfl
theorem ap56 {S : Store} {v : V} {xs : List (List UInt8)} (a : (List UInt8)) (ho : OwnS S v 9 (xs.map fun x => .d (D.str x))) (hl : xs.length < 1000000) : ∃ v' S' c, appendV Tryd.prog S 56 56 v (.ts [D.str a]) = some (v', S', c) ∧ OwnS S' v' 9 ((xs ++ [a]).map fun x => .d (D.str x)) ∧ (∀ j o, S[j]? = some o → NotAt v j → S'[j]? = some o ∧ NotAt v' j) ∧ S.length ≤ S'.length := append_enc a Tryd.underlying56 zOk56 szo56 (fits9 a) ho (room56 (by omega))
theorem zOk90 : zOk Tryd.prog 33 = true := by kernel_rfl
theorem szo90 : (sz Tryd.prog 33).isSome = true := by kernel_rfl
theorem room90 {m : Nat} (h : m ≤ 1000000) : room Tryd.prog 33 m = true := room_of rfl (by decide +kernel) h
theorem ix90 {S : Store} {l : List Opn} {i : Nat} (h : i < l.length) : indexAddrV Tryd.prog S 90 (.d (.sl (l.map (encOpn)))) (.d (.int .i64 i)) = some (.d (.ptr ((encOpn) l[i]))) := ix_map Tryd.underlying90 (fits33) h
theorem len90 {S : Store} {xs : List D} : builtinV Tryd.prog S .len [90] [.d (.sl xs)] = some (.val (.d (.int .i64 xs.length)) S 0) := len_sl Tryd.underlying90
theorem lents90 {S : Store} {xs : List D} : builtinV Tryd.prog S .len [90] [.ts xs] = some (.val (.d (.int .i64 xs.length)) S 0) := len_ts Tryd.underlying90
theorem lenrs90 {S : Store} {i o m : Nat} : builtinV Tryd.prog S .len [90] [.rs i o m] = some (.val (.d (.int .i64 m)) S 0) := len_rs Tryd.underlying90
theorem bs90 {S : Store} {a : Opn} : bs1 Tryd.prog S 90 (.d (encOpn a)) = some (.val (.ts [encOpn a]) S 0) := by kernel_rfl
theorem ap90 {S : Store} {v : V} {xs : List Opn} (a : Opn) (ho : OwnS S v 33 (xs.map fun x => .d (encOpn x))) (hl : xs.length < 1000000) : ∃ v' S' c, appendV Tryd.prog S 90 90 v (.ts [encOpn a]) = some (v', S', c) ∧ OwnS S' v' 33 ((xs ++ [a]).map fun x => .d (encOpn x)) ∧ (∀ j o, S[j]? = some o → NotAt v j → S'[j]? = some o ∧ NotAt v' j) ∧ S.length ≤ S'.length := append_enc a Tryd.underlying90 zOk90 szo90 (fits33 a) ho (room90 (by omega))
theorem zOk42 : zOk Tryd.prog 35 = true := by kernel_rfl
theorem szo42 : (sz Tryd.prog 35).isSome = true := by kernel_rfl
theorem room42 {m : Nat} (h : m ≤ 1000000) : room Tryd.prog 35 m = true := room_of rfl (by decide +kernel) h
theorem ix42 {S : Store} {l : List Step} {i : Nat} (h : i < l.length) : indexAddrV Tryd.prog S 42 (.d (.sl (l.map (encStep)))) (.d (.int .i64 i)) = some (.d (.ptr ((encStep) l[i]))) := ix_map Tryd.underlying42 (fits35) h
theorem len42 {S : Store} {xs : List D} : builtinV Tryd.prog S .len [42] [.d (.sl xs)] = some (.val (.d (.int .i64 xs.length)) S 0) := len_sl Tryd.underlying42
theorem lents42 {S : Store} {xs : List D} : builtinV Tryd.prog S .len [42] [.ts xs] = some (.val (.d (.int .i64 xs.length)) S 0) := len_ts Tryd.underlying42
theorem lenrs42 {S : Store} {i o m : Nat} : builtinV Tryd.prog S .len [42] [.rs i o m] = some (.val (.d (.int .i64 m)) S 0) := len_rs Tryd.underlying42
theorem bs42 {S : Store} {a : Step} : bs1 Tryd.prog S 42 (.d (encStep a)) = some (.val (.ts [encStep a]) S 0) := by kernel_rfl
theorem ap42 {S : Store} {v : V} {xs : List Step} (a : Step) (ho : OwnS S v 35 (xs.map fun x => .d (encStep x))) (hl : xs.length < 1000000) : ∃ v' S' c, appendV Tryd.prog S 42 42 v (.ts [encStep a]) = some (v', S', c) ∧ OwnS S' v' 35 ((xs ++ [a]).map fun x => .d (encStep x)) ∧ (∀ j o, S[j]? = some o → NotAt v j → S'[j]? = some o ∧ NotAt v' j) ∧ S.length ≤ S'.length := append_enc a Tryd.underlying42 zOk42 szo42 (fits35 a) ho (room42 (by omega))
theorem zOk43 : zOk Tryd.prog 28 = true := by kernel_rfl
theorem szo43 : (sz Tryd.prog 28).isSome = true := by kernel_rfl
theorem room43 {m : Nat} (h : m ≤ 1000000) : room Tryd.prog 28 m = true := room_of rfl (by decide +kernel) h
theorem ix43 {S : Store} {l : List Step} {i : Nat} (h : i < l.length) : indexAddrV Tryd.prog S 43 (.d (.sl (l.map (encStep)))) (.d (.int .i64 i)) = some (.d (.ptr ((encStep) l[i]))) := ix_map Tryd.underlying43 (fits28) h
theorem len43 {S : Store} {xs : List D} : builtinV Tryd.prog S .len [43] [.d (.sl xs)] = some (.val (.d (.int .i64 xs.length)) S 0) := len_sl Tryd.underlying43
theorem lents43 {S : Store} {xs : List D} : builtinV Tryd.prog S .len [43] [.ts xs] = some (.val (.d (.int .i64 xs.length)) S 0) := len_ts Tryd.underlying43
theorem lenrs43 {S : Store} {i o m : Nat} : builtinV Tryd.prog S .len [43] [.rs i o m] = some (.val (.d (.int .i64 m)) S 0) := len_rs Tryd.underlying43
theorem bs43 {S : Store} {a : Step} : bs1 Tryd.prog S 43 (.d (encStep a)) = some (.val (.ts [encStep a]) S 0) := by kernel_rfl
theorem ap43 {S : Store} {v : V} {xs : List Step} (a : Step) (ho : OwnS S v 28 (xs.map fun x => .d (encStep x))) (hl : xs.length < 1000000) : ∃ v' S' c, appendV Tryd.prog S 43 43 v (.ts [encStep a]) = some (v', S', c) ∧ OwnS S' v' 28 ((xs ++ [a]).map fun x => .d (encStep x)) ∧ (∀ j o, S[j]? = some o → NotAt v j → S'[j]? = some o ∧ NotAt v' j) ∧ S.length ≤ S'.length := append_enc a Tryd.underlying43 zOk43 szo43 (fits28 a) ho (room43 (by omega))
theorem ixstr {s : List UInt8} {i : Nat} (h : i < s.length) : indexV Tryd.prog 9 (.d (.str s)) (.d (.int .i64 i)) = some (.d (.int .u8 s[i].toNat)) := idx_str Tryd.underlying9 h
theorem lenstr {S : Store} {s : List UInt8} : builtinV Tryd.prog S .len [9] [.d (.str s)] = some (.val (.d (.int .i64 s.length)) S 0) := len_str Tryd.underlying9
theorem body3 : bodyOf Tryd.prog 3 = some ⟨Tryd.f3.body.getD .skip, 52, #[.tmp 2]⟩ := by
  unfold bodyOf
  rw [Tryd.func3]
  rfl
theorem bo3  : (bodyOf Tryd.prog 3).isSome = true := by kernel_rfl
theorem sh3  : cfg.shared 3 = false := by kernel_rfl
theorem body4 : bodyOf Tryd.prog 4 = some ⟨Tryd.f4.body.getD .skip, 94, #[.tmp 4]⟩ := by
  unfold bodyOf
  rw [Tryd.func4]
  rfl
theorem bo4  : (bodyOf Tryd.prog 4).isSome = true := by kernel_rfl
theorem sh4  : cfg.shared 4 = false := by kernel_rfl
theorem body7 : bodyOf Tryd.prog 7 = some ⟨Tryd.f7.body.getD .skip, 36, #[.tmp 0]⟩ := by
  unfold bodyOf
  rw [Tryd.func7]
  rfl
theorem bo7  : (bodyOf Tryd.prog 7).isSome = true := by kernel_rfl
theorem sh7  : cfg.shared 7 = false := by kernel_rfl
theorem body10 : bodyOf Tryd.prog 10 = some ⟨Tryd.f10.body.getD .skip, 13, #[.cell 2 35]⟩ := by
  unfold bodyOf
  rw [Tryd.func10]
  rfl
theorem bo10  : (bodyOf Tryd.prog 10).isSome = true := by kernel_rfl
theorem sh10  : cfg.shared 10 = false := by kernel_rfl
theorem body8 : bodyOf Tryd.prog 8 = some ⟨Tryd.f8.body.getD .skip, 25, #[.cell 2 28, .tmp 3]⟩ := by
  unfold bodyOf
  rw [Tryd.func8]
  rfl
theorem bo8  : (bodyOf Tryd.prog 8).isSome = true := by kernel_rfl
theorem sh8  : cfg.shared 8 = false := by kernel_rfl
theorem body15 : bodyOf Tryd.prog 15 = some ⟨Tryd.f15.body.getD .skip, 29, #[.tmp 2, .tmp 3]⟩ := by
  unfold bodyOf
  rw [Tryd.func15]
  rfl
theorem bo15  : (bodyOf Tryd.prog 15).isSome = true := by kernel_rfl
theorem sh15  : cfg.shared 15 = false := by kernel_rfl
theorem body16 : bodyOf Tryd.prog 16 = some ⟨Tryd.f16.body.getD .skip, 31, #[.tmp 4]⟩ := by
  unfold bodyOf
  rw [Tryd.func16]
  rfl
theorem bo16  : (bodyOf Tryd.prog 16).isSome = true := by kernel_rfl
theorem sh16  : cfg.shared 16 = false := by kernel_rfl
theorem body17 : bodyOf Tryd.prog 17 = some ⟨Tryd.f17.body.getD .skip, 26, #[.cell 2 28]⟩ := by
  unfold bodyOf
  rw [Tryd.func17]
  rfl
theorem bo17  : (bodyOf Tryd.prog 17).isSome = true := by kernel_rfl
theorem sh17  : cfg.shared 17 = false := by kernel_rfl
theorem body20 : bodyOf Tryd.prog 20 = some ⟨Tryd.f20.body.getD .skip, 57, #[.cell 2 28]⟩ := by
  unfold bodyOf
  rw [Tryd.func20]
  rfl
theorem bo20  : (bodyOf Tryd.prog 20).isSome = true := by kernel_rfl
theorem sh20  : cfg.shared 20 = false := by kernel_rfl
theorem body39 : bodyOf Tryd.prog 39 = some ⟨Tryd.f39.body.getD .skip, 12, #[.tmp 3]⟩ := by
  unfold bodyOf
  rw [Tryd.func39]
  rfl
theorem bo39  : (bodyOf Tryd.prog 39).isSome = true := by kernel_rfl
theorem sh39  : cfg.shared 39 = true := by kernel_rfl
theorem body40 : bodyOf Tryd.prog 40 = some ⟨Tryd.f40.body.getD .skip, 14, #[.tmp 3]⟩ := by
  unfold bodyOf
  rw [Tryd.func40]
  rfl
theorem bo40  : (bodyOf Tryd.prog 40).isSome = true := by kernel_rfl
theorem sh40  : cfg.shared 40 = true := by kernel_rfl
theorem body30 : bodyOf Tryd.prog 30 = some ⟨Tryd.f30.body.getD .skip, 63, #[.tmp 2, .tmp 3]⟩ := by
  unfold bodyOf
  rw [Tryd.func30]
  rfl
theorem bo30  : (bodyOf Tryd.prog 30).isSome = true := by kernel_rfl
theorem sh30  : cfg.shared 30 = false := by kernel_rfl
theorem body31 : bodyOf Tryd.prog 31 = some ⟨Tryd.f31.body.getD .skip, 5, #[.tmp 2]⟩ := by
  unfold bodyOf
  rw [Tryd.func31]
  rfl
theorem bo31  : (bodyOf Tryd.prog 31).isSome = true := by kernel_rfl
theorem sh31  : cfg.shared 31 = false := by kernel_rfl
theorem body32 : bodyOf Tryd.prog 32 = some ⟨Tryd.f32.body.getD .skip, 21, #[.tmp 2]⟩ := by
  unfold bodyOf
  rw [Tryd.func32]
  rfl
theorem bo32  : (bodyOf Tryd.prog 32).isSome = true := by kernel_rfl
theorem sh32  : cfg.shared 32 = false := by kernel_rfl
theorem body33 : bodyOf Tryd.prog 33 = some ⟨Tryd.f33.body.getD .skip, 5, #[.tmp 2]⟩ := by
  unfold bodyOf
  rw [Tryd.func33]
  rfl
theorem bo33  : (bodyOf Tryd.prog 33).isSome = true := by kernel_rfl
theorem sh33  : cfg.shared 33 = false := by kernel_rfl
theorem body42 : bodyOf Tryd.prog 42 = some ⟨Tryd.f42.body.getD .skip, 34, #[.tmp 2, .tmp 3]⟩ := by
  unfold bodyOf
  rw [Tryd.func42]
  rfl
theorem bo42  : (bodyOf Tryd.prog 42).isSome = true := by kernel_rfl
theorem sh42  : cfg.shared 42 = false := by kernel_rfl
theorem body44 : bodyOf Tryd.prog 44 = some ⟨Tryd.f44.body.getD .skip, 50, #[.tmp 2, .tmp 3]⟩ := by
  unfold bodyOf
  rw [Tryd.func44]
  rfl
theorem bo44  : (bodyOf Tryd.prog 44).isSome = true := by kernel_rfl
theorem sh44  : cfg.shared 44 = false := by kernel_rfl
theorem body54 : bodyOf Tryd.prog 54 = some ⟨Tryd.f54.body.getD .skip, 18, #[.tmp 2]⟩ := by
  unfold bodyOf
  rw [Tryd.func54]
  rfl
theorem bo54  : (bodyOf Tryd.prog 54).isSome = true := by kernel_rfl
theorem sh54  : cfg.shared 54 = false := by kernel_rfl
theorem body55 : bodyOf Tryd.prog 55 = some ⟨Tryd.f55.body.getD .skip, 22, #[.tmp 2]⟩ := by
  unfold bodyOf
  rw [Tryd.func55]
  rfl
theorem bo55  : (bodyOf Tryd.prog 55).isSome = true := by kernel_rfl
theorem sh55  : cfg.shared 55 = false := by kernel_rfl
theorem body56 : bodyOf Tryd.prog 56 = some ⟨Tryd.f56.body.getD .skip, 32, #[.tmp 2]⟩ := by
  unfold bodyOf
  rw [Tryd.func56]
  rfl
theorem bo56  : (bodyOf Tryd.prog 56).isSome = true := by kernel_rfl
theorem sh56  : cfg.shared 56 = false := by kernel_rfl
theorem body34 : bodyOf Tryd.prog 34 = some ⟨Tryd.f34.body.getD .skip, 47, #[.tmp 4]⟩ := by
  unfold bodyOf
  rw [Tryd.func34]
  rfl
theorem bo34  : (bodyOf Tryd.prog 34).isSome = true := by kernel_rfl
theorem sh34  : cfg.shared 34 = false := by kernel_rfl
theorem body35 : bodyOf Tryd.prog 35 = some ⟨Tryd.f35.body.getD .skip, 42, #[.cell 2 25]⟩ := by
  unfold bodyOf
  rw [Tryd.func35]
  rfl
theorem bo35  : (bodyOf Tryd.prog 35).isSome = true := by kernel_rfl
theorem sh35  : cfg.shared 35 = false := by kernel_rfl
theorem body43 : bodyOf Tryd.prog 43 = some ⟨Tryd.f43.body.getD .skip, 13, #[.tmp 2]⟩ := by
  unfold bodyOf
  rw [Tryd.func43]
  rfl
theorem bo43  : (bodyOf Tryd.prog 43).isSome = true := by kernel_rfl
theorem sh43  : cfg.shared 43 = false := by kernel_rfl
theorem body52 : bodyOf Tryd.prog 52 = some ⟨Tryd.f52.body.getD .skip, 17, #[.tmp 2]⟩ := by
  unfold bodyOf
  rw [Tryd.func52]
  rfl
theorem bo52  : (bodyOf Tryd.prog 52).isSome = true := by kernel_rfl
theorem sh52  : cfg.shared 52 = false := by kernel_rfl
theorem body53 : bodyOf Tryd.prog 53 = some ⟨Tryd.f53.body.getD .skip, 14, #[.tmp 2]⟩ := by
  unfold bodyOf
  rw [Tryd.func53]
  rfl
theorem bo53  : (bodyOf Tryd.prog 53).isSome = true := by kernel_rfl
theorem sh53  : cfg.shared 53 = false := by kernel_rfl
theorem body9 : bodyOf Tryd.prog 9 = some ⟨Tryd.f9.body.getD .skip, 31, #[.tmp 4]⟩ := by
  unfold bodyOf
  rw [Tryd.func9]
  rfl
theorem bo9  : (bodyOf Tryd.prog 9).isSome = true := by kernel_rfl
theorem sh9  : cfg.shared 9 = false := by kernel_rfl
theorem body11 : bodyOf Tryd.prog 11 = some ⟨Tryd.f11.body.getD .skip, 29, #[.tmp 2, .tmp 3]⟩ := by
  unfold bodyOf
  rw [Tryd.func11]
  rfl
theorem bo11  : (bodyOf Tryd.prog 11).isSome = true := by kernel_rfl
theorem sh11  : cfg.shared 11 = false := by kernel_rfl
theorem body12 : bodyOf Tryd.prog 12 = some ⟨Tryd.f12.body.getD .skip, 27, #[.cell 2 35]⟩ := by
  unfold bodyOf
  rw [Tryd.func12]
  rfl
theorem bo12  : (bodyOf Tryd.prog 12).isSome = true := by kernel_rfl
theorem sh12  : cfg.shared 12 = false := by kernel_rfl
theorem body13 : bodyOf Tryd.prog 13 = some ⟨Tryd.f13.body.getD .skip, 8, #[.tmp 4]⟩ := by
  unfold bodyOf
  rw [Tryd.func13]
  rfl
theorem bo13  : (bodyOf Tryd.prog 13).isSome = true := by kernel_rfl
theorem sh13  : cfg.shared 13 = false := by kernel_rfl
theorem body14 : bodyOf Tryd.prog 14 = some ⟨Tryd.f14.body.getD .skip, 37, #[.tmp 2]⟩ := by
  unfold bodyOf
  rw [Tryd.func14]
  rfl
theorem bo14  : (bodyOf Tryd.prog 14).isSome = true := by kernel_rfl
theorem sh14  : cfg.shared 14 = false := by kernel_rfl
theorem body22 : bodyOf Tryd.prog 22 = some ⟨Tryd.f22.body.getD .skip, 45, #[.tmp 4]⟩ := by
  unfold bodyOf
  rw [Tryd.func22]
  rfl
theorem bo22  : (bodyOf Tryd.prog 22).isSome = true := by kernel_rfl
theorem sh22  : cfg.shared 22 = false := by kernel_rfl
theorem body23 : bodyOf Tryd.prog 23 = some ⟨Tryd.f23.body.getD .skip, 16, #[.cell 2 33]⟩ := by
  unfold bodyOf
  rw [Tryd.func23]
  rfl
theorem bo23  : (bodyOf Tryd.prog 23).isSome = true := by kernel_rfl
theorem sh23  : cfg.shared 23 = false := by kernel_rfl
theorem body24 : bodyOf Tryd.prog 24 = some ⟨Tryd.f24.body.getD .skip, 88, #[.tmp 2, .tmp 3]⟩ := by
  unfold bodyOf
  rw [Tryd.func24]
  rfl
theorem bo24  : (bodyOf Tryd.prog 24).isSome = true := by kernel_rfl
theorem sh24  : cfg.shared 24 = false := by kernel_rfl
theorem body25 : bodyOf Tryd.prog 25 = some ⟨Tryd.f25.body.getD .skip, 19, #[.tmp 2]⟩ := by
  unfold bodyOf
  rw [Tryd.func25]
  rfl
theorem bo25  : (bodyOf Tryd.prog 25).isSome = true := by kernel_rfl
theorem sh25  : cfg.shared 25 = false := by kernel_rfl
theorem body26 : bodyOf Tryd.prog 26 = some ⟨Tryd.f26.body.getD .skip, 30, #[.tmp 2]⟩ := by
  unfold bodyOf
  rw [Tryd.func26]
  rfl
theorem bo26  : (bodyOf Tryd.prog 26).isSome = true := by kernel_rfl
theorem sh26  : cfg.shared 26 = false := by kernel_rfl
theorem body27 : bodyOf Tryd.prog 27 = some ⟨Tryd.f27.body.getD .skip, 53, #[.cell 2 33]⟩ := by
  unfold bodyOf
  rw [Tryd.func27]
  rfl
theorem bo27  : (bodyOf Tryd.prog 27).isSome = true := by kernel_rfl
theorem sh27  : cfg.shared 27 = false := by kernel_rfl
theorem body28 : bodyOf Tryd.prog 28 = some ⟨Tryd.f28.body.getD .skip, 23, #[.tmp 4]⟩ := by
  unfold bodyOf
  rw [Tryd.func28]
  rfl
theorem bo28  : (bodyOf Tryd.prog 28).isSome = true := by kernel_rfl
theorem sh28  : cfg.shared 28 = false := by kernel_rfl
theorem body29 : bodyOf Tryd.prog 29 = some ⟨Tryd.f29.body.getD .skip, 18, #[.cell 2 25]⟩ := by
  unfold bodyOf
  rw [Tryd.func29]
  rfl
theorem bo29  : (bodyOf Tryd.prog 29).isSome = true := by kernel_rfl
theorem sh29  : cfg.shared 29 = false := by kernel_rfl
theorem body46 : bodyOf Tryd.prog 46 = some ⟨Tryd.f46.body.getD .skip, 26, #[.tmp 4]⟩ := by
  unfold bodyOf
  rw [Tryd.func46]
  rfl
theorem bo46  : (bodyOf Tryd.prog 46).isSome = true := by kernel_rfl
theorem sh46  : cfg.shared 46 = false := by kernel_rfl
theorem body47 : bodyOf Tryd.prog 47 = some ⟨Tryd.f47.body.getD .skip, 17, #[.tmp 2]⟩ := by
  unfold bodyOf
  rw [Tryd.func47]
  rfl
theorem bo47  : (bodyOf Tryd.prog 47).isSome = true := by kernel_rfl
theorem sh47  : cfg.shared 47 = false := by kernel_rfl
theorem body48 : bodyOf Tryd.prog 48 = some ⟨Tryd.f48.body.getD .skip, 2, #[.tmp 0]⟩ := by
  unfold bodyOf
  rw [Tryd.func48]
  rfl
theorem bo48  : (bodyOf Tryd.prog 48).isSome = true := by kernel_rfl
theorem sh48  : cfg.shared 48 = false := by kernel_rfl
theorem body49 : bodyOf Tryd.prog 49 = some ⟨Tryd.f49.body.getD .skip, 23, #[.tmp 2]⟩ := by
  unfold bodyOf
  rw [Tryd.func49]
  rfl
theorem bo49  : (bodyOf Tryd.prog 49).isSome = true := by kernel_rfl
theorem sh49  : cfg.shared 49 = false := by kernel_rfl
theorem body50 : bodyOf Tryd.prog 50 = some ⟨Tryd.f50.body.getD .skip, 39, #[.tmp 2]⟩ := by
  unfold bodyOf
  rw [Tryd.func50]
  rfl
theorem bo50  : (bodyOf Tryd.prog 50).isSome = true := by kernel_rfl
theorem sh50  : cfg.shared 50 = false := by kernel_rfl
theorem body51 : bodyOf Tryd.prog 51 = some ⟨Tryd.f51.body.getD .skip, 41, #[.tmp 4]⟩ := by
  unfold bodyOf
  rw [Tryd.func51]
  rfl
theorem bo51  : (bodyOf Tryd.prog 51).isSome = true := by kernel_rfl
theorem sh51  : cfg.shared 51 = false := by kernel_rfl
theorem body5 : bodyOf Tryd.prog 5 = some ⟨Tryd.f5.body.getD .skip, 154, #[.tmp 4]⟩ := by
  unfold bodyOf
  rw [Tryd.func5]
  rfl
theorem bo5  : (bodyOf Tryd.prog 5).isSome = true := by kernel_rfl
theorem sh5  : cfg.shared 5 = false := by kernel_rfl
theorem body6 : bodyOf Tryd.prog 6 = some ⟨Tryd.f6.body.getD .skip, 111, #[.tmp 6]⟩ := by
  unfold bodyOf
  rw [Tryd.func6]
  rfl
theorem bo6  : (bodyOf Tryd.prog 6).isSome = true := by kernel_rfl
theorem sh6  : cfg.shared 6 = false := by kernel_rfl
theorem body18 : bodyOf Tryd.prog 18 = some ⟨Tryd.f18.body.getD .skip, 28, #[.tmp 2, .tmp 3]⟩ := by
  unfold bodyOf
  rw [Tryd.func18]
  rfl
theorem bo18  : (bodyOf Tryd.prog 18).isSome = true := by kernel_rfl
theorem sh18  : cfg.shared 18 = false := by kernel_rfl
theorem body19 : bodyOf Tryd.prog 19 = some ⟨Tryd.f19.body.getD .skip, 33, #[.tmp 2, .tmp 3]⟩ := by
  unfold bodyOf
  rw [Tryd.func19]
  rfl
theorem bo19  : (bodyOf Tryd.prog 19).isSome = true := by kernel_rfl
theorem sh19  : cfg.shared 19 = false := by kernel_rfl
set_option linter.defProp false
/-- The facts. -/
def ty :=
  And.intro @ff3 <|
  And.intro @ld3 <|
  And.intro @ff29 <|
  And.intro @ld29 <|
  And.intro @ff5 <|
  And.intro @ld5 <|
  And.intro @ff9 <|
  And.intro @ld9 <|
  And.intro @ff4 <|
  And.intro @ld4 <|
  And.intro @ff26 <|
  And.intro @ld26 <|
  And.intro @ff23 <|
  And.intro @ld23 <|
  And.intro @ff56 <|
  And.intro @ld56 <|
  And.intro @ff90 <|
  And.intro @ld90 <|
  And.intro @ff42 <|
  And.intro @ld42 <|
  And.intro @ff43 <|
  And.intro @ld43 <|
  And.intro @zz33 <|
  And.intro @zzf33 <|
  And.intro @ff33 <|
  And.intro @ffa33 <|
  And.intro @lr33 <|
  And.intro @lra33 <|
  And.intro @sr33 <|
  And.intro @srb33 <|
  And.intro @src33 <|
  And.intro @srd33 <|
  And.intro @ld33 <|
  And.intro @fa33_0 <|
  And.intro @fd33_0 <|
  And.intro @lr33_0 <|
  And.intro @lra33_0 <|
  And.intro @sr33_0 <|
  And.intro @sra33_0 <|
  And.intro @sri33_0 <|
  And.intro @sria33_0 <|
  And.intro @fr33_0 <|
  And.intro @fa33_1 <|
  And.intro @fd33_1 <|
  And.intro @lr33_1 <|
  And.intro @lra33_1 <|
  And.intro @sr33_1 <|
  And.intro @sra33_1 <|
  And.intro @fr33_1 <|
  And.intro @fa33_2 <|
  And.intro @fd33_2 <|
  And.intro @lr33_2 <|
  And.intro @lra33_2 <|
  And.intro @sr33_2 <|
  And.intro @sra33_2 <|
  And.intro @fr33_2 <|
  And.intro @fa33_3 <|
  And.intro @fd33_3 <|
  And.intro @lr33_3 <|
  And.intro @lra33_3 <|
  And.intro @sr33_3 <|
  And.intro @sra33_3 <|
  And.intro @sri33_3 <|
  And.intro @sria33_3 <|
  And.intro @fr33_3 <|
  And.intro @fa33_4 <|
  And.intro @fd33_4 <|
  And.intro @lr33_4 <|
  And.intro @lra33_4 <|
  And.intro @sr33_4 <|
  And.intro @sra33_4 <|
  And.intro @sri33_4 <|
  And.intro @sria33_4 <|
  And.intro @fr33_4 <|
  And.intro @fa33_5 <|
  And.intro @fd33_5 <|
  And.intro @lr33_5 <|
  And.intro @lra33_5 <|
  And.intro @sr33_5 <|
  And.intro @sra33_5 <|
  And.intro @fr33_5 <|
  And.intro @zz25 <|
  And.intro @zzf25 <|
  And.intro @ff25 <|
  And.intro @ffa25 <|
  And.intro @lr25 <|
  And.intro @lra25 <|
  And.intro @sr25 <|
  And.intro @srb25 <|
  And.intro @src25 <|
  And.intro @srd25 <|
  And.intro @ld25 <|
  And.intro @fa25_0 <|
  And.intro @fd25_0 <|
  And.intro @lr25_0 <|
  And.intro @lra25_0 <|
  And.intro @sr25_0 <|
  And.intro @sra25_0 <|
  And.intro @sri25_0 <|
  And.intro @sria25_0 <|
  And.intro @fr25_0 <|
  And.intro @fa25_1 <|
  And.intro @fd25_1 <|
  And.intro @lr25_1 <|
  And.intro @lra25_1 <|
  And.intro @sr25_1 <|
  And.intro @sra25_1 <|
  And.intro @fr25_1 <|
  And.intro @fa25_2 <|
  And.intro @fd25_2 <|
  And.intro @lr25_2 <|
  And.intro @lra25_2 <|
  And.intro @sr25_2 <|
  And.intro @sra25_2 <|
  And.intro @fr25_2 <|
  And.intro @fa25_3 <|
  And.intro @fd25_3 <|
  And.intro @lr25_3 <|
  And.intro @lra25_3 <|
  And.intro @sr25_3 <|
  And.intro @sra25_3 <|
  And.intro @sri25_3 <|
  And.intro @sria25_3 <|
  And.intro @fr25_3 <|
  And.intro @fa25_4 <|
  And.intro @fd25_4 <|
  And.intro @lr25_4 <|
  And.intro @lra25_4 <|
  And.intro @sr25_4 <|
  And.intro @sra25_4 <|
  And.intro @sri25_4 <|
  And.intro @sria25_4 <|
  And.intro @fr25_4 <|
  And.intro @fa25_5 <|
  And.intro @fd25_5 <|
  And.intro @lr25_5 <|
  And.intro @lra25_5 <|
  And.intro @sr25_5 <|
  And.intro @sra25_5 <|
  And.intro @fr25_5 <|
  And.intro @zz35 <|
  And.intro @zzf35 <|
  And.intro @ff35 <|
  And.intro @ffa35 <|
  And.intro @lr35 <|
  And.intro @lra35 <|
  And.intro @sr35 <|
  And.intro @srb35 <|
  And.intro @src35 <|
  And.intro @srd35 <|
  And.intro @ld35 <|
  And.intro @fa35_0 <|
  And.intro @fd35_0 <|
  And.intro @lr35_0 <|
  And.intro @lra35_0 <|
  And.intro @sr35_0 <|
  And.intro @sra35_0 <|
  And.intro @sri35_0 <|
  And.intro @sria35_0 <|
  And.intro @fr35_0 <|
  And.intro @fa35_1 <|
  And.intro @fd35_1 <|
  And.intro @lr35_1 <|
  And.intro @lra35_1 <|
  And.intro @sr35_1 <|
  And.intro @sra35_1 <|
  And.intro @srn35_1 <|
  And.intro @srna35_1 <|
  And.intro @fr35_1 <|
  And.intro @fa35_2 <|
  And.intro @fd35_2 <|
  And.intro @lr35_2 <|
  And.intro @lra35_2 <|
  And.intro @sr35_2 <|
  And.intro @sra35_2 <|
  And.intro @fr35_2 <|
  And.intro @fa35_3 <|
  And.intro @fd35_3 <|
  And.intro @lr35_3 <|
  And.intro @lra35_3 <|
  And.intro @sr35_3 <|
  And.intro @sra35_3 <|
  And.intro @sri35_3 <|
  And.intro @sria35_3 <|
  And.intro @fr35_3 <|
  And.intro @zz28 <|
  And.intro @zzf28 <|
  And.intro @ff28 <|
  And.intro @ffa28 <|
  And.intro @lr28 <|
  And.intro @lra28 <|
  And.intro @sr28 <|
  And.intro @srb28 <|
  And.intro @src28 <|
  And.intro @srd28 <|
  And.intro @ld28 <|
  And.intro @fa28_0 <|
  And.intro @fd28_0 <|
  And.intro @lr28_0 <|
  And.intro @lra28_0 <|
  And.intro @sr28_0 <|
  And.intro @sra28_0 <|
  And.intro @sri28_0 <|
  And.intro @sria28_0 <|
  And.intro @fr28_0 <|
  And.intro @fa28_1 <|
  And.intro @fd28_1 <|
  And.intro @lr28_1 <|
  And.intro @lra28_1 <|
  And.intro @sr28_1 <|
  And.intro @sra28_1 <|
  And.intro @srn28_1 <|
  And.intro @srna28_1 <|
  And.intro @fr28_1 <|
  And.intro @fa28_2 <|
  And.intro @fd28_2 <|
  And.intro @lr28_2 <|
  And.intro @lra28_2 <|
  And.intro @sr28_2 <|
  And.intro @sra28_2 <|
  And.intro @fr28_2 <|
  And.intro @fa28_3 <|
  And.intro @fd28_3 <|
  And.intro @lr28_3 <|
  And.intro @lra28_3 <|
  And.intro @sr28_3 <|
  And.intro @sra28_3 <|
  And.intro @sri28_3 <|
  And.intro @sria28_3 <|
  And.intro @fr28_3 <|
  And.intro @ix23 <|
  And.intro @len23 <|
  And.intro @lents23 <|
  And.intro @lenrs23 <|
  And.intro @bs23 <|
  And.intro @ix56 <|
  And.intro @len56 <|
  And.intro @lents56 <|
  And.intro @lenrs56 <|
  And.intro @bs56 <|
  And.intro @ix90 <|
  And.intro @len90 <|
  And.intro @lents90 <|
  And.intro @lenrs90 <|
  And.intro @bs90 <|
  And.intro @ix42 <|
  And.intro @len42 <|
  And.intro @lents42 <|
  And.intro @lenrs42 <|
  And.intro @bs42 <|
  And.intro @ix43 <|
  And.intro @len43 <|
  And.intro @lents43 <|
  And.intro @lenrs43 <|
  And.intro @bs43 <|
  And.intro @ixstr <|
  And.intro @lenstr <|
  And.intro @bo3 <|
  And.intro @sh3 <|
  And.intro @bo4 <|
  And.intro @sh4 <|
  And.intro @bo7 <|
  And.intro @sh7 <|
  And.intro @bo10 <|
  And.intro @sh10 <|
  And.intro @bo8 <|
  And.intro @sh8 <|
  And.intro @bo15 <|
  And.intro @sh15 <|
  And.intro @bo16 <|
  And.intro @sh16 <|
  And.intro @bo17 <|
  And.intro @sh17 <|
  And.intro @bo20 <|
  And.intro @sh20 <|
  And.intro @bo39 <|
  And.intro @sh39 <|
  And.intro @bo40 <|
  And.intro @sh40 <|
  And.intro @bo30 <|
  And.intro @sh30 <|
  And.intro @bo31 <|
  And.intro @sh31 <|
  And.intro @bo32 <|
  And.intro @sh32 <|
  And.intro @bo33 <|
  And.intro @sh33 <|
  And.intro @bo42 <|
  And.intro @sh42 <|
  And.intro @bo44 <|
  And.intro @sh44 <|
  And.intro @bo54 <|
  And.intro @sh54 <|
  And.intro @bo55 <|
  And.intro @sh55 <|
  And.intro @bo56 <|
  And.intro @sh56 <|
  And.intro @bo34 <|
  And.intro @sh34 <|
  And.intro @bo35 <|
  And.intro @sh35 <|
  And.intro @bo43 <|
  And.intro @sh43 <|
  And.intro @bo52 <|
  And.intro @sh52 <|
  And.intro @bo53 <|
  And.intro @sh53 <|
  And.intro @bo9 <|
  And.intro @sh9 <|
  And.intro @bo11 <|
  And.intro @sh11 <|
  And.intro @bo12 <|
  And.intro @sh12 <|
  And.intro @bo13 <|
  And.intro @sh13 <|
  And.intro @bo14 <|
  And.intro @sh14 <|
  And.intro @bo22 <|
  And.intro @sh22 <|
  And.intro @bo23 <|
  And.intro @sh23 <|
  And.intro @bo24 <|
  And.intro @sh24 <|
  And.intro @bo25 <|
  And.intro @sh25 <|
  And.intro @bo26 <|
  And.intro @sh26 <|
  And.intro @bo27 <|
  And.intro @sh27 <|
  And.intro @bo28 <|
  And.intro @sh28 <|
  And.intro @bo29 <|
  And.intro @sh29 <|
  And.intro @bo46 <|
  And.intro @sh46 <|
  And.intro @bo47 <|
  And.intro @sh47 <|
  And.intro @bo48 <|
  And.intro @sh48 <|
  And.intro @bo49 <|
  And.intro @sh49 <|
  And.intro @bo50 <|
  And.intro @sh50 <|
  And.intro @bo51 <|
  And.intro @sh51 <|
  And.intro @bo5 <|
  And.intro @sh5 <|
  And.intro @bo6 <|
  And.intro @sh6 <|
  And.intro @bo18 <|
  And.intro @sh18 <|
  And.intro @bo19 @sh19
end Go.Proofs.YteapjcgeckpknaaDoor
end
/-! Numbers as digits: the document's number is the library's; words with one blank between. -/
section
set_option linter.unusedVariables false
set_option linter.unusedSimpArgs false
set_option maxRecDepth 100000
set_option maxHeartbeats 4000000
namespace Go.Proofs.YteapjcgeckpknaaDoor
open Go.Vm
theorem dec_True {i : Decidable True} : @decide True i = true := decide_eq_true trivial
theorem dne {α : Type} {a : α} {i : Decidable (a ≠ a)} : @decide (a ≠ a) i = false := decide_eq_false (fun h => h rfl)
theorem deq {α : Type} {a : α} {i : Decidable (a = a)} : @decide (a = a) i = true := decide_eq_true rfl
/-! Digits. -/
def decs (a : Nat) : List UInt8 := if a = 0 then [] else Lib.decDigits a
theorem decs_step {a : Nat} (h : a ≠ 0) : decs a = decs (a / 10) ++ [UInt8.ofNat (48 + a % 10)] := by
  unfold decs
  rw [if_neg h, Lib.decDigits]
  by_cases h10 : a < 10
  · rw [dif_pos h10, if_pos (by omega), show a % 10 = a by omega]
    rfl
  · rw [dif_neg h10, if_neg (by omega)]
theorem sl_digit {S : Store} : ∀ (d : Nat), d < 10 → sliceV Tryd.prog S 9 (.d (.str [48, 49, 50, 51, 52, 53, 54, 55, 56, 57])) (some (.d (.int .i64 (d : Int)))) (some (.d (.int .i64 ((d : Int) + 1)))) = some (.d (.str [UInt8.ofNat (48 + d)]))
  | 0, _ => by kernel_rfl
  | 1, _ => by kernel_rfl
  | 2, _ => by kernel_rfl
  | 3, _ => by kernel_rfl
  | 4, _ => by kernel_rfl
  | 5, _ => by kernel_rfl
  | 6, _ => by kernel_rfl
  | 7, _ => by kernel_rfl
  | 8, _ => by kernel_rfl
  | 9, _ => by kernel_rfl
  | n + 10, h => absurd h (by omega)
theorem num_l (R : Post) (x2 x4 : V) : ∀ (k : Nat) (n : Int) (s : List UInt8) (g1 g5 g6 g7 g8 g9 g10 g11 g12 g13 g14 g15 g16 g17 g18 g19 g20 g21 g22 g23 g24 g25 g26 g27 g28 g29 : V), n.natAbs < 10 ^ k → s.length + k ≤ 20 → -9223372036854775808 ≤ n ∧ n ≤ 9223372036854775807 →
   (∀ g1 g5 g6 g7 g8 g9 g10 g11 g12 g13 g14 g15 g16 g17 g18 g19 g20 g21 g22 g23 g24 g25 g26 g27 g28 g29, R (.exit 0) ((.d (.int .i64 0)) :: g1 :: x2 :: (.d (.str (decs n.natAbs ++ s))) :: x4 :: g5 :: g6 :: g7 :: g8 :: g9 :: g10 :: g11 :: g12 :: g13 :: g14 :: g15 :: g16 :: g17 :: g18 :: g19 :: g20 :: g21 :: g22 :: g23 :: g24 :: g25 :: g26 :: g27 :: g28 :: g29 :: []) [] []) →
   Wp cfg (.loop (lpOf (Tryd.f26.body.getD .skip) 0)) ((.d (.int .i64 n)) :: g1 :: x2 :: (.d (.str s)) :: x4 :: g5 :: g6 :: g7 :: g8 :: g9 :: g10 :: g11 :: g12 :: g13 :: g14 :: g15 :: g16 :: g17 :: g18 :: g19 :: g20 :: g21 :: g22 :: g23 :: g24 :: g25 :: g26 :: g27 :: g28 :: g29 :: []) [] [] R := by
  have fin : ∀ (s : List UInt8) (g1 g5 g6 g7 g8 g9 g10 g11 g12 g13 g14 g15 g16 g17 g18 g19 g20 g21 g22 g23 g24 g25 g26 g27 g28 g29 : V), (∀ g1 g5 g6 g7 g8 g9 g10 g11 g12 g13 g14 g15 g16 g17 g18 g19 g20 g21 g22 g23 g24 g25 g26 g27 g28 g29, R (.exit 0) ((.d (.int .i64 0)) :: g1 :: x2 :: (.d (.str s)) :: x4 :: g5 :: g6 :: g7 :: g8 :: g9 :: g10 :: g11 :: g12 :: g13 :: g14 :: g15 :: g16 :: g17 :: g18 :: g19 :: g20 :: g21 :: g22 :: g23 :: g24 :: g25 :: g26 :: g27 :: g28 :: g29 :: []) [] []) → Wp cfg (.loop (lpOf (Tryd.f26.body.getD .skip) 0)) ((.d (.int .i64 0)) :: g1 :: x2 :: (.d (.str s)) :: x4 :: g5 :: g6 :: g7 :: g8 :: g9 :: g10 :: g11 :: g12 :: g13 :: g14 :: g15 :: g16 :: g17 :: g18 :: g19 :: g20 :: g21 :: g22 :: g23 :: g24 :: g25 :: g26 :: g27 :: g28 :: g29 :: []) [] [] R := by
    intro s g1 g5 g6 g7 g8 g9 g10 g11 g12 g13 g14 g15 g16 g17 g18 g19 g20 g21 g22 g23 g24 g25 g26 g27 g28 g29 hR
    rw [wk_of]
    refine wk_loop ?_
    conv => arg 2; whnf
    simp (maxSteps := 1000000) (disch := first | assumption | omega | rfl) only [↓vmp, vme, vmb, ty, hP, dec_t, dec_f, wrap64, List.length_map, Int.toNat_natCast, Nat.reduceAdd, List.cons_append, List.nil_append, Option.map_some, Option.map_none, strOf_mk, sb_eql, sb_neq, vmg, ↓vgd, ↓vst, ↓vix]
    exact hR _ _ _ _ _ _ _ _ _ _ _ _ _ _ _ _ _ _ _ _ _ _ _ _ _ _
  intro k
  induction k with
  | zero =>
    intro n s g1 g5 g6 g7 g8 g9 g10 g11 g12 g13 g14 g15 g16 g17 g18 g19 g20 g21 g22 g23 g24 g25 g26 g27 g28 g29 hn hs hb hR
    have h0 : n = 0 := by omega
    subst h0
    exact fin s _ _ _ _ _ _ _ _ _ _ _ _ _ _ _ _ _ _ _ _ _ _ _ _ _ _ hR
  | succ k ih =>
    intro n s g1 g5 g6 g7 g8 g9 g10 g11 g12 g13 g14 g15 g16 g17 g18 g19 g20 g21 g22 g23 g24 g25 g26 g27 g28 g29 hn hs hb hR
    by_cases h0 : n = 0
    · subst h0
      exact fin s _ _ _ _ _ _ _ _ _ _ _ _ _ _ _ _ _ _ _ _ _ _ _ _ _ _ hR
    · have hne : n.natAbs ≠ 0 := by omega
      have hq : (n.tdiv 10).natAbs = n.natAbs / 10 := by rw [Int.natAbs_tdiv]; rfl
      have hlt : (n.tdiv 10).natAbs < 10 ^ k := by
        rw [hq]
        have : 10 ^ (k + 1) = 10 ^ k * 10 := Nat.pow_succ ..
        omega
      have hm : (n.tmod 10).natAbs = n.natAbs % 10 := by rw [Int.natAbs_tmod]; rfl
      have hd10 : n.natAbs % 10 < 10 := Nat.mod_lt _ (by decide)
      have hbq : -9223372036854775808 ≤ n.tdiv 10 ∧ n.tdiv 10 ≤ 9223372036854775807 := by omega
      rw [decs_step hne, List.append_assoc, ← hq] at hR
      have hrem : binV Tryd.prog .rem 3 (.d (.int .i64 n)) (.d (.int .i64 10)) = some (.d (.int .i64 (n.tmod 10))) := by
        simp only [binV, intBin]
        rfl
      have hquo : binV Tryd.prog .quo 3 (.d (.int .i64 n)) (.d (.int .i64 10)) = some (.d (.int .i64 (n.tdiv 10))) := by
        simp only [binV, intBin]
        rw [if_pos trivial, if_neg (by decide), wrap64 hbq]
        rfl
      have hsl := fun S => sl_digit (S := S) (n.natAbs % 10) hd10
      have hadd : strBin .add [UInt8.ofNat (48 + n.natAbs % 10)] s = some (.str ([UInt8.ofNat (48 + n.natAbs % 10)] ++ s)) := sb_add (by simp; omega)
      rw [wk_of]
      refine wk_loop ?_
      conv => arg 2; whnf
      by_cases hneg : n.tmod 10 < 0
      · have e : n.tmod 10 = -((n.natAbs % 10 : Nat) : Int) := by omega
        have hun : unV .neg (.d (.int .i64 (n.tmod 10))) = some (.d (.int .i64 ((n.natAbs % 10 : Nat) : Int))) := by
          simp only [unV]
          rw [wrap64 (by omega), e]
          congr 3
          omega
        simp (maxSteps := 1000000) (disch := first | assumption | omega | rfl) only [↓vmp, vme, vmb, ty, hP, dec_t, dec_f, wrap64, List.length_map, Int.toNat_natCast, Nat.reduceAdd, List.cons_append, List.nil_append, Option.map_some, Option.map_none, strOf_mk, sb_eql, sb_neq, vmg, ↓vgd, ↓vst, ↓vix, hrem, hquo, hun, hsl, hadd]
        exact ih (n.tdiv 10) _ _ _ _ _ _ _ _ _ _ _ _ _ _ _ _ _ _ _ _ _ _ _ _ _ _ _ hlt (by simp; omega) hbq hR
      · have e : n.tmod 10 = ((n.natAbs % 10 : Nat) : Int) := by omega
        rw [e] at hrem hneg
        simp (maxSteps := 1000000) (disch := first | assumption | omega | rfl) only [↓vmp, vme, vmb, ty, hP, dec_t, dec_f, wrap64, List.length_map, Int.toNat_natCast, Nat.reduceAdd, List.cons_append, List.nil_append, Option.map_some, Option.map_none, strOf_mk, sb_eql, sb_neq, vmg, ↓vgd, ↓vst, ↓vix, hrem, hquo, hsl, hadd]
        exact ih (n.tdiv 10) _ _ _ _ _ _ _ _ _ _ _ _ _ _ _ _ _ _ _ _ _ _ _ _ _ _ _ hlt (by simp; omega) hbq hR
theorem num_ok (n : Int) (hb : -9223372036854775808 ≤ n ∧ n ≤ 9223372036854775807) : Ev cfg 26 [.int .i64 n] (.ret (.d (.str (Lib.itoa n)))) := by
  refine ev_of rfl rfl body26 ?_
  show Wp cfg (Tryd.f26.body.getD .skip) ((.d (.int .i64 n)) :: (.tup []) :: (.tup []) :: (.tup []) :: (.tup []) :: (.tup []) :: (.tup []) :: (.tup []) :: (.tup []) :: (.tup []) :: (.tup []) :: (.tup []) :: (.tup []) :: (.tup []) :: (.tup []) :: (.tup []) :: (.tup []) :: (.tup []) :: (.tup []) :: (.tup []) :: (.tup []) :: (.tup []) :: (.tup []) :: (.tup []) :: (.tup []) :: (.tup []) :: (.tup []) :: (.tup []) :: (.tup []) :: (.tup []) :: []) [] [] _
  conv => arg 2; whnf
  by_cases h0 : n = 0
  · subst h0
    have e : Lib.itoa 0 = [48] := by unfold Lib.itoa; rw [if_neg (by decide)]; unfold Lib.decDigits; rfl
    rw [e]
    simp (maxSteps := 1000000) (disch := first | assumption | omega | rfl) only [↓vmp, vme, vmb, ty, hP, dec_t, dec_f, wrap64, List.length_map, Int.toNat_natCast, Nat.reduceAdd, List.cons_append, List.nil_append, Option.map_some, Option.map_none, strOf_mk, sb_eql, sb_neq, vmg, ↓vgd, ↓vst, ↓vix, dec_True]
    exact retQ_one rfl rfl rfl
  · have hd : decs n.natAbs = Lib.decDigits n.natAbs := by unfold decs; rw [if_neg (by omega)]
    have hp : (10 : Nat) ^ 20 = 100000000000000000000 := by decide
    have h20 : n.natAbs < 10 ^ 20 := by rw [hp]; omega
    have hdl : (decs n.natAbs).length ≤ 20 := by
      have : ∀ (k a : Nat), a < 10 ^ k → (decs a).length ≤ k := fun k => by
        induction k with
        | zero => intro a ha; have : a = 0 := by omega
                  subst this; simp [decs]
        | succ k ih =>
          intro a ha
          by_cases h : a = 0
          · subst h; simp [decs]
          · rw [decs_step h, List.length_append]
            have : 10 ^ (k + 1) = 10 ^ k * 10 := Nat.pow_succ ..
            have := ih (a / 10) (by omega)
            simp
            omega
      exact this 20 _ h20
    simp (maxSteps := 1000000) (disch := first | assumption | omega | rfl) only [↓vmp, vme, vmb, ty, hP, dec_t, dec_f, wrap64, List.length_map, Int.toNat_natCast, Nat.reduceAdd, List.cons_append, List.nil_append, Option.map_some, Option.map_none, strOf_mk, sb_eql, sb_neq, vmg, ↓vgd, ↓vst, ↓vix]
    refine num_l _ _ _ 20 n [] _ _ _ _ _ _ _ _ _ _ _ _ _ _ _ _ _ _ _ _ _ _ _ _ _ _ h20 (by simp) hb ?_
    intro g1 g5 g6 g7 g8 g9 g10 g11 g12 g13 g14 g15 g16 g17 g18 g19 g20 g21 g22 g23 g24 g25 g26 g27 g28 g29
    rw [List.append_nil]
    by_cases hneg : n < 0
    · have e : Lib.itoa n = [45] ++ decs n.natAbs := by unfold Lib.itoa; rw [if_pos hneg, hd]; rfl
      have hadd : strBin .add [45] (decs n.natAbs) = some (.str ([45] ++ decs n.natAbs)) := sb_add (by simp; omega)
      rw [e]
      simp (maxSteps := 1000000) (disch := first | assumption | omega | rfl) only [↓vmp, vme, vmb, ty, hP, dec_t, dec_f, wrap64, List.length_map, Int.toNat_natCast, Nat.reduceAdd, List.cons_append, List.nil_append, Option.map_some, Option.map_none, strOf_mk, sb_eql, sb_neq, vmg, ↓vgd, ↓vst, ↓vix, hadd]
      exact retQ_one rfl rfl rfl
    · have e : Lib.itoa n = decs n.natAbs := by unfold Lib.itoa; rw [if_neg hneg, hd, show n.toNat = n.natAbs by omega]
      rw [e]
      simp (maxSteps := 1000000) (disch := first | assumption | omega | rfl) only [↓vmp, vme, vmb, ty, hP, dec_t, dec_f, wrap64, List.length_map, Int.toNat_natCast, Nat.reduceAdd, List.cons_append, List.nil_append, Option.map_some, Option.map_none, strOf_mk, sb_eql, sb_neq, vmg, ↓vgd, ↓vst, ↓vix]
      exact retQ_one rfl rfl rfl
theorem itoa_len (n : Int) (hb : -9223372036854775808 ≤ n ∧ n ≤ 9223372036854775807) : (Lib.itoa n).length ≤ 21 := by
  have : ∀ (k a : Nat), 0 < k → a < 10 ^ k → (Lib.decDigits a).length ≤ k := fun k => by
    induction k with
    | zero => intro a h; omega
    | succ k ih =>
      intro a _ ha
      rw [Lib.decDigits]
      by_cases h : a < 10
      · rw [dif_pos h]; simp
      · rw [dif_neg h, List.length_append]
        have hp : 10 ^ (k + 1) = 10 ^ k * 10 := Nat.pow_succ ..
        have hk : 0 < k := by
          rcases k with _ | k
          · simp at ha; omega
          · omega
        have := ih (a / 10) hk (by omega)
        simp
        omega
  have hp : (10 : Nat) ^ 20 = 100000000000000000000 := by decide
  unfold Lib.itoa
  split
  · have := this 20 n.natAbs (by omega) (by rw [hp]; omega)
    simp; omega
  · have := this 20 n.toNat (by omega) (by rw [hp]; omega)
    omega
/-! Words with one blank between. -/
theorem join_snoc {l : List (List UInt8)} {x sep : List UInt8} (h : l ≠ []) : Lib.join (l ++ [x]) sep = Lib.join l sep ++ sep ++ x := by
  cases l with
  | nil => exact absurd rfl h
  | cons a r => rw [List.cons_append, Lib.join_cons, Lib.join_cons, Lib.joinTail, Lib.joinTail, List.map_append, List.flatten_append]; simp
theorem strD_map : ∀ (l : List (List UInt8)), allO strD (l.map .str) = some l
  | [] => rfl
  | s :: r => by simp only [List.map_cons, allO, strD, strD_map r]
theorem join_ev (l : List (List UInt8)) (sep : List UInt8) (h1 : l.length ≤ 140737488355328) (h2 : (Lib.join l sep).length ≤ 140737488355328) : Ev cfg 57 [.sl (l.map .str), .str sep] (.ret (.d (.str (Lib.join l sep)))) := by
  refine ⟨0, ?_⟩
  have hx : cfg.ext 57 = some joinX := rfl
  unfold runD answer
  simp only [hx]
  unfold joinX
  simp only [strD_map]
  rw [if_pos ⟨h1, h2⟩]
theorem itoa_ev (n : Int) (h : -9223372036854775808 ≤ n ∧ n ≤ 9223372036854775807) : Ev cfg 58 [.int .i64 n] (.ret (.d (.str (Lib.itoa n)))) := by
  refine ⟨0, ?_⟩
  have hx : cfg.ext 58 = some itoaX := rfl
  unfold runD answer
  simp only [hx]
  unfold itoaX
  simp only
  rw [if_pos h]
theorem line_ok (l : List (List UInt8)) (h1 : l.length ≤ 140737488355328) (h2 : (Lib.join l [32]).length ≤ 140737488355328) : Ev cfg 31 [.sl (l.map .str)] (.ret (.d (.str (Lib.join l [32])))) := by
  have hc : ∀ {ops : Array Oper} {dst : Option Tmp} {k : List Oper} {T : List V} {S : Store} {F : Dfs} {Q : Post}, WpR cfg ops dst k T S F Q (some (.enter 57 [.d (.sl (l.map .str)), .d (.str [32])])) = WpL cfg ops k (putT T dst (.d (.str (Lib.join l [32])))) S F Q := fun {ops dst k T S F Q} => wr_call_d (ds := [.sl (l.map .str), .str [32]]) rfl (join_ev l [32] h1 h2)
  have hbo : (bodyOf Tryd.prog 57).isSome = true := by kernel_rfl
  refine ev_of rfl rfl body31 ?_
  show Wp cfg (Tryd.f31.body.getD .skip) ((.d (.sl (l.map .str))) :: (.tup []) :: (.tup []) :: (.tup []) :: (.tup []) :: []) [] [] _
  conv => arg 2; whnf
  simp (maxSteps := 1000000) (disch := first | assumption | omega | rfl) only [↓vmp, vme, vmb, ty, hP, dec_t, dec_f, wrap64, List.length_map, Int.toNat_natCast, Nat.reduceAdd, List.cons_append, List.nil_append, Option.map_some, Option.map_none, strOf_mk, sb_eql, sb_neq, vmg, ↓vgd, ↓vst, ↓vix, hc, hbo]
  exact retQ_one rfl rfl rfl
end Go.Proofs.YteapjcgeckpknaaDoor
end
/-! Slices in the store: those that grow. -/
section
set_option linter.unusedVariables false
set_option linter.unusedSimpArgs false
set_option maxRecDepth 100000
set_option maxHeartbeats 4000000
namespace Go.Proofs.YteapjcgeckpknaaDoor
open Go.Vm
/-! Slices of the store. -/
abbrev encU (b : UInt8) : D := .int .u8 b.toNat
/-- A slice from its row's begin on; the row may be longer. -/
def SlE {α : Type} (enc : α → D) (S : Store) (v : V) (e : TypeId) (xs : List α) : Prop := (v = .ts [] ∧ xs = []) ∨ ∃ id ys, v = .rs id 0 xs.length ∧ S[id]? = some (.row ((xs ++ ys).map fun a => .d (enc a)) e)
def Keep (S S' : Store) : Prop := ∀ (j : Nat) (o : Ob), S[j]? = some o → S'[j]? = some o
theorem Keep.refl {S : Store} : Keep S S := fun _ _ h => h
theorem Keep.trans {S S' S'' : Store} (h : Keep S S') (h' : Keep S' S'') : Keep S S'' := fun j o hj => h' j o (h j o hj)
theorem Keep.app {S l : Store} : Keep S (S ++ l) := fun j o hj => by rw [List.getElem?_append_left (getLen hj)]; exact hj
theorem Keep.len {S S' : Store} (h : Keep S S') : S.length ≤ S'.length := by
  cases hl : S.length with
  | zero => omega
  | succ n =>
    obtain ⟨o, ho⟩ : ∃ o, S[n]? = some o := ⟨S[n], List.getElem?_eq_getElem (by omega)⟩
    have := getLen (h n o ho)
    omega
theorem Keep.set {S S' : Store} {i : Nat} {o : Ob} (h : Keep S S') (hi : S.length ≤ i) : Keep S (S'.set i o) := fun j q hj => by
  have := getLen hj
  rw [List.getElem?_set_ne (by omega)]
  exact h j q hj
section
variable {α : Type} {enc : α → D} {S S' : Store} {v : V} {e : TypeId} {xs : List α}
theorem SlE.of (h : OwnS S v e (xs.map fun a => .d (enc a))) : SlE enc S v e xs := by
  rcases h with ⟨h1, h2⟩ | ⟨id, h1, h2⟩
  · exact .inl ⟨h1, by simpa using h2⟩
  · exact .inr ⟨id, [], by simpa using h1, by simpa using h2⟩
theorem SlE.keep (h : SlE enc S v e xs) (hk : Keep S S') : SlE enc S' v e xs := by
  rcases h with h | ⟨id, ys, h1, h2⟩
  · exact .inl h
  · exact .inr ⟨id, ys, h1, hk _ _ h2⟩
theorem allO_enc {n : Nat} (l : List α) : allO (frz S (n + 1)) (l.map fun a => .d (enc a)) = some (l.map enc) := by
  have := allO_d (S := S) (n := n) (l.map enc)
  rw [List.map_map] at this
  exact this
theorem SlE.frz (h : SlE enc S v e xs) {n : Nat} : Go.Vm.frz S (n + 2) v = some (.sl (xs.map enc)) := by
  rcases h with ⟨rfl, rfl⟩ | ⟨id, ys, rfl, h1⟩
  · rfl
  · show (match S[id]? with
      | some (.row zs e) => if 0 + xs.length ≤ zs.length && (allO (Go.Vm.frz S (n + 1)) zs).isSome then (allO (Go.Vm.frz S (n + 1)) ((zs.drop 0).take xs.length)).map D.sl else none
      | some (.fz zs e) => if 0 + xs.length ≤ zs.length then some (D.sl ((zs.drop 0).take xs.length)) else none
      | _ => none) = _
    have h2 : (((xs ++ ys).map fun a => V.d (enc a)).drop 0).take xs.length = xs.map fun a => V.d (enc a) := by
      rw [List.drop_zero, ← List.map_take, List.take_append_of_le_length (Nat.le_refl _), List.take_length]
    simp only [h1, h2, allO_enc, Option.isSome_some, Bool.and_true, Option.map_some]
    rw [if_pos (by simp)]
theorem SlE.len {t e' : TypeId} (hu : Tryd.prog.underlying t = some (.slice e')) (h : SlE enc S v e xs) : builtinV Tryd.prog S .len [t] [v] = some (.val (.d (.int .i64 xs.length)) S 0) := by
  rcases h with ⟨rfl, rfl⟩ | ⟨id, ys, rfl, h1⟩
  · exact len_ts hu
  · exact len_rs hu
theorem SlE.ix {t : TypeId} {i : Nat} (hu : Tryd.prog.underlying t = some (.slice e)) (hz : (sz Tryd.prog e).isSome = true) (h : SlE enc S v e xs) (hi : i < xs.length) :
    ∃ id, indexAddrV Tryd.prog S t v (.d (.int .i64 i)) = some (.ref id i 0) ∧ rowE S id i = some (.d (enc xs[i])) ∧ id < S.length := by
  rcases h with ⟨rfl, rfl⟩ | ⟨id, ys, rfl, h1⟩
  · exact absurd hi (by simp)
  · refine ⟨id, ?_, ?_, getLen h1⟩
    · have h0 : (0 : Int) ≤ i := by omega
      have h2 : (i : Int) < xs.length := by omega
      have h3 : rowT S id e = true := by simp only [rowT, h1, beq_self_eq_true]
      simp only [indexAddrV, intOf?, hu, h0, h2, h3, hz, and_self, if_true, Int.toNat_natCast, Nat.zero_add]
    · have h2 : ((xs ++ ys).map fun a => V.d (enc a))[i]? = some (.d (enc xs[i])) := by
        rw [List.getElem?_map, List.getElem?_append_left hi, List.getElem?_eq_getElem hi]; rfl
      simp only [rowE, h1, h2]
/-- Its row. -/
def idOf : V → Option Nat | .rs i _ _ => some i | _ => Option.none
theorem SlE.lt (h : SlE enc S v e xs) {i : Nat} (hi : idOf v = some i) : i < S.length := by
  rcases h with ⟨rfl, _⟩ | ⟨id, ys, rfl, h1⟩
  · cases hi
  · cases hi; exact getLen h1
theorem SlE.frame (h : SlE enc S v e xs) {k : Nat} (hk : idOf v ≠ some k) (hf : ∀ (j : Nat) (ys : List V) (u : TypeId), j ≠ k → S[j]? = some (.row ys u) → S'[j]? = some (.row ys u)) : SlE enc S' v e xs := by
  rcases h with h | ⟨id, ys, rfl, h1⟩
  · exact .inl h
  · exact .inr ⟨id, ys, rfl, hf _ _ _ (fun hh => hk (by rw [hh]; rfl)) h1⟩
end
theorem at_last {S : Store} {o : Ob} : (S ++ [o])[S.length]? = some o := by simp
theorem at_left {S l : Store} {i : Nat} {o : Ob} (h : S[i]? = some o) : (S ++ l)[i]? = some o := Keep.app _ _ h
section
variable {α : Type} {enc : α → D} {S S' : Store} {v : V} {e : TypeId} {xs : List α}
theorem SlE.cells (h : SlE enc S v e xs) : v.cells = [v] := by
  rcases h with ⟨rfl, _⟩ | ⟨id, ys, rfl, _⟩ <;> rfl
theorem SlE.one (h : SlE enc S v e xs) : v.one = true := by
  rcases h with ⟨rfl, _⟩ | ⟨id, ys, rfl, _⟩ <;> rfl
theorem SlE.fits {t : TypeId} (h1 : sz Tryd.prog t = some 1) (h2 : (Tryd.prog.underlying t).isSome = true ∧ aggT Tryd.prog t = false) (h : SlE enc S v e xs) (h0 : fitsT Tryd.prog t (.ts []) = true) (hr : ∀ i n, fitsT Tryd.prog t (.rs i 0 n) = true) : fitsT Tryd.prog t v = true := by
  rcases h with ⟨rfl, _⟩ | ⟨id, ys, rfl, _⟩
  · exact h0
  · exact hr _ _
theorem SlE.same (h : SlE enc S v e xs) : sameV v v = true := by
  rcases h with ⟨rfl, _⟩ | ⟨id, ys, rfl, _⟩ <;> simp [sameV, sameCell, sameCell0, sameAll]
theorem SlE.row (h : SlE enc S v e xs) {i : Nat} (hi : idOf v = some i) : ∃ ys, S[i]? = some (.row ys e) := by
  rcases h with ⟨rfl, _⟩ | ⟨id, ys, rfl, h1⟩
  · cases hi
  · cases hi; exact ⟨_, h1⟩
theorem SlE.frame2 (h : SlE enc S v e xs) (hf : ∀ (j : Nat) (o : Ob), S[j]? = some o → idOf v = some j → S'[j]? = some o) : SlE enc S' v e xs := by
  rcases h with h | ⟨id, ys, rfl, h1⟩
  · exact .inl h
  · exact .inr ⟨id, ys, rfl, hf _ _ h1 rfl⟩
end
theorem app_data {α : Type} {enc : α → D} {t e : TypeId} {S : Store} {v : V} {l ds : List α} (hu : Tryd.prog.underlying t = some (.slice e)) (hz : zOk Tryd.prog e = true) (hs : (sz Tryd.prog e).isSome = true) (hf : ∀ a, fitsT Tryd.prog e (.d (enc a)) = true) (hr : room Tryd.prog e (l.length + ds.length) = true) (h : SlE enc S v e l) :
    ∃ v' S' c, appendV Tryd.prog S t t v (.d (.sl (ds.map enc))) = some (v', S', c) ∧ (c = 1 ∨ c = 2 ∨ c = 3) ∧ SlE enc S' v' e (l ++ ds) ∧ (∀ (j : Nat) (o : Ob), S[j]? = some o → idOf v ≠ some j → S'[j]? = some o) ∧ (∀ i, idOf v' = some i → idOf v = some i ∨ S.length ≤ i) := by
  have hall : ((ds.map enc).map V.d).all (fitsT Tryd.prog e) = true := by
    rw [List.all_eq_true]
    intro x hx
    obtain ⟨y, hy, rfl⟩ := List.mem_map.1 hx
    obtain ⟨a, _, rfl⟩ := List.mem_map.1 hy
    exact hf a
  have src : srcV Tryd.prog S e t (.d (.sl (ds.map enc))) = some ((ds.map enc).map V.d) := by
    simp only [srcV, hu, elemsV, hall, hs, Bool.and_self, if_true]
  cases ds with
  | nil =>
    rw [List.append_nil]
    have src0 : srcV Tryd.prog S e t (.d (.sl [])) = some [] := src
    rcases h with ⟨rfl, rfl⟩ | ⟨id, ys, rfl, h1⟩
    · exact ⟨.ts [], S, 1, by simp only [appendV, hu, src0, List.map_nil], .inl rfl, .inl ⟨rfl, rfl⟩, fun _ _ h _ => h, fun i hi => .inl hi⟩
    · exact ⟨.rs id 0 l.length, S, 1, by simp only [appendV, hu, src0, List.map_nil], .inl rfl, .inr ⟨id, ys, rfl, h1⟩, fun _ _ h _ => h, fun i hi => .inl hi⟩
  | cons a r =>
    have src1 : srcV Tryd.prog S e t (.d (.sl (enc a :: r.map enc))) = some (.d (enc a) :: (r.map enc).map .d) := src
    have hl2 : ((r.map enc).map V.d).length = r.length := by simp
    rcases h with ⟨rfl, rfl⟩ | ⟨id, ys, rfl, h1⟩
    · have hr' : room Tryd.prog e (0 + (r.length + 1)) = true := by simpa using hr
      refine ⟨.rs S.length 0 (0 + (r.length + 1)), S ++ [.row ((a :: r).map fun a => .d (enc a)) e], 2, ?_, .inr (.inl rfl), .inr ⟨S.length, [], by simp, by simp⟩, fun j o hj _ => Keep.app _ _ hj, fun i hi => by cases hi; exact .inr (Nat.le_refl _)⟩
      show appendV Tryd.prog S t t _ (.d (.sl (enc a :: r.map enc))) = _
      simp only [appendV, hu, src1, hz, if_true, List.map_cons, List.all_nil, List.length_nil, hl2, hr', Bool.and_self, List.map_nil, List.nil_append, List.map_map, Function.comp_def, List.length_map]
    · have hid := getLen h1
      have htk : ((l ++ ys).map fun a => V.d (enc a)).take l.length = l.map fun a => V.d (enc a) := by rw [← List.map_take, List.take_append_of_le_length (Nat.le_refl _), List.take_length]
      have hlen : ((l ++ ys).map fun a => V.d (enc a)).length = l.length + ys.length := by simp
      have h2 : l.length ≤ l.length + ys.length := by omega
      have hr' : room Tryd.prog e (l.length + (r.length + 1)) = true := by simpa using hr
      refine ⟨.rs S.length 0 (l.length + (r.length + 1)), S.set id .dead ++ [.row (l.map (fun a => V.d (enc a)) ++ (a :: r).map fun a => .d (enc a)) e], 3, ?_, .inr (.inr rfl), .inr ⟨S.length, [], by simp, ?_⟩, ?_, fun i hi => by cases hi; exact .inr (Nat.le_refl _)⟩
      · show appendV Tryd.prog S t t _ (.d (.sl (enc a :: r.map enc))) = _
        simp only [appendV, hu, src1, hz, if_true, List.map_cons, h1, hlen, hl2, hr', h2, htk, decide_true, Bool.and_self, List.map_map, Function.comp_def, List.length_map]
      · rw [List.getElem?_append_right (by simp)]
        simp
      · intro j o hj hn
        have hjl := getLen hj
        rw [List.getElem?_append_left (by simpa using hjl), List.getElem?_set_ne]
        · exact hj
        · rintro rfl; exact hn rfl
theorem app_ts {S : Store} {t tx : TypeId} {v : V} {xs : List D} : appendV Tryd.prog S t tx v (.ts xs) = appendV Tryd.prog S t tx v (.d (.sl xs)) := by
  have e : ∀ e, srcV Tryd.prog S e tx (.ts xs) = srcV Tryd.prog S e tx (.d (.sl xs)) := fun e => by simp only [srcV, elemsV]
  simp only [appendV, e]
def bs2V (P : Program) (S : Store) (t : TypeId) (v w : V) : Option Rs := opV P S [v, w] ⟨none, .buildSlice t 2 #[(0, .tmp 0), (1, .tmp 1)], 0, "", #[], none⟩
theorem op_bs2 {P : Program} {S : Store} {T : List V} {t : TypeId} {x y : Operand} {dst : Option Tmp} {ty : TypeId} {pos : String} {after : Array Edge} {g : Option (Nat × Bool)} : opV P S T ⟨dst, .buildSlice t 2 #[(0, x), (1, y)], ty, pos, after, g⟩ = bs2V P S t (evalO T x) (evalO T y) := rfl
def bs4V (P : Program) (S : Store) (t : TypeId) (v w x y : V) : Option Rs := opV P S [v, w, x, y] ⟨none, .buildSlice t 4 #[(0, .tmp 0), (1, .tmp 1), (2, .tmp 2), (3, .tmp 3)], 0, "", #[], none⟩
theorem op_bs4 {P : Program} {S : Store} {T : List V} {t : TypeId} {a b c d : Operand} {dst : Option Tmp} {ty : TypeId} {pos : String} {after : Array Edge} {g : Option (Nat × Bool)} : opV P S T ⟨dst, .buildSlice t 4 #[(0, a), (1, b), (2, c), (3, d)], ty, pos, after, g⟩ = bs4V P S t (evalO T a) (evalO T b) (evalO T c) (evalO T d) := rfl
theorem bs2_23 {S : Store} {a b : Int} : bs2V Tryd.prog S 23 (.d (.int .u8 a)) (.d (.int .u8 b)) = some (.val (.ts [.int .u8 a, .int .u8 b]) S 0) := by kernel_rfl
theorem bs2_56 {S : Store} {a b : List UInt8} : bs2V Tryd.prog S 56 (.d (.str a)) (.d (.str b)) = some (.val (.ts [.str a, .str b]) S 0) := by kernel_rfl
theorem bs4_56 {S : Store} {a b c d : List UInt8} : bs4V Tryd.prog S 56 (.d (.str a)) (.d (.str b)) (.d (.str c)) (.d (.str d)) = some (.val (.ts [.str a, .str b, .str c, .str d]) S 0) := by kernel_rfl
theorem op_index {P : Program} {S : Store} {T : List V} {t : TypeId} {x y : Operand} {dst : Option Tmp} {ty : TypeId} {pos : String} {after : Array Edge} {g : Option (Nat × Bool)} : opV P S T ⟨dst, .index t x y, ty, pos, after, g⟩ = (indexV P t (evalO T x) (evalO T y)).map fun v => Rs.val v S 0 := rfl
/-! Digits of bytes. -/
def hexB (d : Nat) : UInt8 := UInt8.ofNat (if d < 10 then 48 + d else 87 + d)
def hexL (b : List UInt8) : List UInt8 := b.flatMap fun x => [hexB (x.toNat / 16), hexB (x.toNat % 16)]
def hexS (b : List UInt8) : List UInt8 := if b.length = 0 then [45] else hexL b
theorem hexL_len (b : List UInt8) : (hexL b).length = 2 * b.length := by
  induction b with
  | nil => rfl
  | cons x r ih =>
    have e : hexL (x :: r) = [hexB (x.toNat / 16), hexB (x.toNat % 16)] ++ hexL r := rfl
    rw [e, List.length_append, ih, List.length_cons]
    simp; omega
theorem sl_hex {S : Store} : ∀ (d : Nat), d < 16 → sliceV Tryd.prog S 9 (.d (.str [48, 49, 50, 51, 52, 53, 54, 55, 56, 57, 97, 98, 99, 100, 101, 102])) (some (.d (.int .i64 (d : Int)))) (some (.d (.int .i64 ((d : Int) + 1)))) = some (.d (.str [hexB d]))
  | 0, _ => by kernel_rfl
  | 1, _ => by kernel_rfl
  | 2, _ => by kernel_rfl
  | 3, _ => by kernel_rfl
  | 4, _ => by kernel_rfl
  | 5, _ => by kernel_rfl
  | 6, _ => by kernel_rfl
  | 7, _ => by kernel_rfl
  | 8, _ => by kernel_rfl
  | 9, _ => by kernel_rfl
  | 10, _ => by kernel_rfl
  | 11, _ => by kernel_rfl
  | 12, _ => by kernel_rfl
  | 13, _ => by kernel_rfl
  | 14, _ => by kernel_rfl
  | 15, _ => by kernel_rfl
  | n + 16, h => absurd h (by omega)
theorem ix_hex : ∀ (d : Nat), d < 16 → indexV Tryd.prog 9 (.d (.str [48, 49, 50, 51, 52, 53, 54, 55, 56, 57, 97, 98, 99, 100, 101, 102])) (.d (.int .u8 (d : Int))) = some (.d (.int .u8 (hexB d).toNat))
  | 0, _ => by kernel_rfl
  | 1, _ => by kernel_rfl
  | 2, _ => by kernel_rfl
  | 3, _ => by kernel_rfl
  | 4, _ => by kernel_rfl
  | 5, _ => by kernel_rfl
  | 6, _ => by kernel_rfl
  | 7, _ => by kernel_rfl
  | 8, _ => by kernel_rfl
  | 9, _ => by kernel_rfl
  | 10, _ => by kernel_rfl
  | 11, _ => by kernel_rfl
  | 12, _ => by kernel_rfl
  | 13, _ => by kernel_rfl
  | 14, _ => by kernel_rfl
  | 15, _ => by kernel_rfl
  | n + 16, h => absurd h (by omega)
theorem and15 : ∀ x : Fin 256, (BitVec.ofInt 8 (x.val : Int) &&& BitVec.ofInt 8 15).toNat = x.val % 16 := by decide +kernel
end Go.Proofs.YteapjcgeckpknaaDoor
end
/-! Bytes as digits: the document's way, then the program's. -/
section
set_option linter.unusedVariables false
set_option linter.unusedSimpArgs false
set_option maxRecDepth 100000
set_option maxHeartbeats 4000000
namespace Go.Proofs.YteapjcgeckpknaaDoor
open Go.Vm
theorem cv53 {S : Store} {x : Nat} (h : x < 256) : convertV Tryd.prog S 5 3 (.d (.int .u8 (x : Int))) = some (.d (.int .i64 (x : Int)), 0) := by
  have h1 : Tryd.prog.underlying 5 = some (.int .u8) := by kernel_rfl
  have h2 : Tryd.prog.underlying 3 = some (.int .i64) := by kernel_rfl
  simp only [convertV, h1, h2]
  rw [wrap64 (by omega)]
theorem hexL_drop {b : List UInt8} {i : Nat} (h : i < b.length) : hexL (b.drop i) = [hexB (b[i].toNat / 16), hexB (b[i].toNat % 16)] ++ hexL (b.drop (i + 1)) := by
  rw [List.drop_eq_getElem_cons h]
  rfl
theorem rhex_l (b : List UInt8) (hl : b.length ≤ 1000000) (R : Post) (x2 : V) : ∀ (k i : Nat) (s : List UInt8) (g1 g5 g6 g7 g8 g9 g10 g11 g12 g13 g14 g15 g16 g17 g18 g19 g20 g21 g22 g23 g24 g25 g26 g27 g28 g29 g30 g31 g32 g33 g34 g35 g36 g37 g38 : V), b.length - i = k → i ≤ b.length → s.length ≤ 2 * i →
   (∀ i' g1 g5 g6 g7 g8 g9 g10 g11 g12 g13 g14 g15 g16 g17 g18 g19 g20 g21 g22 g23 g24 g25 g26 g27 g28 g29 g30 g31 g32 g33 g34 g35 g36 g37 g38, R (.exit 0) ((.d (.sl (b.map fun x => D.int .u8 x.toNat))) :: g1 :: x2 :: (.d (.str (s ++ hexL (b.drop i)))) :: i' :: g5 :: g6 :: g7 :: g8 :: g9 :: g10 :: g11 :: g12 :: g13 :: g14 :: g15 :: g16 :: g17 :: g18 :: g19 :: g20 :: g21 :: g22 :: g23 :: g24 :: g25 :: g26 :: g27 :: g28 :: g29 :: g30 :: g31 :: g32 :: g33 :: g34 :: g35 :: g36 :: g37 :: g38 :: []) [] []) →
   Wp cfg (.loop (lpOf (Tryd.f50.body.getD .skip) 0)) ((.d (.sl (b.map fun x => D.int .u8 x.toNat))) :: g1 :: x2 :: (.d (.str s)) :: (.d (.int .i64 i)) :: g5 :: g6 :: g7 :: g8 :: g9 :: g10 :: g11 :: g12 :: g13 :: g14 :: g15 :: g16 :: g17 :: g18 :: g19 :: g20 :: g21 :: g22 :: g23 :: g24 :: g25 :: g26 :: g27 :: g28 :: g29 :: g30 :: g31 :: g32 :: g33 :: g34 :: g35 :: g36 :: g37 :: g38 :: []) [] [] R := by
  intro k
  induction k with
  | zero =>
    intro i s g1 g5 g6 g7 g8 g9 g10 g11 g12 g13 g14 g15 g16 g17 g18 g19 g20 g21 g22 g23 g24 g25 g26 g27 g28 g29 g30 g31 g32 g33 g34 g35 g36 g37 g38 hk hi hs hR
    have hie : i = b.length := by omega
    rw [hie, List.drop_length, show hexL [] = [] from rfl, List.append_nil] at hR
    rw [wk_of]
    refine wk_loop ?_
    conv => arg 2; whnf
    simp (maxSteps := 1000000) (disch := first | assumption | omega | rfl) only [↓vmp, vme, vmb, ty, hP, dec_t, dec_f, wrap64, List.length_map, Int.toNat_natCast, Nat.reduceAdd, List.cons_append, List.nil_append, Option.map_some, Option.map_none, strOf_mk, sb_eql, sb_neq, vmg, ↓vgd, ↓vst, ↓vix]
    exact hR _ _ _ _ _ _ _ _ _ _ _ _ _ _ _ _ _ _ _ _ _ _ _ _ _ _ _ _ _ _ _ _ _ _ _ _
  | succ k ih =>
    intro i s g1 g5 g6 g7 g8 g9 g10 g11 g12 g13 g14 g15 g16 g17 g18 g19 g20 g21 g22 g23 g24 g25 g26 g27 g28 g29 g30 g31 g32 g33 g34 g35 g36 g37 g38 hk hi hs hR
    have hlt : i < b.length := by omega
    rw [hexL_drop hlt, ← List.append_assoc] at hR
    have hix := fun S => ix23 (S := S) hlt
    obtain ⟨x, hx⟩ : ∃ x, b[i].toNat = x := ⟨_, rfl⟩
    have hx256 : x < 256 := by rw [← hx]; exact b[i].toNat_lt
    rw [hx] at hR hix
    have hcv := fun S => cv53 (S := S) hx256
    have hq : binV Tryd.prog .quo 3 (.d (.int .i64 (x : Int))) (.d (.int .i64 16)) = some (.d (.int .i64 ((x / 16 : Nat) : Int))) := by
      simp only [binV, intBin]
      rw [if_pos trivial, if_neg (by decide), show ((x : Int).tdiv 16) = ((x / 16 : Nat) : Int) from rfl, wrap64 (by omega)]
      rfl
    have hr : binV Tryd.prog .rem 3 (.d (.int .i64 (x : Int))) (.d (.int .i64 16)) = some (.d (.int .i64 ((x % 16 : Nat) : Int))) := by
      simp only [binV, intBin]
      rfl
    have s1 := fun S => sl_hex (S := S) (x / 16) (by omega)
    have s2 := fun S => sl_hex (S := S) (x % 16) (by omega)
    have a1 : strBin .add s [hexB (x / 16)] = some (.str (s ++ [hexB (x / 16)])) := sb_add (by simp; omega)
    have a2 : strBin .add (s ++ [hexB (x / 16)]) [hexB (x % 16)] = some (.str (s ++ [hexB (x / 16)] ++ [hexB (x % 16)])) := sb_add (by simp; omega)
    have e : s ++ [hexB (x / 16)] ++ [hexB (x % 16)] = s ++ [hexB (x / 16), hexB (x % 16)] := by simp
    rw [e] at a2
    rw [wk_of]
    refine wk_loop ?_
    conv => arg 2; whnf
    simp (maxSteps := 1000000) (disch := first | assumption | omega | rfl) only [↓vmp, vme, vmb, ty, hP, dec_t, dec_f, wrap64, List.length_map, Int.toNat_natCast, Nat.reduceAdd, List.cons_append, List.nil_append, Option.map_some, Option.map_none, strOf_mk, sb_eql, sb_neq, vmg, ↓vgd, ↓vst, ↓vix]
    refine wk_draw (is := [0, 1, 2, 3, 4, 5, 6, 7, 8, 9, 10, 11, 12, 13]) (h := 0) (by kernel_rfl) (by kernel_rfl) ?_
    simp (maxSteps := 1000000) (disch := first | assumption | omega | rfl) only [List.replicate_zero, eq_self, vmd, vmk, vmo, vmg, vme, vmb, ty, hP, dec_t, dec_f, wrap64, List.length_map, Int.toNat_natCast, Nat.reduceAdd, ↓vgd, ↓vst, ↓vix, List.append_nil, hix, hcv, hq, hr]
    refine ⟨by kernel_rfl, ?_⟩
    simp (maxSteps := 1000000) (disch := first | assumption | omega | rfl) only [↓vmp, vme, vmb, ty, hP, dec_t, dec_f, wrap64, List.length_map, Int.toNat_natCast, Nat.reduceAdd, List.cons_append, List.nil_append, Option.map_some, Option.map_none, strOf_mk, sb_eql, sb_neq, vmg, ↓vgd, ↓vst, ↓vix]
    refine wk_draw (is := [0, 1, 2, 3, 4, 5, 6, 7, 8, 9, 10, 11]) (h := 0) (by kernel_rfl) (by kernel_rfl) ?_
    simp (maxSteps := 1000000) (disch := first | assumption | omega | rfl) only [List.replicate_zero, eq_self, vmd, vmk, vmo, vmg, vme, vmb, ty, hP, dec_t, dec_f, wrap64, List.length_map, Int.toNat_natCast, Nat.reduceAdd, ↓vgd, ↓vst, ↓vix, List.append_nil, strOf_mk, s1, s2, a1, a2]
    refine ⟨by kernel_rfl, ?_⟩
    simp (maxSteps := 1000000) (disch := first | assumption | omega | rfl) only [↓vmp, vme, vmb, ty, hP, dec_t, dec_f, wrap64, List.length_map, Int.toNat_natCast, Nat.reduceAdd, List.cons_append, List.nil_append, Option.map_some, Option.map_none, strOf_mk, sb_eql, sb_neq, vmg, ↓vgd, ↓vst, ↓vix]
    exact ih (i + 1) _ _ _ _ _ _ _ _ _ _ _ _ _ _ _ _ _ _ _ _ _ _ _ _ _ _ _ _ _ _ _ _ _ _ _ _ (by omega) (by omega) (by simp; omega) hR
theorem rhex_ok (b : List UInt8) (hl : b.length ≤ 400000) : Ev cfg 50 [.sl (b.map fun x => D.int .u8 x.toNat)] (.ret (.d (.str (hexS b)))) := by
  refine ev_of rfl rfl body50 ?_
  show Wp cfg (Tryd.f50.body.getD .skip) ((.d (.sl (b.map fun x => D.int .u8 x.toNat))) :: (.tup []) :: (.tup []) :: (.tup []) :: (.tup []) :: (.tup []) :: (.tup []) :: (.tup []) :: (.tup []) :: (.tup []) :: (.tup []) :: (.tup []) :: (.tup []) :: (.tup []) :: (.tup []) :: (.tup []) :: (.tup []) :: (.tup []) :: (.tup []) :: (.tup []) :: (.tup []) :: (.tup []) :: (.tup []) :: (.tup []) :: (.tup []) :: (.tup []) :: (.tup []) :: (.tup []) :: (.tup []) :: (.tup []) :: (.tup []) :: (.tup []) :: (.tup []) :: (.tup []) :: (.tup []) :: (.tup []) :: (.tup []) :: (.tup []) :: (.tup []) :: []) [] [] _
  conv => arg 2; whnf
  simp (maxSteps := 1000000) (disch := first | assumption | omega | rfl) only [↓vmp, vme, vmb, ty, hP, dec_t, dec_f, wrap64, List.length_map, Int.toNat_natCast, Nat.reduceAdd, List.cons_append, List.nil_append, Option.map_some, Option.map_none, strOf_mk, sb_eql, sb_neq, vmg, ↓vgd, ↓vst, ↓vix]
  refine rhex_l b (by omega) _ _ b.length 0 [] _ _ _ _ _ _ _ _ _ _ _ _ _ _ _ _ _ _ _ _ _ _ _ _ _ _ _ _ _ _ _ _ _ _ _ rfl (Nat.zero_le _) (by simp) ?_
  intro i' g1 g5 g6 g7 g8 g9 g10 g11 g12 g13 g14 g15 g16 g17 g18 g19 g20 g21 g22 g23 g24 g25 g26 g27 g28 g29 g30 g31 g32 g33 g34 g35 g36 g37 g38
  rw [List.drop_zero, List.nil_append]
  unfold hexS
  have hlen := hexL_len b
  by_cases h0 : b.length = 0
  · have e : hexL b = [] := List.length_eq_zero_iff.1 (by omega)
    rw [if_pos h0, e]
    simp (maxSteps := 1000000) (disch := first | assumption | omega | rfl) only [↓vmp, vme, vmb, ty, hP, dec_t, dec_f, wrap64, List.length_map, Int.toNat_natCast, Nat.reduceAdd, List.cons_append, List.nil_append, Option.map_some, Option.map_none, strOf_mk, sb_eql, sb_neq, vmg, ↓vgd, ↓vst, ↓vix, dec_True]
    exact retQ_one rfl rfl rfl
  · have e : ¬ hexL b = [] := fun hh => by rw [hh] at hlen; simp at hlen; omega
    rw [if_neg h0]
    simp (maxSteps := 1000000) (disch := first | assumption | omega | rfl) only [↓vmp, vme, vmb, ty, hP, dec_t, dec_f, wrap64, List.length_map, Int.toNat_natCast, Nat.reduceAdd, List.cons_append, List.nil_append, Option.map_some, Option.map_none, strOf_mk, sb_eql, sb_neq, vmg, ↓vgd, ↓vst, ↓vix]
    exact retQ_one rfl rfl rfl
theorem sl_hex8 {S : Store} : ∀ (d : Nat), d < 16 → sliceV Tryd.prog S 9 (.d (.str [48, 49, 50, 51, 52, 53, 54, 55, 56, 57, 97, 98, 99, 100, 101, 102])) (some (.d (.int .u8 (d : Int)))) (some (.d (.int .u8 ((d : Int) + 1)))) = some (.d (.str [hexB d]))
  | 0, _ => by kernel_rfl
  | 1, _ => by kernel_rfl
  | 2, _ => by kernel_rfl
  | 3, _ => by kernel_rfl
  | 4, _ => by kernel_rfl
  | 5, _ => by kernel_rfl
  | 6, _ => by kernel_rfl
  | 7, _ => by kernel_rfl
  | 8, _ => by kernel_rfl
  | 9, _ => by kernel_rfl
  | 10, _ => by kernel_rfl
  | 11, _ => by kernel_rfl
  | 12, _ => by kernel_rfl
  | 13, _ => by kernel_rfl
  | 14, _ => by kernel_rfl
  | 15, _ => by kernel_rfl
  | n + 16, h => absurd h (by omega)
theorem hex_l (b : List UInt8) (hl : b.length ≤ 400000) (R : Post) (x0 x2 : V) : ∀ (k i : Nat) (s : List UInt8) (g1 g4 g5 g6 g7 g8 g12 g13 g14 g15 g16 g17 g18 g19 g20 g21 g22 g23 g24 g25 g26 g27 g28 g29 g30 g31 : V), b.length - i = k → i ≤ b.length → s.length ≤ 2 * i →
   (∀ i' g1 g4 g5 g6 g7 g8 g12 g13 g14 g15 g16 g17 g18 g19 g20 g21 g22 g23 g24 g25 g26 g27 g28 g29 g30 g31, R (.exit 0) (x0 :: g1 :: x2 :: (.d (.str (s ++ hexL (b.drop i)))) :: g4 :: g5 :: g6 :: g7 :: g8 :: (.d (.sl (b.map fun x => D.int .u8 x.toNat))) :: (.d (.int .i64 b.length)) :: i' :: g12 :: g13 :: g14 :: g15 :: g16 :: g17 :: g18 :: g19 :: g20 :: g21 :: g22 :: g23 :: g24 :: g25 :: g26 :: g27 :: g28 :: g29 :: g30 :: g31 :: []) [] []) →
   Wp cfg (.loop (lpOf (Tryd.f56.body.getD .skip) 0)) (x0 :: g1 :: x2 :: (.d (.str s)) :: g4 :: g5 :: g6 :: g7 :: g8 :: (.d (.sl (b.map fun x => D.int .u8 x.toNat))) :: (.d (.int .i64 b.length)) :: (.d (.int .i64 i)) :: g12 :: g13 :: g14 :: g15 :: g16 :: g17 :: g18 :: g19 :: g20 :: g21 :: g22 :: g23 :: g24 :: g25 :: g26 :: g27 :: g28 :: g29 :: g30 :: g31 :: []) [] [] R := by
  intro k
  induction k with
  | zero =>
    intro i s g1 g4 g5 g6 g7 g8 g12 g13 g14 g15 g16 g17 g18 g19 g20 g21 g22 g23 g24 g25 g26 g27 g28 g29 g30 g31 hk hi hs hR
    have hie : i = b.length := by omega
    rw [hie, List.drop_length, show hexL [] = [] from rfl, List.append_nil] at hR
    rw [wk_of]
    refine wk_loop ?_
    conv => arg 2; whnf
    simp (maxSteps := 1000000) (disch := first | assumption | omega | rfl) only [↓vmp, vme, vmb, ty, hP, dec_t, dec_f, wrap64, List.length_map, Int.toNat_natCast, Nat.reduceAdd, List.cons_append, List.nil_append, Option.map_some, Option.map_none, strOf_mk, sb_eql, sb_neq, vmg, ↓vgd, ↓vst, ↓vix]
    exact hR _ _ _ _ _ _ _ _ _ _ _ _ _ _ _ _ _ _ _ _ _ _ _ _ _ _ _
  | succ k ih =>
    intro i s g1 g4 g5 g6 g7 g8 g12 g13 g14 g15 g16 g17 g18 g19 g20 g21 g22 g23 g24 g25 g26 g27 g28 g29 g30 g31 hk hi hs hR
    have hlt : i < b.length := by omega
    rw [hexL_drop hlt, ← List.append_assoc] at hR
    have hix := fun S => ix23 (S := S) hlt
    obtain ⟨x, hx⟩ : ∃ x, b[i].toNat = x := ⟨_, rfl⟩
    have hx256 : x < 256 := by rw [← hx]; exact b[i].toNat_lt
    rw [hx] at hR hix
    have hsh : ∀ K : IntKind, binV Tryd.prog .shr 5 (.d (.int .u8 (x : Int))) (.d (.int K 4)) = some (.d (.int .u8 ((x / 16 : Nat) : Int))) := fun K => by
      simp only [binV, intBin]
      rw [if_neg (by decide)]
      have : (x : Int).fdiv (2 ^ min (4 : Int).toNat IntKind.u8.bits) = ((x / 16 : Nat) : Int) := by
        show (x : Int).fdiv 16 = _
        rw [Int.fdiv_eq_ediv_of_nonneg _ (by decide)]
        rfl
      rw [this]
      rfl
    have han : binV Tryd.prog .and 5 (.d (.int .u8 (x : Int))) (.d (.int .u8 15)) = some (.d (.int .u8 ((x % 16 : Nat) : Int))) := by
      simp only [binV, intBin]
      rw [if_pos trivial]
      have h1 := and15 ⟨x, hx256⟩
      have h2 : IntKind.u8.wrap (((BitVec.ofInt IntKind.u8.bits (x : Int) &&& BitVec.ofInt IntKind.u8.bits 15).toNat : Nat) : Int) = ((x % 16 : Nat) : Int) := by
        have h3 : (BitVec.ofInt IntKind.u8.bits (x : Int) &&& BitVec.ofInt IntKind.u8.bits 15).toNat = x % 16 := h1
        rw [h3]
        exact (by decide : ∀ d : Fin 16, IntKind.u8.wrap ((d.val : Nat) : Int) = (d.val : Int)) ⟨x % 16, by omega⟩
      rw [h2]
      rfl
    have p1 : binV Tryd.prog .add 5 (.d (.int .u8 ((x / 16 : Nat) : Int))) (.d (.int .u8 1)) = some (.d (.int .u8 (((x / 16 : Nat) : Int) + 1))) := by
      have : ∀ d : Fin 16, binV Tryd.prog .add 5 (.d (.int .u8 ((d.val : Nat) : Int))) (.d (.int .u8 1)) = some (.d (.int .u8 (((d.val : Nat) : Int) + 1))) := fun d => by
        simp only [binV, intBin]
        rw [if_pos trivial]
        rw [(by decide : ∀ d : Fin 16, IntKind.u8.wrap (((d.val : Nat) : Int) + 1) = ((d.val : Nat) : Int) + 1) d]
        rfl
      exact this ⟨x / 16, by omega⟩
    have p2 : binV Tryd.prog .add 5 (.d (.int .u8 ((x % 16 : Nat) : Int))) (.d (.int .u8 1)) = some (.d (.int .u8 (((x % 16 : Nat) : Int) + 1))) := by
      have : ∀ d : Fin 16, binV Tryd.prog .add 5 (.d (.int .u8 ((d.val : Nat) : Int))) (.d (.int .u8 1)) = some (.d (.int .u8 (((d.val : Nat) : Int) + 1))) := fun d => by
        simp only [binV, intBin]
        rw [if_pos trivial]
        rw [(by decide : ∀ d : Fin 16, IntKind.u8.wrap (((d.val : Nat) : Int) + 1) = ((d.val : Nat) : Int) + 1) d]
        rfl
      exact this ⟨x % 16, by omega⟩
    have s1 := fun S => sl_hex8 (S := S) (x / 16) (by omega)
    have s2 := fun S => sl_hex8 (S := S) (x % 16) (by omega)
    have a1 : strBin .add [hexB (x / 16)] [hexB (x % 16)] = some (.str [hexB (x / 16), hexB (x % 16)]) := sb_add (by simp)
    have a2 : strBin .add s [hexB (x / 16), hexB (x % 16)] = some (.str (s ++ [hexB (x / 16), hexB (x % 16)])) := sb_add (by simp; omega)
    rw [wk_of]
    refine wk_loop ?_
    conv => arg 2; whnf
    simp (maxSteps := 1000000) (disch := first | assumption | omega | rfl) only [↓vmp, vme, vmb, ty, hP, dec_t, dec_f, wrap64, List.length_map, Int.toNat_natCast, Nat.reduceAdd, List.cons_append, List.nil_append, Option.map_some, Option.map_none, strOf_mk, sb_eql, sb_neq, vmg, ↓vgd, ↓vst, ↓vix, hix]
    refine wk_draw (is := [0, 1, 2, 3, 4, 5, 6, 7, 8, 9, 10, 11, 12, 13, 14, 15]) (h := 0) (by kernel_rfl) (by kernel_rfl) ?_
    simp (maxSteps := 1000000) (disch := first | assumption | omega | rfl) only [List.replicate_zero, eq_self, vmd, vmk, vmo, vmg, vme, vmb, ty, hP, dec_t, dec_f, wrap64, List.length_map, Int.toNat_natCast, Nat.reduceAdd, ↓vgd, ↓vst, ↓vix, List.append_nil, strOf_mk, hsh, han, p1, p2, s1, s2, a1, a2]
    refine ⟨by kernel_rfl, ?_⟩
    simp (maxSteps := 1000000) (disch := first | assumption | omega | rfl) only [↓vmp, vme, vmb, ty, hP, dec_t, dec_f, wrap64, List.length_map, Int.toNat_natCast, Nat.reduceAdd, List.cons_append, List.nil_append, Option.map_some, Option.map_none, strOf_mk, sb_eql, sb_neq, vmg, ↓vgd, ↓vst, ↓vix]
    exact ih (i + 1) _ _ _ _ _ _ _ _ _ _ _ _ _ _ _ _ _ _ _ _ _ _ _ _ _ _ _ (by omega) (by omega) (by simp; omega) hR
theorem hex_ok (b : List UInt8) (hl : b.length ≤ 400000) : Ev cfg 56 [.sl (b.map fun x => D.int .u8 x.toNat)] (.ret (.d (.str (hexS b)))) := by
  refine ev_of rfl rfl body56 ?_
  show Wp cfg (Tryd.f56.body.getD .skip) ((.d (.sl (b.map fun x => D.int .u8 x.toNat))) :: (.tup []) :: (.tup []) :: (.tup []) :: (.tup []) :: (.tup []) :: (.tup []) :: (.tup []) :: (.tup []) :: (.tup []) :: (.tup []) :: (.tup []) :: (.tup []) :: (.tup []) :: (.tup []) :: (.tup []) :: (.tup []) :: (.tup []) :: (.tup []) :: (.tup []) :: (.tup []) :: (.tup []) :: (.tup []) :: (.tup []) :: (.tup []) :: (.tup []) :: (.tup []) :: (.tup []) :: (.tup []) :: (.tup []) :: (.tup []) :: (.tup []) :: []) [] [] _
  conv => arg 2; whnf
  unfold hexS
  by_cases h0 : b.length = 0
  · rw [if_pos h0]
    simp (maxSteps := 1000000) (disch := first | assumption | omega | rfl) only [↓vmp, vme, vmb, ty, hP, dec_t, dec_f, wrap64, List.length_map, Int.toNat_natCast, Nat.reduceAdd, List.cons_append, List.nil_append, Option.map_some, Option.map_none, strOf_mk, sb_eql, sb_neq, vmg, ↓vgd, ↓vst, ↓vix, dec_True]
    exact retQ_one rfl rfl rfl
  · rw [if_neg h0]
    simp (maxSteps := 1000000) (disch := first | assumption | omega | rfl) only [↓vmp, vme, vmb, ty, hP, dec_t, dec_f, wrap64, List.length_map, Int.toNat_natCast, Nat.reduceAdd, List.cons_append, List.nil_append, Option.map_some, Option.map_none, strOf_mk, sb_eql, sb_neq, vmg, ↓vgd, ↓vst, ↓vix]
    refine hex_l b hl _ _ _ b.length 0 [] _ _ _ _ _ _ _ _ _ _ _ _ _ _ _ _ _ _ _ _ _ _ _ _ _ _ rfl (Nat.zero_le _) (by simp) ?_
    intro i' g1 g4 g5 g6 g7 g8 g12 g13 g14 g15 g16 g17 g18 g19 g20 g21 g22 g23 g24 g25 g26 g27 g28 g29 g30 g31
    rw [List.drop_zero, List.nil_append]
    simp (maxSteps := 1000000) (disch := first | assumption | omega | rfl) only [↓vmp, vme, vmb, ty, hP, dec_t, dec_f, wrap64, List.length_map, Int.toNat_natCast, Nat.reduceAdd, List.cons_append, List.nil_append, Option.map_some, Option.map_none, strOf_mk, sb_eql, sb_neq, vmg, ↓vgd, ↓vst, ↓vix]
    exact retQ_one rfl rfl rfl
end Go.Proofs.YteapjcgeckpknaaDoor
end
