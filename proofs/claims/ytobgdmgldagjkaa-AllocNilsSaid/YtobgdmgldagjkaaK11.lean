/- The example escheatlaw31.works, told by the kernel call by call. No condition. -/
import Derived.Test.YtobgdmgldagjkaaProg
import Derived.Test.YtobgdmgldagjkaaK10
/-! The example escheatlaw31.works, told by the kernel call by call. No condition. -/
section
set_option linter.unusedVariables false
set_option maxRecDepth 100000
set_option maxHeartbeats 4000000
namespace Go.Proofs.Ytobgdmgldagjkaa
open Go.Vm
def R8 (l : List (Nat × Int)) : D := .agg (l.flatMap fun p => List.replicate p.1 (.int .u8 p.2))
def S8 (l : List (Nat × Int)) : D := .sl (l.flatMap fun p => List.replicate p.1 (.int .u8 p.2))
def maskR : Nat := 5709077048356268409936667421922781335396464384
def tabl (l : List (List D × Out)) (ds : List D) : Option Out := match l with
  | [] => Option.none
  | (k, o) :: r => if all2 (sameF 9) ds k = true then some o else tabl r ds
theorem tabl_ok {ds : List D} {o : Out} : ∀ {l : List (List D × Out)}, tabl l ds = some o → (ds, o) ∈ l
  | [], h => by cases h
  | (k, o') :: r, h => by
    unfold tabl at h
    split at h
    · rename_i hk
      cases h
      rw [all2_eq (fun _ _ h => sameF_eq h) hk]
      exact List.mem_cons_self
    · exact List.mem_cons_of_mem _ (tabl_ok h)
def tb : List (FuncId × List (List D × Out)) → FuncId → Option (List D → Option Out)
  | [], _ => Option.none
  | (g, l) :: r, f => match Nat.beq f g with | true => some (tabl l) | false => tb r f
noncomputable def cR (e : List (FuncId × List (List D × Out))) : Cfg := { P := Try.prog, mixed := by kernel_rfl, shared := fun f => Nat.testBit maskR f, ext := tb e, catch_ := fun _ => Option.none }
theorem catchR {e : List (FuncId × List (List D × Out))} : CatchOk (cR e) := fun f post h => by cases h
def AllRun (C : Cfg) (f : FuncId) : List (List D × Out) → Prop
  | [] => True
  | q :: r => (∃ n, runD C n f q.1 = some q.2) ∧ AllRun C f r
theorem AllRun.of {C : Cfg} {f : FuncId} : ∀ {l : List (List D × Out)}, AllRun C f l → ∀ q ∈ l, ∃ n, runD C n f q.1 = some q.2
  | [], _, q, h => by cases h
  | p :: r, h, q, hq => by
    rcases List.mem_cons.1 hq with rfl | hq
    · exact h.1
    · exact AllRun.of h.2 q hq
theorem tb_ok {e : List (FuncId × List (List D × Out))} {g : FuncId} {l : List (List D × Out)} (hx : ExtOk (cR e)) (h : AllRun (cR e) g l) : ExtOk (cR ((g, l) :: e)) := by
  intro f q hq
  have hq : (match Nat.beq f g with | true => some (tabl l) | false => tb e f) = some q := hq
  split at hq
  · rename_i hf
    cases hq
    cases Nat.eq_of_beq_eq_true hf
    intro ds o ho
    obtain ⟨n, hn⟩ := h.of _ (tabl_ok ho)
    exact runD_ok hx catchR n _ ds o hn
  · exact hx f q hq
theorem x0 : ExtOk (cR []) := fun f g h => by cases h
def t1 : List (List D × Out) := [([(.int .i64 18), (.int .i64 2), (.int .i64 256)], (.ret (.d (.bool true)))), ([(.int .i64 20), (.int .i64 4), (.int .i64 256)], (.ret (.d (.bool true)))), ([(.int .i64 20), (.int .i64 2), (.int .i64 256)], (.ret (.d (.bool true)))), ([(.int .i64 4), (.int .i64 4), (.int .i64 256)], (.ret (.d (.bool true)))), ([(.int .i64 12), (.int .i64 2), (.int .i64 256)], (.ret (.d (.bool true)))), ([(.int .i64 0), (.int .i64 8), (.int .i64 8)], (.ret (.d (.bool true)))), ([(.int .i64 10), (.int .i64 2), (.int .i64 256)], (.ret (.d (.bool true)))), ([(.int .i64 2), (.int .i64 2), (.int .i64 256)], (.ret (.d (.bool true)))), ([(.int .i64 22), (.int .i64 2), (.int .i64 256)], (.ret (.d (.bool true)))), ([(.int .i64 16), (.int .i64 2), (.int .i64 256)], (.ret (.d (.bool true)))), ([(.int .i64 14), (.int .i64 2), (.int .i64 256)], (.ret (.d (.bool true)))), ([(.int .i64 8), (.int .i64 2), (.int .i64 256)], (.ret (.d (.bool true)))), ([(.int .i64 0), (.int .i64 1), (.int .i64 256)], (.ret (.d (.bool true))))]
theorem r1_1 : runD (cR []) 100000 116 [(.int .i64 18), (.int .i64 2), (.int .i64 256)] = some (.ret (.d (.bool true))) := by kernel_rfl
theorem r1_2 : runD (cR []) 100000 116 [(.int .i64 20), (.int .i64 4), (.int .i64 256)] = some (.ret (.d (.bool true))) := by kernel_rfl
theorem r1_3 : runD (cR []) 100000 116 [(.int .i64 20), (.int .i64 2), (.int .i64 256)] = some (.ret (.d (.bool true))) := by kernel_rfl
theorem r1_4 : runD (cR []) 100000 116 [(.int .i64 4), (.int .i64 4), (.int .i64 256)] = some (.ret (.d (.bool true))) := by kernel_rfl
theorem r1_5 : runD (cR []) 100000 116 [(.int .i64 12), (.int .i64 2), (.int .i64 256)] = some (.ret (.d (.bool true))) := by kernel_rfl
theorem r1_6 : runD (cR []) 100000 116 [(.int .i64 0), (.int .i64 8), (.int .i64 8)] = some (.ret (.d (.bool true))) := by kernel_rfl
theorem r1_7 : runD (cR []) 100000 116 [(.int .i64 10), (.int .i64 2), (.int .i64 256)] = some (.ret (.d (.bool true))) := by kernel_rfl
theorem r1_8 : runD (cR []) 100000 116 [(.int .i64 2), (.int .i64 2), (.int .i64 256)] = some (.ret (.d (.bool true))) := by kernel_rfl
theorem r1_9 : runD (cR []) 100000 116 [(.int .i64 22), (.int .i64 2), (.int .i64 256)] = some (.ret (.d (.bool true))) := by kernel_rfl
theorem r1_10 : runD (cR []) 100000 116 [(.int .i64 16), (.int .i64 2), (.int .i64 256)] = some (.ret (.d (.bool true))) := by kernel_rfl
theorem r1_11 : runD (cR []) 100000 116 [(.int .i64 14), (.int .i64 2), (.int .i64 256)] = some (.ret (.d (.bool true))) := by kernel_rfl
theorem r1_12 : runD (cR []) 100000 116 [(.int .i64 8), (.int .i64 2), (.int .i64 256)] = some (.ret (.d (.bool true))) := by kernel_rfl
theorem r1_13 : runD (cR []) 100000 116 [(.int .i64 0), (.int .i64 1), (.int .i64 256)] = some (.ret (.d (.bool true))) := by kernel_rfl
def e1 : List (FuncId × List (List D × Out)) := (116, t1) :: []
theorem x1 : ExtOk (cR e1) := tb_ok x0 ⟨⟨100000, r1_1⟩, ⟨100000, r1_2⟩, ⟨100000, r1_3⟩, ⟨100000, r1_4⟩, ⟨100000, r1_5⟩, ⟨100000, r1_6⟩, ⟨100000, r1_7⟩, ⟨100000, r1_8⟩, ⟨100000, r1_9⟩, ⟨100000, r1_10⟩, ⟨100000, r1_11⟩, ⟨100000, r1_12⟩, ⟨100000, r1_13⟩, trivial⟩
def t2 : List (List D × Out) := [([(.agg [(.int .i64 16), (.int .i64 8), (.int .u64 0)])], (.ret (.d (.int .i64 0))))]
theorem r2_1 : runD (cR e1) 100000 67 [(.agg [(.int .i64 16), (.int .i64 8), (.int .u64 0)])] = some (.ret (.d (.int .i64 0))) := by kernel_rfl
def e2 : List (FuncId × List (List D × Out)) := (67, t2) :: e1
theorem x2 : ExtOk (cR e2) := tb_ok x1 ⟨⟨100000, r2_1⟩, trivial⟩
def t3 : List (List D × Out) := [([(.agg [(.int .i64 16), (.int .i64 8), (.int .u64 0)])], (.ret (.d (.bool true))))]
theorem r3_1 : runD (cR e2) 100000 112 [(.agg [(.int .i64 16), (.int .i64 8), (.int .u64 0)])] = some (.ret (.d (.bool true))) := by kernel_rfl
def e3 : List (FuncId × List (List D × Out)) := (112, t3) :: e2
theorem x3 : ExtOk (cR e3) := tb_ok x2 ⟨⟨100000, r3_1⟩, trivial⟩
def t4 : List (List D × Out) := [([(.int .i64 0)], (.ret (.d (.bool true)))), ([(.int .i64 1)], (.ret (.d (.bool true))))]
theorem r4_1 : runD (cR e3) 100000 126 [(.int .i64 0)] = some (.ret (.d (.bool true))) := by kernel_rfl
theorem r4_2 : runD (cR e3) 100000 126 [(.int .i64 1)] = some (.ret (.d (.bool true))) := by kernel_rfl
def e4 : List (FuncId × List (List D × Out)) := (126, t4) :: e3
theorem x4 : ExtOk (cR e4) := tb_ok x3 ⟨⟨100000, r4_1⟩, ⟨100000, r4_2⟩, trivial⟩
def t5 : List (List D × Out) := [([(.int .u32 2166136261), (.str [101, 115, 99, 104, 101, 97, 116, 49, 16, 0, 8, 0, 0, 0, 0, 0, 0, 0, 0, 0])], (.ret (.d (.int .u32 4205664195))))]
theorem r5_1 : runD (cR e4) 100000 117 [(.int .u32 2166136261), (.str [101, 115, 99, 104, 101, 97, 116, 49, 16, 0, 8, 0, 0, 0, 0, 0, 0, 0, 0, 0])] = some (.ret (.d (.int .u32 4205664195))) := by kernel_rfl
def e5 : List (FuncId × List (List D × Out)) := (117, t5) :: e4
theorem x5 : ExtOk (cR e5) := tb_ok x4 ⟨⟨100000, r5_1⟩, trivial⟩
def t6 : List (List D × Out) := [([(R8 [(256, 0)]), (.int .i64 22), (.int .i64 2), (.int .i64 0)], (.ret (.d (R8 [(256, 0)])))), ([(R8 [(1, 2), (1, 0), (1, 1), (5, 0), (1, 1), (247, 0)]), (.int .i64 18), (.int .i64 2), (.int .i64 0)], (.ret (.d (R8 [(1, 2), (1, 0), (1, 1), (5, 0), (1, 1), (247, 0)])))), ([(R8 [(256, 0)]), (.int .i64 20), (.int .i64 2), (.int .i64 0)], (.ret (.d (R8 [(256, 0)])))), ([(R8 [(1, 2), (1, 0), (1, 1), (253, 0)]), (.int .i64 4), (.int .i64 4), (.int .i64 0)], (.ret (.d (R8 [(1, 2), (1, 0), (1, 1), (253, 0)])))), ([(R8 [(1, 2), (1, 0), (1, 1), (253, 0)]), (.int .i64 8), (.int .i64 2), (.int .i64 1)], (.ret (.d (R8 [(1, 2), (1, 0), (1, 1), (5, 0), (1, 1), (247, 0)])))), ([(R8 [(256, 0)]), (.int .i64 10), (.int .i64 2), (.int .i64 0)], (.ret (.d (R8 [(256, 0)])))), ([(R8 [(1, 2), (1, 0), (1, 1), (5, 0), (1, 1), (247, 0)]), (.int .i64 16), (.int .i64 2), (.int .i64 0)], (.ret (.d (R8 [(1, 2), (1, 0), (1, 1), (5, 0), (1, 1), (247, 0)])))), ([(R8 [(1, 2), (1, 0), (1, 1), (5, 0), (1, 1), (247, 0)]), (.int .i64 10), (.int .i64 2), (.int .i64 0)], (.ret (.d (R8 [(1, 2), (1, 0), (1, 1), (5, 0), (1, 1), (247, 0)])))), ([(R8 [(1, 101), (1, 115), (1, 99), (1, 104), (1, 101), (1, 97), (1, 116), (1, 49), (248, 0)]), (.int .i64 8), (.int .i64 2), (.int .i64 16)], (.ret (.d (R8 [(1, 101), (1, 115), (1, 99), (1, 104), (1, 101), (1, 97), (1, 116), (1, 49), (1, 16), (247, 0)])))), ([(R8 [(1, 2), (255, 0)]), (.int .i64 2), (.int .i64 2), (.int .i64 1)], (.ret (.d (R8 [(1, 2), (1, 0), (1, 1), (253, 0)])))), ([(R8 [(256, 0)]), (.int .i64 8), (.int .i64 2), (.int .i64 0)], (.ret (.d (R8 [(256, 0)])))), ([(R8 [(256, 0)]), (.int .i64 14), (.int .i64 2), (.int .i64 0)], (.ret (.d (R8 [(256, 0)])))), ([(R8 [(256, 0)]), (.int .i64 0), (.int .i64 1), (.int .i64 0)], (.ret (.d (R8 [(256, 0)])))), ([(R8 [(256, 0)]), (.int .i64 16), (.int .i64 2), (.int .i64 0)], (.ret (.d (R8 [(256, 0)])))), ([(R8 [(256, 0)]), (.int .i64 12), (.int .i64 2), (.int .i64 0)], (.ret (.d (R8 [(256, 0)])))), ([(R8 [(256, 0)]), (.int .i64 18), (.int .i64 2), (.int .i64 0)], (.ret (.d (R8 [(256, 0)])))), ([(R8 [(1, 101), (1, 115), (1, 99), (1, 104), (1, 101), (1, 97), (1, 116), (1, 49), (1, 16), (247, 0)]), (.int .i64 10), (.int .i64 2), (.int .i64 8)], (.ret (.d (R8 [(1, 101), (1, 115), (1, 99), (1, 104), (1, 101), (1, 97), (1, 116), (1, 49), (1, 16), (1, 0), (1, 8), (245, 0)])))), ([(R8 [(1, 2), (1, 0), (1, 1), (5, 0), (1, 1), (247, 0)]), (.int .i64 12), (.int .i64 2), (.int .i64 0)], (.ret (.d (R8 [(1, 2), (1, 0), (1, 1), (5, 0), (1, 1), (247, 0)])))), ([(R8 [(256, 0)]), (.int .i64 4), (.int .i64 4), (.int .i64 0)], (.ret (.d (R8 [(256, 0)])))), ([(R8 [(1, 2), (1, 0), (1, 1), (5, 0), (1, 1), (247, 0)]), (.int .i64 22), (.int .i64 2), (.int .i64 0)], (.ret (.d (R8 [(1, 2), (1, 0), (1, 1), (5, 0), (1, 1), (247, 0)])))), ([(R8 [(1, 101), (1, 115), (1, 99), (1, 104), (1, 101), (1, 97), (1, 116), (1, 49), (1, 16), (1, 0), (1, 8), (245, 0)]), (.int .i64 20), (.int .i64 4), (.int .i64 4205664195)], (.ret (.d (R8 [(1, 101), (1, 115), (1, 99), (1, 104), (1, 101), (1, 97), (1, 116), (1, 49), (1, 16), (1, 0), (1, 8), (9, 0), (1, 195), (1, 87), (1, 173), (1, 250), (232, 0)])))), ([(R8 [(256, 0)]), (.int .i64 0), (.int .i64 1), (.int .i64 2)], (.ret (.d (R8 [(1, 2), (255, 0)])))), ([(R8 [(256, 0)]), (.int .i64 2), (.int .i64 2), (.int .i64 0)], (.ret (.d (R8 [(256, 0)])))), ([(R8 [(1, 2), (1, 0), (1, 1), (5, 0), (1, 1), (247, 0)]), (.int .i64 14), (.int .i64 2), (.int .i64 0)], (.ret (.d (R8 [(1, 2), (1, 0), (1, 1), (5, 0), (1, 1), (247, 0)])))), ([(R8 [(1, 2), (1, 0), (1, 1), (5, 0), (1, 1), (247, 0)]), (.int .i64 20), (.int .i64 2), (.int .i64 0)], (.ret (.d (R8 [(1, 2), (1, 0), (1, 1), (5, 0), (1, 1), (247, 0)]))))]
theorem r6_1 : runD (cR e5) 100000 87 [(R8 [(256, 0)]), (.int .i64 22), (.int .i64 2), (.int .i64 0)] = some (.ret (.d (R8 [(256, 0)]))) := by kernel_rfl
theorem r6_2 : runD (cR e5) 100000 87 [(R8 [(1, 2), (1, 0), (1, 1), (5, 0), (1, 1), (247, 0)]), (.int .i64 18), (.int .i64 2), (.int .i64 0)] = some (.ret (.d (R8 [(1, 2), (1, 0), (1, 1), (5, 0), (1, 1), (247, 0)]))) := by kernel_rfl
theorem r6_3 : runD (cR e5) 100000 87 [(R8 [(256, 0)]), (.int .i64 20), (.int .i64 2), (.int .i64 0)] = some (.ret (.d (R8 [(256, 0)]))) := by kernel_rfl
theorem r6_4 : runD (cR e5) 100000 87 [(R8 [(1, 2), (1, 0), (1, 1), (253, 0)]), (.int .i64 4), (.int .i64 4), (.int .i64 0)] = some (.ret (.d (R8 [(1, 2), (1, 0), (1, 1), (253, 0)]))) := by kernel_rfl
theorem r6_5 : runD (cR e5) 100000 87 [(R8 [(1, 2), (1, 0), (1, 1), (253, 0)]), (.int .i64 8), (.int .i64 2), (.int .i64 1)] = some (.ret (.d (R8 [(1, 2), (1, 0), (1, 1), (5, 0), (1, 1), (247, 0)]))) := by kernel_rfl
theorem r6_6 : runD (cR e5) 100000 87 [(R8 [(256, 0)]), (.int .i64 10), (.int .i64 2), (.int .i64 0)] = some (.ret (.d (R8 [(256, 0)]))) := by kernel_rfl
theorem r6_7 : runD (cR e5) 100000 87 [(R8 [(1, 2), (1, 0), (1, 1), (5, 0), (1, 1), (247, 0)]), (.int .i64 16), (.int .i64 2), (.int .i64 0)] = some (.ret (.d (R8 [(1, 2), (1, 0), (1, 1), (5, 0), (1, 1), (247, 0)]))) := by kernel_rfl
theorem r6_8 : runD (cR e5) 100000 87 [(R8 [(1, 2), (1, 0), (1, 1), (5, 0), (1, 1), (247, 0)]), (.int .i64 10), (.int .i64 2), (.int .i64 0)] = some (.ret (.d (R8 [(1, 2), (1, 0), (1, 1), (5, 0), (1, 1), (247, 0)]))) := by kernel_rfl
theorem r6_9 : runD (cR e5) 100000 87 [(R8 [(1, 101), (1, 115), (1, 99), (1, 104), (1, 101), (1, 97), (1, 116), (1, 49), (248, 0)]), (.int .i64 8), (.int .i64 2), (.int .i64 16)] = some (.ret (.d (R8 [(1, 101), (1, 115), (1, 99), (1, 104), (1, 101), (1, 97), (1, 116), (1, 49), (1, 16), (247, 0)]))) := by kernel_rfl
theorem r6_10 : runD (cR e5) 100000 87 [(R8 [(1, 2), (255, 0)]), (.int .i64 2), (.int .i64 2), (.int .i64 1)] = some (.ret (.d (R8 [(1, 2), (1, 0), (1, 1), (253, 0)]))) := by kernel_rfl
theorem r6_11 : runD (cR e5) 100000 87 [(R8 [(256, 0)]), (.int .i64 8), (.int .i64 2), (.int .i64 0)] = some (.ret (.d (R8 [(256, 0)]))) := by kernel_rfl
theorem r6_12 : runD (cR e5) 100000 87 [(R8 [(256, 0)]), (.int .i64 14), (.int .i64 2), (.int .i64 0)] = some (.ret (.d (R8 [(256, 0)]))) := by kernel_rfl
theorem r6_13 : runD (cR e5) 100000 87 [(R8 [(256, 0)]), (.int .i64 0), (.int .i64 1), (.int .i64 0)] = some (.ret (.d (R8 [(256, 0)]))) := by kernel_rfl
theorem r6_14 : runD (cR e5) 100000 87 [(R8 [(256, 0)]), (.int .i64 16), (.int .i64 2), (.int .i64 0)] = some (.ret (.d (R8 [(256, 0)]))) := by kernel_rfl
theorem r6_15 : runD (cR e5) 100000 87 [(R8 [(256, 0)]), (.int .i64 12), (.int .i64 2), (.int .i64 0)] = some (.ret (.d (R8 [(256, 0)]))) := by kernel_rfl
theorem r6_16 : runD (cR e5) 100000 87 [(R8 [(256, 0)]), (.int .i64 18), (.int .i64 2), (.int .i64 0)] = some (.ret (.d (R8 [(256, 0)]))) := by kernel_rfl
theorem r6_17 : runD (cR e5) 100000 87 [(R8 [(1, 101), (1, 115), (1, 99), (1, 104), (1, 101), (1, 97), (1, 116), (1, 49), (1, 16), (247, 0)]), (.int .i64 10), (.int .i64 2), (.int .i64 8)] = some (.ret (.d (R8 [(1, 101), (1, 115), (1, 99), (1, 104), (1, 101), (1, 97), (1, 116), (1, 49), (1, 16), (1, 0), (1, 8), (245, 0)]))) := by kernel_rfl
theorem r6_18 : runD (cR e5) 100000 87 [(R8 [(1, 2), (1, 0), (1, 1), (5, 0), (1, 1), (247, 0)]), (.int .i64 12), (.int .i64 2), (.int .i64 0)] = some (.ret (.d (R8 [(1, 2), (1, 0), (1, 1), (5, 0), (1, 1), (247, 0)]))) := by kernel_rfl
theorem r6_19 : runD (cR e5) 100000 87 [(R8 [(256, 0)]), (.int .i64 4), (.int .i64 4), (.int .i64 0)] = some (.ret (.d (R8 [(256, 0)]))) := by kernel_rfl
theorem r6_20 : runD (cR e5) 100000 87 [(R8 [(1, 2), (1, 0), (1, 1), (5, 0), (1, 1), (247, 0)]), (.int .i64 22), (.int .i64 2), (.int .i64 0)] = some (.ret (.d (R8 [(1, 2), (1, 0), (1, 1), (5, 0), (1, 1), (247, 0)]))) := by kernel_rfl
theorem r6_21 : runD (cR e5) 100000 87 [(R8 [(1, 101), (1, 115), (1, 99), (1, 104), (1, 101), (1, 97), (1, 116), (1, 49), (1, 16), (1, 0), (1, 8), (245, 0)]), (.int .i64 20), (.int .i64 4), (.int .i64 4205664195)] = some (.ret (.d (R8 [(1, 101), (1, 115), (1, 99), (1, 104), (1, 101), (1, 97), (1, 116), (1, 49), (1, 16), (1, 0), (1, 8), (9, 0), (1, 195), (1, 87), (1, 173), (1, 250), (232, 0)]))) := by kernel_rfl
theorem r6_22 : runD (cR e5) 100000 87 [(R8 [(256, 0)]), (.int .i64 0), (.int .i64 1), (.int .i64 2)] = some (.ret (.d (R8 [(1, 2), (255, 0)]))) := by kernel_rfl
theorem r6_23 : runD (cR e5) 100000 87 [(R8 [(256, 0)]), (.int .i64 2), (.int .i64 2), (.int .i64 0)] = some (.ret (.d (R8 [(256, 0)]))) := by kernel_rfl
theorem r6_24 : runD (cR e5) 100000 87 [(R8 [(1, 2), (1, 0), (1, 1), (5, 0), (1, 1), (247, 0)]), (.int .i64 14), (.int .i64 2), (.int .i64 0)] = some (.ret (.d (R8 [(1, 2), (1, 0), (1, 1), (5, 0), (1, 1), (247, 0)]))) := by kernel_rfl
theorem r6_25 : runD (cR e5) 100000 87 [(R8 [(1, 2), (1, 0), (1, 1), (5, 0), (1, 1), (247, 0)]), (.int .i64 20), (.int .i64 2), (.int .i64 0)] = some (.ret (.d (R8 [(1, 2), (1, 0), (1, 1), (5, 0), (1, 1), (247, 0)]))) := by kernel_rfl
def e6 : List (FuncId × List (List D × Out)) := (87, t6) :: e5
theorem x6 : ExtOk (cR e6) := tb_ok x5 ⟨⟨100000, r6_1⟩, ⟨100000, r6_2⟩, ⟨100000, r6_3⟩, ⟨100000, r6_4⟩, ⟨100000, r6_5⟩, ⟨100000, r6_6⟩, ⟨100000, r6_7⟩, ⟨100000, r6_8⟩, ⟨100000, r6_9⟩, ⟨100000, r6_10⟩, ⟨100000, r6_11⟩, ⟨100000, r6_12⟩, ⟨100000, r6_13⟩, ⟨100000, r6_14⟩, ⟨100000, r6_15⟩, ⟨100000, r6_16⟩, ⟨100000, r6_17⟩, ⟨100000, r6_18⟩, ⟨100000, r6_19⟩, ⟨100000, r6_20⟩, ⟨100000, r6_21⟩, ⟨100000, r6_22⟩, ⟨100000, r6_23⟩, ⟨100000, r6_24⟩, ⟨100000, r6_25⟩, trivial⟩
def t7 : List (List D × Out) := [([(R8 [(256, 0)]), (.int .i64 18), (.int .i64 2)], (.ret (.d (.int .i64 0)))), ([(R8 [(256, 0)]), (.int .i64 16), (.int .i64 2)], (.ret (.d (.int .i64 0)))), ([(R8 [(1, 101), (1, 115), (1, 99), (1, 104), (1, 101), (1, 97), (1, 116), (1, 49), (1, 16), (1, 0), (1, 8), (9, 0), (1, 195), (1, 87), (1, 173), (1, 250), (232, 0)]), (.int .i64 10), (.int .i64 2)], (.ret (.d (.int .i64 8)))), ([(R8 [(256, 0)]), (.int .i64 10), (.int .i64 2)], (.ret (.d (.int .i64 0)))), ([(R8 [(256, 0)]), (.int .i64 12), (.int .i64 2)], (.ret (.d (.int .i64 0)))), ([(R8 [(256, 0)]), (.int .i64 14), (.int .i64 2)], (.ret (.d (.int .i64 0)))), ([(R8 [(256, 0)]), (.int .i64 22), (.int .i64 2)], (.ret (.d (.int .i64 0)))), ([(R8 [(256, 0)]), (.int .i64 20), (.int .i64 2)], (.ret (.d (.int .i64 0)))), ([(R8 [(256, 0)]), (.int .i64 0), (.int .i64 1)], (.ret (.d (.int .i64 0)))), ([(R8 [(256, 0)]), (.int .i64 2), (.int .i64 2)], (.ret (.d (.int .i64 0)))), ([(R8 [(256, 0)]), (.int .i64 8), (.int .i64 2)], (.ret (.d (.int .i64 0)))), ([(R8 [(256, 0)]), (.int .i64 4), (.int .i64 4)], (.ret (.d (.int .i64 0)))), ([(R8 [(1, 101), (1, 115), (1, 99), (1, 104), (1, 101), (1, 97), (1, 116), (1, 49), (1, 16), (1, 0), (1, 8), (9, 0), (1, 195), (1, 87), (1, 173), (1, 250), (232, 0)]), (.int .i64 8), (.int .i64 2)], (.ret (.d (.int .i64 16))))]
theorem r7_1 : runD (cR e6) 100000 98 [(R8 [(256, 0)]), (.int .i64 18), (.int .i64 2)] = some (.ret (.d (.int .i64 0))) := by kernel_rfl
theorem r7_2 : runD (cR e6) 100000 98 [(R8 [(256, 0)]), (.int .i64 16), (.int .i64 2)] = some (.ret (.d (.int .i64 0))) := by kernel_rfl
theorem r7_3 : runD (cR e6) 100000 98 [(R8 [(1, 101), (1, 115), (1, 99), (1, 104), (1, 101), (1, 97), (1, 116), (1, 49), (1, 16), (1, 0), (1, 8), (9, 0), (1, 195), (1, 87), (1, 173), (1, 250), (232, 0)]), (.int .i64 10), (.int .i64 2)] = some (.ret (.d (.int .i64 8))) := by kernel_rfl
theorem r7_4 : runD (cR e6) 100000 98 [(R8 [(256, 0)]), (.int .i64 10), (.int .i64 2)] = some (.ret (.d (.int .i64 0))) := by kernel_rfl
theorem r7_5 : runD (cR e6) 100000 98 [(R8 [(256, 0)]), (.int .i64 12), (.int .i64 2)] = some (.ret (.d (.int .i64 0))) := by kernel_rfl
theorem r7_6 : runD (cR e6) 100000 98 [(R8 [(256, 0)]), (.int .i64 14), (.int .i64 2)] = some (.ret (.d (.int .i64 0))) := by kernel_rfl
theorem r7_7 : runD (cR e6) 100000 98 [(R8 [(256, 0)]), (.int .i64 22), (.int .i64 2)] = some (.ret (.d (.int .i64 0))) := by kernel_rfl
theorem r7_8 : runD (cR e6) 100000 98 [(R8 [(256, 0)]), (.int .i64 20), (.int .i64 2)] = some (.ret (.d (.int .i64 0))) := by kernel_rfl
theorem r7_9 : runD (cR e6) 100000 98 [(R8 [(256, 0)]), (.int .i64 0), (.int .i64 1)] = some (.ret (.d (.int .i64 0))) := by kernel_rfl
theorem r7_10 : runD (cR e6) 100000 98 [(R8 [(256, 0)]), (.int .i64 2), (.int .i64 2)] = some (.ret (.d (.int .i64 0))) := by kernel_rfl
theorem r7_11 : runD (cR e6) 100000 98 [(R8 [(256, 0)]), (.int .i64 8), (.int .i64 2)] = some (.ret (.d (.int .i64 0))) := by kernel_rfl
theorem r7_12 : runD (cR e6) 100000 98 [(R8 [(256, 0)]), (.int .i64 4), (.int .i64 4)] = some (.ret (.d (.int .i64 0))) := by kernel_rfl
theorem r7_13 : runD (cR e6) 100000 98 [(R8 [(1, 101), (1, 115), (1, 99), (1, 104), (1, 101), (1, 97), (1, 116), (1, 49), (1, 16), (1, 0), (1, 8), (9, 0), (1, 195), (1, 87), (1, 173), (1, 250), (232, 0)]), (.int .i64 8), (.int .i64 2)] = some (.ret (.d (.int .i64 16))) := by kernel_rfl
def e7 : List (FuncId × List (List D × Out)) := (98, t7) :: e6
theorem x7 : ExtOk (cR e7) := tb_ok x6 ⟨⟨100000, r7_1⟩, ⟨100000, r7_2⟩, ⟨100000, r7_3⟩, ⟨100000, r7_4⟩, ⟨100000, r7_5⟩, ⟨100000, r7_6⟩, ⟨100000, r7_7⟩, ⟨100000, r7_8⟩, ⟨100000, r7_9⟩, ⟨100000, r7_10⟩, ⟨100000, r7_11⟩, ⟨100000, r7_12⟩, ⟨100000, r7_13⟩, trivial⟩
def t8 : List (List D × Out) := [([(R8 [(1, 101), (1, 115), (1, 99), (1, 104), (1, 101), (1, 97), (1, 116), (1, 49), (1, 16), (1, 0), (1, 8), (245, 0)]), (.int .i64 12), (S8 [(8, 0)])], (.ret (.d (R8 [(1, 101), (1, 115), (1, 99), (1, 104), (1, 101), (1, 97), (1, 116), (1, 49), (1, 16), (1, 0), (1, 8), (245, 0)])))), ([(R8 [(256, 0)]), (.int .i64 0), (S8 [(1, 101), (1, 115), (1, 99), (1, 104), (1, 101), (1, 97), (1, 116), (1, 49)])], (.ret (.d (R8 [(1, 101), (1, 115), (1, 99), (1, 104), (1, 101), (1, 97), (1, 116), (1, 49), (248, 0)])))), ([(R8 [(256, 0)]), (.int .i64 0), (S8 [(32, 0)])], (.ret (.d (R8 [(256, 0)]))))]
theorem r8_1 : runD (cR e7) 100000 89 [(R8 [(1, 101), (1, 115), (1, 99), (1, 104), (1, 101), (1, 97), (1, 116), (1, 49), (1, 16), (1, 0), (1, 8), (245, 0)]), (.int .i64 12), (S8 [(8, 0)])] = some (.ret (.d (R8 [(1, 101), (1, 115), (1, 99), (1, 104), (1, 101), (1, 97), (1, 116), (1, 49), (1, 16), (1, 0), (1, 8), (245, 0)]))) := by kernel_rfl
theorem r8_2 : runD (cR e7) 100000 89 [(R8 [(256, 0)]), (.int .i64 0), (S8 [(1, 101), (1, 115), (1, 99), (1, 104), (1, 101), (1, 97), (1, 116), (1, 49)])] = some (.ret (.d (R8 [(1, 101), (1, 115), (1, 99), (1, 104), (1, 101), (1, 97), (1, 116), (1, 49), (248, 0)]))) := by kernel_rfl
theorem r8_3 : runD (cR e7) 100000 89 [(R8 [(256, 0)]), (.int .i64 0), (S8 [(32, 0)])] = some (.ret (.d (R8 [(256, 0)]))) := by kernel_rfl
def e8 : List (FuncId × List (List D × Out)) := (89, t8) :: e7
theorem x8 : ExtOk (cR e8) := tb_ok x7 ⟨⟨100000, r8_1⟩, ⟨100000, r8_2⟩, ⟨100000, r8_3⟩, trivial⟩
def t9 : List (List D × Out) := [([(S8 [(1, 101), (1, 115), (1, 99), (1, 104), (1, 101), (1, 97), (1, 116), (1, 49)])], (.ret (.d (R8 [(1, 101), (1, 115), (1, 99), (1, 104), (1, 101), (1, 97), (1, 116), (1, 49), (248, 0)])))), ([(S8 [(32, 0)])], (.ret (.d (R8 [(256, 0)]))))]
theorem r9_1 : runD (cR e8) 100000 86 [(S8 [(1, 101), (1, 115), (1, 99), (1, 104), (1, 101), (1, 97), (1, 116), (1, 49)])] = some (.ret (.d (R8 [(1, 101), (1, 115), (1, 99), (1, 104), (1, 101), (1, 97), (1, 116), (1, 49), (248, 0)]))) := by kernel_rfl
theorem r9_2 : runD (cR e8) 100000 86 [(S8 [(32, 0)])] = some (.ret (.d (R8 [(256, 0)]))) := by kernel_rfl
def e9 : List (FuncId × List (List D × Out)) := (86, t9) :: e8
theorem x9 : ExtOk (cR e9) := tb_ok x8 ⟨⟨100000, r9_1⟩, ⟨100000, r9_2⟩, trivial⟩
def t10 : List (List D × Out) := [([(S8 [(8, 0)]), (.int .i64 0), (.int .i64 8), (.int .u64 0)], (.ret (.tup [.d (S8 [(8, 0)]), .d (.bool true)])))]
theorem r10_1 : runD (cR e9) 100000 88 [(S8 [(8, 0)]), (.int .i64 0), (.int .i64 8), (.int .u64 0)] = some (.ret (.tup [.d (S8 [(8, 0)]), .d (.bool true)])) := by kernel_rfl
def e10 : List (FuncId × List (List D × Out)) := (88, t10) :: e9
theorem x10 : ExtOk (cR e10) := tb_ok x9 ⟨⟨100000, r10_1⟩, trivial⟩
def t11 : List (List D × Out) := [([(S8 [(8, 0)]), (.int .i64 0), (.int .i64 8)], (.ret (.tup [.d (.int .u64 0), .d (.bool true)])))]
theorem r11_1 : runD (cR e10) 100000 97 [(S8 [(8, 0)]), (.int .i64 0), (.int .i64 8)] = some (.ret (.tup [.d (.int .u64 0), .d (.bool true)])) := by kernel_rfl
def e11 : List (FuncId × List (List D × Out)) := (97, t11) :: e10
theorem x11 : ExtOk (cR e11) := tb_ok x10 ⟨⟨100000, r11_1⟩, trivial⟩
def t12 : List (List D × Out) := [([(R8 [(1, 101), (1, 115), (1, 99), (1, 104), (1, 101), (1, 97), (1, 116), (1, 49), (1, 16), (1, 0), (1, 8), (9, 0), (1, 195), (1, 87), (1, 173), (1, 250), (232, 0)]), (.int .i64 12), (.int .i64 8)], (.ret (.d (S8 [(8, 0)])))), ([(R8 [(1, 101), (1, 115), (1, 99), (1, 104), (1, 101), (1, 97), (1, 116), (1, 49), (1, 16), (1, 0), (1, 8), (245, 0)]), (.int .i64 0), (.int .i64 20)], (.ret (.d (S8 [(1, 101), (1, 115), (1, 99), (1, 104), (1, 101), (1, 97), (1, 116), (1, 49), (1, 16), (1, 0), (1, 8), (9, 0)])))), ([(R8 [(1, 7), (255, 0)]), (.int .i64 0), (.int .i64 256)], (.ret (.d (S8 [(1, 7), (255, 0)]))))]
theorem r12_1 : runD (cR e11) 100000 69 [(R8 [(1, 101), (1, 115), (1, 99), (1, 104), (1, 101), (1, 97), (1, 116), (1, 49), (1, 16), (1, 0), (1, 8), (9, 0), (1, 195), (1, 87), (1, 173), (1, 250), (232, 0)]), (.int .i64 12), (.int .i64 8)] = some (.ret (.d (S8 [(8, 0)]))) := by kernel_rfl
theorem r12_2 : runD (cR e11) 100000 69 [(R8 [(1, 101), (1, 115), (1, 99), (1, 104), (1, 101), (1, 97), (1, 116), (1, 49), (1, 16), (1, 0), (1, 8), (245, 0)]), (.int .i64 0), (.int .i64 20)] = some (.ret (.d (S8 [(1, 101), (1, 115), (1, 99), (1, 104), (1, 101), (1, 97), (1, 116), (1, 49), (1, 16), (1, 0), (1, 8), (9, 0)]))) := by kernel_rfl
theorem r12_3 : runD (cR e11) 100000 69 [(R8 [(1, 7), (255, 0)]), (.int .i64 0), (.int .i64 256)] = some (.ret (.d (S8 [(1, 7), (255, 0)]))) := by kernel_rfl
def e12 : List (FuncId × List (List D × Out)) := (69, t12) :: e11
theorem x12 : ExtOk (cR e12) := tb_ok x11 ⟨⟨100000, r12_1⟩, ⟨100000, r12_2⟩, ⟨100000, r12_3⟩, trivial⟩
def t13 : List (List D × Out) := [([(.agg [(.int .i64 0), (.int .i64 0), (.int .i64 0), (.int .i64 0), (.int .i64 0), (.int .i64 0), (.int .i64 0), (.int .i64 0), (.int .i64 0), (.int .i64 0), (.int .i64 0)])], (.ret (.d (.agg [(.int .i64 0), (.int .i64 0), (.int .i64 0), (.int .i64 0), (.int .i64 0), (.int .i64 0), (.int .i64 0)])))), ([(.agg [(.int .i64 2), (.int .i64 1), (.int .i64 0), (.int .i64 1), (.int .i64 0), (.int .i64 0), (.int .i64 0), (.int .i64 0), (.int .i64 0), (.int .i64 0), (.int .i64 0)])], (.ret (.d (.agg [(.int .i64 0), (.int .i64 0), (.int .i64 0), (.int .i64 0), (.int .i64 0), (.int .i64 0), (.int .i64 0)]))))]
theorem r13_1 : runD (cR e12) 100000 121 [(.agg [(.int .i64 0), (.int .i64 0), (.int .i64 0), (.int .i64 0), (.int .i64 0), (.int .i64 0), (.int .i64 0), (.int .i64 0), (.int .i64 0), (.int .i64 0), (.int .i64 0)])] = some (.ret (.d (.agg [(.int .i64 0), (.int .i64 0), (.int .i64 0), (.int .i64 0), (.int .i64 0), (.int .i64 0), (.int .i64 0)]))) := by kernel_rfl
theorem r13_2 : runD (cR e12) 100000 121 [(.agg [(.int .i64 2), (.int .i64 1), (.int .i64 0), (.int .i64 1), (.int .i64 0), (.int .i64 0), (.int .i64 0), (.int .i64 0), (.int .i64 0), (.int .i64 0), (.int .i64 0)])] = some (.ret (.d (.agg [(.int .i64 0), (.int .i64 0), (.int .i64 0), (.int .i64 0), (.int .i64 0), (.int .i64 0), (.int .i64 0)]))) := by kernel_rfl
def e13 : List (FuncId × List (List D × Out)) := (121, t13) :: e12
theorem x13 : ExtOk (cR e13) := tb_ok x12 ⟨⟨100000, r13_1⟩, ⟨100000, r13_2⟩, trivial⟩
def t14 : List (List D × Out) := [([(.agg [(.int .i64 0), (.int .i64 0), (.int .i64 0), (.int .i64 0), (.int .i64 0), (.int .i64 0), (.int .i64 0), (.int .i64 0), (.int .i64 0), (.int .i64 0), (.int .i64 0)])], (.ret (.d (.int .i64 0)))), ([(.agg [(.int .i64 2), (.int .i64 1), (.int .i64 0), (.int .i64 1), (.int .i64 0), (.int .i64 0), (.int .i64 0), (.int .i64 0), (.int .i64 0), (.int .i64 0), (.int .i64 0)])], (.ret (.d (.int .i64 0))))]
theorem r14_1 : runD (cR e13) 100000 120 [(.agg [(.int .i64 0), (.int .i64 0), (.int .i64 0), (.int .i64 0), (.int .i64 0), (.int .i64 0), (.int .i64 0), (.int .i64 0), (.int .i64 0), (.int .i64 0), (.int .i64 0)])] = some (.ret (.d (.int .i64 0))) := by kernel_rfl
theorem r14_2 : runD (cR e13) 100000 120 [(.agg [(.int .i64 2), (.int .i64 1), (.int .i64 0), (.int .i64 1), (.int .i64 0), (.int .i64 0), (.int .i64 0), (.int .i64 0), (.int .i64 0), (.int .i64 0), (.int .i64 0)])] = some (.ret (.d (.int .i64 0))) := by kernel_rfl
def e14 : List (FuncId × List (List D × Out)) := (120, t14) :: e13
theorem x14 : ExtOk (cR e14) := tb_ok x13 ⟨⟨100000, r14_1⟩, ⟨100000, r14_2⟩, trivial⟩
def t15 : List (List D × Out) := [([(.agg [(.int .i64 2), (.int .i64 1), (.int .i64 0), (.int .i64 1), (.int .i64 0), (.int .i64 0), (.int .i64 0), (.int .i64 0), (.int .i64 0), (.int .i64 0), (.int .i64 0)])], (.ret (.tup [.d (R8 [(1, 2), (1, 0), (1, 1), (5, 0), (1, 1), (23, 0)]), .d (.int .i64 0)]))), ([(.agg [(.int .i64 0), (.int .i64 0), (.int .i64 0), (.int .i64 0), (.int .i64 0), (.int .i64 0), (.int .i64 0), (.int .i64 0), (.int .i64 0), (.int .i64 0), (.int .i64 0)])], (.ret (.tup [.d (R8 [(32, 0)]), .d (.int .i64 0)])))]
theorem r15_1 : runD (cR e14) 100000 107 [(.agg [(.int .i64 2), (.int .i64 1), (.int .i64 0), (.int .i64 1), (.int .i64 0), (.int .i64 0), (.int .i64 0), (.int .i64 0), (.int .i64 0), (.int .i64 0), (.int .i64 0)])] = some (.ret (.tup [.d (R8 [(1, 2), (1, 0), (1, 1), (5, 0), (1, 1), (23, 0)]), .d (.int .i64 0)])) := by kernel_rfl
theorem r15_2 : runD (cR e14) 100000 107 [(.agg [(.int .i64 0), (.int .i64 0), (.int .i64 0), (.int .i64 0), (.int .i64 0), (.int .i64 0), (.int .i64 0), (.int .i64 0), (.int .i64 0), (.int .i64 0), (.int .i64 0)])] = some (.ret (.tup [.d (R8 [(32, 0)]), .d (.int .i64 0)])) := by kernel_rfl
def e15 : List (FuncId × List (List D × Out)) := (107, t15) :: e14
theorem x15 : ExtOk (cR e15) := tb_ok x14 ⟨⟨100000, r15_1⟩, ⟨100000, r15_2⟩, trivial⟩
def t16 : List (List D × Out) := [([(R8 [(32, 0)])], (.ret (.d (.agg [(.int .i64 0), (.int .i64 0), (.int .i64 0), (.int .i64 0), (.int .i64 0), (.int .i64 0), (.int .i64 0), (.int .i64 0), (.int .i64 0), (.int .i64 0), (.int .i64 0)]))))]
theorem r16_1 : runD (cR e15) 100000 125 [(R8 [(32, 0)])] = some (.ret (.d (.agg [(.int .i64 0), (.int .i64 0), (.int .i64 0), (.int .i64 0), (.int .i64 0), (.int .i64 0), (.int .i64 0), (.int .i64 0), (.int .i64 0), (.int .i64 0), (.int .i64 0)]))) := by kernel_rfl
def e16 : List (FuncId × List (List D × Out)) := (125, t16) :: e15
theorem x16 : ExtOk (cR e16) := tb_ok x15 ⟨⟨100000, r16_1⟩, trivial⟩
def t17 : List (List D × Out) := [([(R8 [(32, 0)])], (.ret (.tup [.d (.agg [(.int .i64 0), (.int .i64 0), (.int .i64 0), (.int .i64 0), (.int .i64 0), (.int .i64 0), (.int .i64 0), (.int .i64 0), (.int .i64 0), (.int .i64 0), (.int .i64 0)]), .d (.bool true)])))]
theorem r17_1 : runD (cR e16) 100000 114 [(R8 [(32, 0)])] = some (.ret (.tup [.d (.agg [(.int .i64 0), (.int .i64 0), (.int .i64 0), (.int .i64 0), (.int .i64 0), (.int .i64 0), (.int .i64 0), (.int .i64 0), (.int .i64 0), (.int .i64 0), (.int .i64 0)]), .d (.bool true)])) := by kernel_rfl
def e17 : List (FuncId × List (List D × Out)) := (114, t17) :: e16
theorem x17 : ExtOk (cR e17) := tb_ok x16 ⟨⟨100000, r17_1⟩, trivial⟩
def t18 : List (List D × Out) := [([(R8 [(1, 2), (1, 0), (1, 1), (5, 0), (1, 1), (247, 0)]), (.int .i64 7)], (.ret (.d (R8 [(32, 0)])))), ([(R8 [(1, 2), (1, 0), (1, 1), (5, 0), (1, 1), (247, 0)]), (.int .i64 3)], (.ret (.d (R8 [(32, 0)])))), ([(R8 [(1, 2), (1, 0), (1, 1), (5, 0), (1, 1), (247, 0)]), (.int .i64 1)], (.ret (.d (R8 [(32, 0)])))), ([(R8 [(1, 2), (1, 0), (1, 1), (5, 0), (1, 1), (247, 0)]), (.int .i64 6)], (.ret (.d (R8 [(32, 0)])))), ([(R8 [(1, 2), (1, 0), (1, 1), (5, 0), (1, 1), (247, 0)]), (.int .i64 4)], (.ret (.d (R8 [(32, 0)])))), ([(R8 [(1, 2), (1, 0), (1, 1), (5, 0), (1, 1), (247, 0)]), (.int .i64 5)], (.ret (.d (R8 [(32, 0)])))), ([(R8 [(1, 2), (1, 0), (1, 1), (5, 0), (1, 1), (247, 0)]), (.int .i64 2)], (.ret (.d (R8 [(32, 0)]))))]
theorem r18_1 : runD (cR e17) 100000 115 [(R8 [(1, 2), (1, 0), (1, 1), (5, 0), (1, 1), (247, 0)]), (.int .i64 7)] = some (.ret (.d (R8 [(32, 0)]))) := by kernel_rfl
theorem r18_2 : runD (cR e17) 100000 115 [(R8 [(1, 2), (1, 0), (1, 1), (5, 0), (1, 1), (247, 0)]), (.int .i64 3)] = some (.ret (.d (R8 [(32, 0)]))) := by kernel_rfl
theorem r18_3 : runD (cR e17) 100000 115 [(R8 [(1, 2), (1, 0), (1, 1), (5, 0), (1, 1), (247, 0)]), (.int .i64 1)] = some (.ret (.d (R8 [(32, 0)]))) := by kernel_rfl
theorem r18_4 : runD (cR e17) 100000 115 [(R8 [(1, 2), (1, 0), (1, 1), (5, 0), (1, 1), (247, 0)]), (.int .i64 6)] = some (.ret (.d (R8 [(32, 0)]))) := by kernel_rfl
theorem r18_5 : runD (cR e17) 100000 115 [(R8 [(1, 2), (1, 0), (1, 1), (5, 0), (1, 1), (247, 0)]), (.int .i64 4)] = some (.ret (.d (R8 [(32, 0)]))) := by kernel_rfl
theorem r18_6 : runD (cR e17) 100000 115 [(R8 [(1, 2), (1, 0), (1, 1), (5, 0), (1, 1), (247, 0)]), (.int .i64 5)] = some (.ret (.d (R8 [(32, 0)]))) := by kernel_rfl
theorem r18_7 : runD (cR e17) 100000 115 [(R8 [(1, 2), (1, 0), (1, 1), (5, 0), (1, 1), (247, 0)]), (.int .i64 2)] = some (.ret (.d (R8 [(32, 0)]))) := by kernel_rfl
def e18 : List (FuncId × List (List D × Out)) := (115, t18) :: e17
theorem x18 : ExtOk (cR e18) := tb_ok x17 ⟨⟨100000, r18_1⟩, ⟨100000, r18_2⟩, ⟨100000, r18_3⟩, ⟨100000, r18_4⟩, ⟨100000, r18_5⟩, ⟨100000, r18_6⟩, ⟨100000, r18_7⟩, trivial⟩
def t19 : List (List D × Out) := [([(R8 [(1, 2), (1, 0), (1, 1), (5, 0), (1, 1), (247, 0)]), (.int .i64 5)], (.ret (.tup [.d (.agg [(.int .i64 0), (.int .i64 0), (.int .i64 0), (.int .i64 0), (.int .i64 0), (.int .i64 0), (.int .i64 0), (.int .i64 0), (.int .i64 0), (.int .i64 0), (.int .i64 0)]), .d (.bool true)]))), ([(R8 [(1, 2), (1, 0), (1, 1), (5, 0), (1, 1), (247, 0)]), (.int .i64 2)], (.ret (.tup [.d (.agg [(.int .i64 0), (.int .i64 0), (.int .i64 0), (.int .i64 0), (.int .i64 0), (.int .i64 0), (.int .i64 0), (.int .i64 0), (.int .i64 0), (.int .i64 0), (.int .i64 0)]), .d (.bool true)]))), ([(R8 [(1, 2), (1, 0), (1, 1), (5, 0), (1, 1), (247, 0)]), (.int .i64 4)], (.ret (.tup [.d (.agg [(.int .i64 0), (.int .i64 0), (.int .i64 0), (.int .i64 0), (.int .i64 0), (.int .i64 0), (.int .i64 0), (.int .i64 0), (.int .i64 0), (.int .i64 0), (.int .i64 0)]), .d (.bool true)]))), ([(R8 [(1, 2), (1, 0), (1, 1), (5, 0), (1, 1), (247, 0)]), (.int .i64 1)], (.ret (.tup [.d (.agg [(.int .i64 0), (.int .i64 0), (.int .i64 0), (.int .i64 0), (.int .i64 0), (.int .i64 0), (.int .i64 0), (.int .i64 0), (.int .i64 0), (.int .i64 0), (.int .i64 0)]), .d (.bool true)]))), ([(R8 [(1, 2), (1, 0), (1, 1), (5, 0), (1, 1), (247, 0)]), (.int .i64 7)], (.ret (.tup [.d (.agg [(.int .i64 0), (.int .i64 0), (.int .i64 0), (.int .i64 0), (.int .i64 0), (.int .i64 0), (.int .i64 0), (.int .i64 0), (.int .i64 0), (.int .i64 0), (.int .i64 0)]), .d (.bool true)]))), ([(R8 [(1, 2), (1, 0), (1, 1), (5, 0), (1, 1), (247, 0)]), (.int .i64 3)], (.ret (.tup [.d (.agg [(.int .i64 0), (.int .i64 0), (.int .i64 0), (.int .i64 0), (.int .i64 0), (.int .i64 0), (.int .i64 0), (.int .i64 0), (.int .i64 0), (.int .i64 0), (.int .i64 0)]), .d (.bool true)]))), ([(R8 [(1, 2), (1, 0), (1, 1), (5, 0), (1, 1), (247, 0)]), (.int .i64 6)], (.ret (.tup [.d (.agg [(.int .i64 0), (.int .i64 0), (.int .i64 0), (.int .i64 0), (.int .i64 0), (.int .i64 0), (.int .i64 0), (.int .i64 0), (.int .i64 0), (.int .i64 0), (.int .i64 0)]), .d (.bool true)])))]
theorem r19_1 : runD (cR e18) 100000 84 [(R8 [(1, 2), (1, 0), (1, 1), (5, 0), (1, 1), (247, 0)]), (.int .i64 5)] = some (.ret (.tup [.d (.agg [(.int .i64 0), (.int .i64 0), (.int .i64 0), (.int .i64 0), (.int .i64 0), (.int .i64 0), (.int .i64 0), (.int .i64 0), (.int .i64 0), (.int .i64 0), (.int .i64 0)]), .d (.bool true)])) := by kernel_rfl
theorem r19_2 : runD (cR e18) 100000 84 [(R8 [(1, 2), (1, 0), (1, 1), (5, 0), (1, 1), (247, 0)]), (.int .i64 2)] = some (.ret (.tup [.d (.agg [(.int .i64 0), (.int .i64 0), (.int .i64 0), (.int .i64 0), (.int .i64 0), (.int .i64 0), (.int .i64 0), (.int .i64 0), (.int .i64 0), (.int .i64 0), (.int .i64 0)]), .d (.bool true)])) := by kernel_rfl
theorem r19_3 : runD (cR e18) 100000 84 [(R8 [(1, 2), (1, 0), (1, 1), (5, 0), (1, 1), (247, 0)]), (.int .i64 4)] = some (.ret (.tup [.d (.agg [(.int .i64 0), (.int .i64 0), (.int .i64 0), (.int .i64 0), (.int .i64 0), (.int .i64 0), (.int .i64 0), (.int .i64 0), (.int .i64 0), (.int .i64 0), (.int .i64 0)]), .d (.bool true)])) := by kernel_rfl
theorem r19_4 : runD (cR e18) 100000 84 [(R8 [(1, 2), (1, 0), (1, 1), (5, 0), (1, 1), (247, 0)]), (.int .i64 1)] = some (.ret (.tup [.d (.agg [(.int .i64 0), (.int .i64 0), (.int .i64 0), (.int .i64 0), (.int .i64 0), (.int .i64 0), (.int .i64 0), (.int .i64 0), (.int .i64 0), (.int .i64 0), (.int .i64 0)]), .d (.bool true)])) := by kernel_rfl
theorem r19_5 : runD (cR e18) 100000 84 [(R8 [(1, 2), (1, 0), (1, 1), (5, 0), (1, 1), (247, 0)]), (.int .i64 7)] = some (.ret (.tup [.d (.agg [(.int .i64 0), (.int .i64 0), (.int .i64 0), (.int .i64 0), (.int .i64 0), (.int .i64 0), (.int .i64 0), (.int .i64 0), (.int .i64 0), (.int .i64 0), (.int .i64 0)]), .d (.bool true)])) := by kernel_rfl
theorem r19_6 : runD (cR e18) 100000 84 [(R8 [(1, 2), (1, 0), (1, 1), (5, 0), (1, 1), (247, 0)]), (.int .i64 3)] = some (.ret (.tup [.d (.agg [(.int .i64 0), (.int .i64 0), (.int .i64 0), (.int .i64 0), (.int .i64 0), (.int .i64 0), (.int .i64 0), (.int .i64 0), (.int .i64 0), (.int .i64 0), (.int .i64 0)]), .d (.bool true)])) := by kernel_rfl
theorem r19_7 : runD (cR e18) 100000 84 [(R8 [(1, 2), (1, 0), (1, 1), (5, 0), (1, 1), (247, 0)]), (.int .i64 6)] = some (.ret (.tup [.d (.agg [(.int .i64 0), (.int .i64 0), (.int .i64 0), (.int .i64 0), (.int .i64 0), (.int .i64 0), (.int .i64 0), (.int .i64 0), (.int .i64 0), (.int .i64 0), (.int .i64 0)]), .d (.bool true)])) := by kernel_rfl
def e19 : List (FuncId × List (List D × Out)) := (84, t19) :: e18
theorem x19 : ExtOk (cR e19) := tb_ok x18 ⟨⟨100000, r19_1⟩, ⟨100000, r19_2⟩, ⟨100000, r19_3⟩, ⟨100000, r19_4⟩, ⟨100000, r19_5⟩, ⟨100000, r19_6⟩, ⟨100000, r19_7⟩, trivial⟩
def t20 : List (List D × Out) := [([(.agg [(.int .i64 16), (.int .i64 8), (.int .u64 0)])], (.ret (.tup [.d (R8 [(1, 101), (1, 115), (1, 99), (1, 104), (1, 101), (1, 97), (1, 116), (1, 49), (1, 16), (1, 0), (1, 8), (9, 0), (1, 195), (1, 87), (1, 173), (1, 250), (232, 0)]), .d (.int .i64 0)])))]
theorem r20_1 : runD (cR e19) 100000 48 [(.agg [(.int .i64 16), (.int .i64 8), (.int .u64 0)])] = some (.ret (.tup [.d (R8 [(1, 101), (1, 115), (1, 99), (1, 104), (1, 101), (1, 97), (1, 116), (1, 49), (1, 16), (1, 0), (1, 8), (9, 0), (1, 195), (1, 87), (1, 173), (1, 250), (232, 0)]), .d (.int .i64 0)])) := by kernel_rfl
def e20 : List (FuncId × List (List D × Out)) := (48, t20) :: e19
theorem x20 : ExtOk (cR e20) := tb_ok x19 ⟨⟨100000, r20_1⟩, trivial⟩
def t21 : List (List D × Out) := [([(R8 [(1, 101), (1, 115), (1, 99), (1, 104), (1, 101), (1, 97), (1, 116), (1, 49), (1, 16), (1, 0), (1, 8), (9, 0), (1, 195), (1, 87), (1, 173), (1, 250), (232, 0)])], (.ret (.tup [.d (.agg [(.int .i64 16), (.int .i64 8), (.int .u64 0)]), .d (.int .i64 0)])))]
theorem r21_1 : runD (cR e20) 100000 57 [(R8 [(1, 101), (1, 115), (1, 99), (1, 104), (1, 101), (1, 97), (1, 116), (1, 49), (1, 16), (1, 0), (1, 8), (9, 0), (1, 195), (1, 87), (1, 173), (1, 250), (232, 0)])] = some (.ret (.tup [.d (.agg [(.int .i64 16), (.int .i64 8), (.int .u64 0)]), .d (.int .i64 0)])) := by kernel_rfl
def e21 : List (FuncId × List (List D × Out)) := (57, t21) :: e20
theorem x21 : ExtOk (cR e21) := tb_ok x20 ⟨⟨100000, r21_1⟩, trivial⟩
def t22 : List (List D × Out) := [([(.int .i64 0)], (.ret (.tup [.d (.int .i64 0), .d (.int .u8 1), .d (.bool true)]))), ([(.int .i64 7)], (.ret (.tup [.d (.int .i64 0), .d (.int .u8 128), .d (.bool true)]))), ([(.int .i64 15)], (.ret (.tup [.d (.int .i64 1), .d (.int .u8 128), .d (.bool true)]))), ([(.int .i64 11)], (.ret (.tup [.d (.int .i64 1), .d (.int .u8 8), .d (.bool true)]))), ([(.int .i64 2)], (.ret (.tup [.d (.int .i64 0), .d (.int .u8 4), .d (.bool true)]))), ([(.int .i64 6)], (.ret (.tup [.d (.int .i64 0), .d (.int .u8 64), .d (.bool true)]))), ([(.int .i64 5)], (.ret (.tup [.d (.int .i64 0), .d (.int .u8 32), .d (.bool true)]))), ([(.int .i64 10)], (.ret (.tup [.d (.int .i64 1), .d (.int .u8 4), .d (.bool true)]))), ([(.int .i64 3)], (.ret (.tup [.d (.int .i64 0), .d (.int .u8 8), .d (.bool true)]))), ([(.int .i64 9)], (.ret (.tup [.d (.int .i64 1), .d (.int .u8 2), .d (.bool true)]))), ([(.int .i64 8)], (.ret (.tup [.d (.int .i64 1), .d (.int .u8 1), .d (.bool true)]))), ([(.int .i64 4)], (.ret (.tup [.d (.int .i64 0), .d (.int .u8 16), .d (.bool true)]))), ([(.int .i64 14)], (.ret (.tup [.d (.int .i64 1), .d (.int .u8 64), .d (.bool true)]))), ([(.int .i64 1)], (.ret (.tup [.d (.int .i64 0), .d (.int .u8 2), .d (.bool true)]))), ([(.int .i64 13)], (.ret (.tup [.d (.int .i64 1), .d (.int .u8 32), .d (.bool true)]))), ([(.int .i64 12)], (.ret (.tup [.d (.int .i64 1), .d (.int .u8 16), .d (.bool true)])))]
theorem r22_1 : runD (cR e21) 100000 118 [(.int .i64 0)] = some (.ret (.tup [.d (.int .i64 0), .d (.int .u8 1), .d (.bool true)])) := by kernel_rfl
theorem r22_2 : runD (cR e21) 100000 118 [(.int .i64 7)] = some (.ret (.tup [.d (.int .i64 0), .d (.int .u8 128), .d (.bool true)])) := by kernel_rfl
theorem r22_3 : runD (cR e21) 100000 118 [(.int .i64 15)] = some (.ret (.tup [.d (.int .i64 1), .d (.int .u8 128), .d (.bool true)])) := by kernel_rfl
theorem r22_4 : runD (cR e21) 100000 118 [(.int .i64 11)] = some (.ret (.tup [.d (.int .i64 1), .d (.int .u8 8), .d (.bool true)])) := by kernel_rfl
theorem r22_5 : runD (cR e21) 100000 118 [(.int .i64 2)] = some (.ret (.tup [.d (.int .i64 0), .d (.int .u8 4), .d (.bool true)])) := by kernel_rfl
theorem r22_6 : runD (cR e21) 100000 118 [(.int .i64 6)] = some (.ret (.tup [.d (.int .i64 0), .d (.int .u8 64), .d (.bool true)])) := by kernel_rfl
theorem r22_7 : runD (cR e21) 100000 118 [(.int .i64 5)] = some (.ret (.tup [.d (.int .i64 0), .d (.int .u8 32), .d (.bool true)])) := by kernel_rfl
theorem r22_8 : runD (cR e21) 100000 118 [(.int .i64 10)] = some (.ret (.tup [.d (.int .i64 1), .d (.int .u8 4), .d (.bool true)])) := by kernel_rfl
theorem r22_9 : runD (cR e21) 100000 118 [(.int .i64 3)] = some (.ret (.tup [.d (.int .i64 0), .d (.int .u8 8), .d (.bool true)])) := by kernel_rfl
theorem r22_10 : runD (cR e21) 100000 118 [(.int .i64 9)] = some (.ret (.tup [.d (.int .i64 1), .d (.int .u8 2), .d (.bool true)])) := by kernel_rfl
theorem r22_11 : runD (cR e21) 100000 118 [(.int .i64 8)] = some (.ret (.tup [.d (.int .i64 1), .d (.int .u8 1), .d (.bool true)])) := by kernel_rfl
theorem r22_12 : runD (cR e21) 100000 118 [(.int .i64 4)] = some (.ret (.tup [.d (.int .i64 0), .d (.int .u8 16), .d (.bool true)])) := by kernel_rfl
theorem r22_13 : runD (cR e21) 100000 118 [(.int .i64 14)] = some (.ret (.tup [.d (.int .i64 1), .d (.int .u8 64), .d (.bool true)])) := by kernel_rfl
theorem r22_14 : runD (cR e21) 100000 118 [(.int .i64 1)] = some (.ret (.tup [.d (.int .i64 0), .d (.int .u8 2), .d (.bool true)])) := by kernel_rfl
theorem r22_15 : runD (cR e21) 100000 118 [(.int .i64 13)] = some (.ret (.tup [.d (.int .i64 1), .d (.int .u8 32), .d (.bool true)])) := by kernel_rfl
theorem r22_16 : runD (cR e21) 100000 118 [(.int .i64 12)] = some (.ret (.tup [.d (.int .i64 1), .d (.int .u8 16), .d (.bool true)])) := by kernel_rfl
def e22 : List (FuncId × List (List D × Out)) := (118, t22) :: e21
theorem x22 : ExtOk (cR e22) := tb_ok x21 ⟨⟨100000, r22_1⟩, ⟨100000, r22_2⟩, ⟨100000, r22_3⟩, ⟨100000, r22_4⟩, ⟨100000, r22_5⟩, ⟨100000, r22_6⟩, ⟨100000, r22_7⟩, ⟨100000, r22_8⟩, ⟨100000, r22_9⟩, ⟨100000, r22_10⟩, ⟨100000, r22_11⟩, ⟨100000, r22_12⟩, ⟨100000, r22_13⟩, ⟨100000, r22_14⟩, ⟨100000, r22_15⟩, ⟨100000, r22_16⟩, trivial⟩
def t23 : List (List D × Out) := [([(R8 [(1, 1), (255, 0)]), (.int .i64 1), (.bool true)], (.ret (.d (R8 [(1, 3), (255, 0)])))), ([(R8 [(1, 3), (255, 0)]), (.int .i64 2), (.bool true)], (.ret (.d (R8 [(1, 7), (255, 0)])))), ([(R8 [(1, 7), (255, 0)]), (.int .i64 3), (.bool true)], (.ret (.d (R8 [(1, 15), (255, 0)])))), ([(R8 [(256, 0)]), (.int .i64 0), (.bool true)], (.ret (.d (R8 [(1, 1), (255, 0)]))))]
theorem r23_1 : runD (cR e22) 100000 95 [(R8 [(1, 1), (255, 0)]), (.int .i64 1), (.bool true)] = some (.ret (.d (R8 [(1, 3), (255, 0)]))) := by kernel_rfl
theorem r23_2 : runD (cR e22) 100000 95 [(R8 [(1, 3), (255, 0)]), (.int .i64 2), (.bool true)] = some (.ret (.d (R8 [(1, 7), (255, 0)]))) := by kernel_rfl
theorem r23_3 : runD (cR e22) 100000 95 [(R8 [(1, 7), (255, 0)]), (.int .i64 3), (.bool true)] = some (.ret (.d (R8 [(1, 15), (255, 0)]))) := by kernel_rfl
theorem r23_4 : runD (cR e22) 100000 95 [(R8 [(256, 0)]), (.int .i64 0), (.bool true)] = some (.ret (.d (R8 [(1, 1), (255, 0)]))) := by kernel_rfl
def e23 : List (FuncId × List (List D × Out)) := (95, t23) :: e22
theorem x23 : ExtOk (cR e23) := tb_ok x22 ⟨⟨100000, r23_1⟩, ⟨100000, r23_2⟩, ⟨100000, r23_3⟩, ⟨100000, r23_4⟩, trivial⟩
def t24 : List (List D × Out) := [([(R8 [(1, 7), (255, 0)]), (.int .i64 13)], (.ret (.d (.bool false)))), ([(R8 [(1, 15), (255, 0)]), (.int .i64 3)], (.ret (.d (.bool true)))), ([(R8 [(1, 7), (255, 0)]), (.int .i64 9)], (.ret (.d (.bool false)))), ([(R8 [(1, 7), (255, 0)]), (.int .i64 7)], (.ret (.d (.bool false)))), ([(R8 [(1, 7), (255, 0)]), (.int .i64 15)], (.ret (.d (.bool false)))), ([(R8 [(1, 7), (255, 0)]), (.int .i64 3)], (.ret (.d (.bool false)))), ([(R8 [(1, 15), (255, 0)]), (.int .i64 15)], (.ret (.d (.bool false)))), ([(R8 [(1, 15), (255, 0)]), (.int .i64 10)], (.ret (.d (.bool false)))), ([(R8 [(1, 7), (255, 0)]), (.int .i64 6)], (.ret (.d (.bool false)))), ([(R8 [(1, 15), (255, 0)]), (.int .i64 6)], (.ret (.d (.bool false)))), ([(R8 [(1, 15), (255, 0)]), (.int .i64 14)], (.ret (.d (.bool false)))), ([(R8 [(1, 15), (255, 0)]), (.int .i64 13)], (.ret (.d (.bool false)))), ([(R8 [(1, 7), (255, 0)]), (.int .i64 8)], (.ret (.d (.bool false)))), ([(R8 [(1, 15), (255, 0)]), (.int .i64 12)], (.ret (.d (.bool false)))), ([(R8 [(1, 15), (255, 0)]), (.int .i64 11)], (.ret (.d (.bool false)))), ([(R8 [(1, 15), (255, 0)]), (.int .i64 8)], (.ret (.d (.bool false)))), ([(R8 [(1, 7), (255, 0)]), (.int .i64 11)], (.ret (.d (.bool false)))), ([(R8 [(1, 7), (255, 0)]), (.int .i64 5)], (.ret (.d (.bool false)))), ([(R8 [(1, 7), (255, 0)]), (.int .i64 4)], (.ret (.d (.bool false)))), ([(R8 [(1, 15), (255, 0)]), (.int .i64 7)], (.ret (.d (.bool false)))), ([(R8 [(1, 15), (255, 0)]), (.int .i64 9)], (.ret (.d (.bool false)))), ([(R8 [(1, 7), (255, 0)]), (.int .i64 10)], (.ret (.d (.bool false)))), ([(R8 [(1, 7), (255, 0)]), (.int .i64 14)], (.ret (.d (.bool false)))), ([(R8 [(1, 15), (255, 0)]), (.int .i64 4)], (.ret (.d (.bool false)))), ([(R8 [(1, 7), (255, 0)]), (.int .i64 12)], (.ret (.d (.bool false)))), ([(R8 [(1, 15), (255, 0)]), (.int .i64 5)], (.ret (.d (.bool false))))]
theorem r24_1 : runD (cR e23) 100000 111 [(R8 [(1, 7), (255, 0)]), (.int .i64 13)] = some (.ret (.d (.bool false))) := by kernel_rfl
theorem r24_2 : runD (cR e23) 100000 111 [(R8 [(1, 15), (255, 0)]), (.int .i64 3)] = some (.ret (.d (.bool true))) := by kernel_rfl
theorem r24_3 : runD (cR e23) 100000 111 [(R8 [(1, 7), (255, 0)]), (.int .i64 9)] = some (.ret (.d (.bool false))) := by kernel_rfl
theorem r24_4 : runD (cR e23) 100000 111 [(R8 [(1, 7), (255, 0)]), (.int .i64 7)] = some (.ret (.d (.bool false))) := by kernel_rfl
theorem r24_5 : runD (cR e23) 100000 111 [(R8 [(1, 7), (255, 0)]), (.int .i64 15)] = some (.ret (.d (.bool false))) := by kernel_rfl
theorem r24_6 : runD (cR e23) 100000 111 [(R8 [(1, 7), (255, 0)]), (.int .i64 3)] = some (.ret (.d (.bool false))) := by kernel_rfl
theorem r24_7 : runD (cR e23) 100000 111 [(R8 [(1, 15), (255, 0)]), (.int .i64 15)] = some (.ret (.d (.bool false))) := by kernel_rfl
theorem r24_8 : runD (cR e23) 100000 111 [(R8 [(1, 15), (255, 0)]), (.int .i64 10)] = some (.ret (.d (.bool false))) := by kernel_rfl
theorem r24_9 : runD (cR e23) 100000 111 [(R8 [(1, 7), (255, 0)]), (.int .i64 6)] = some (.ret (.d (.bool false))) := by kernel_rfl
theorem r24_10 : runD (cR e23) 100000 111 [(R8 [(1, 15), (255, 0)]), (.int .i64 6)] = some (.ret (.d (.bool false))) := by kernel_rfl
theorem r24_11 : runD (cR e23) 100000 111 [(R8 [(1, 15), (255, 0)]), (.int .i64 14)] = some (.ret (.d (.bool false))) := by kernel_rfl
theorem r24_12 : runD (cR e23) 100000 111 [(R8 [(1, 15), (255, 0)]), (.int .i64 13)] = some (.ret (.d (.bool false))) := by kernel_rfl
theorem r24_13 : runD (cR e23) 100000 111 [(R8 [(1, 7), (255, 0)]), (.int .i64 8)] = some (.ret (.d (.bool false))) := by kernel_rfl
theorem r24_14 : runD (cR e23) 100000 111 [(R8 [(1, 15), (255, 0)]), (.int .i64 12)] = some (.ret (.d (.bool false))) := by kernel_rfl
theorem r24_15 : runD (cR e23) 100000 111 [(R8 [(1, 15), (255, 0)]), (.int .i64 11)] = some (.ret (.d (.bool false))) := by kernel_rfl
theorem r24_16 : runD (cR e23) 100000 111 [(R8 [(1, 15), (255, 0)]), (.int .i64 8)] = some (.ret (.d (.bool false))) := by kernel_rfl
theorem r24_17 : runD (cR e23) 100000 111 [(R8 [(1, 7), (255, 0)]), (.int .i64 11)] = some (.ret (.d (.bool false))) := by kernel_rfl
theorem r24_18 : runD (cR e23) 100000 111 [(R8 [(1, 7), (255, 0)]), (.int .i64 5)] = some (.ret (.d (.bool false))) := by kernel_rfl
theorem r24_19 : runD (cR e23) 100000 111 [(R8 [(1, 7), (255, 0)]), (.int .i64 4)] = some (.ret (.d (.bool false))) := by kernel_rfl
theorem r24_20 : runD (cR e23) 100000 111 [(R8 [(1, 15), (255, 0)]), (.int .i64 7)] = some (.ret (.d (.bool false))) := by kernel_rfl
theorem r24_21 : runD (cR e23) 100000 111 [(R8 [(1, 15), (255, 0)]), (.int .i64 9)] = some (.ret (.d (.bool false))) := by kernel_rfl
theorem r24_22 : runD (cR e23) 100000 111 [(R8 [(1, 7), (255, 0)]), (.int .i64 10)] = some (.ret (.d (.bool false))) := by kernel_rfl
theorem r24_23 : runD (cR e23) 100000 111 [(R8 [(1, 7), (255, 0)]), (.int .i64 14)] = some (.ret (.d (.bool false))) := by kernel_rfl
theorem r24_24 : runD (cR e23) 100000 111 [(R8 [(1, 15), (255, 0)]), (.int .i64 4)] = some (.ret (.d (.bool false))) := by kernel_rfl
theorem r24_25 : runD (cR e23) 100000 111 [(R8 [(1, 7), (255, 0)]), (.int .i64 12)] = some (.ret (.d (.bool false))) := by kernel_rfl
theorem r24_26 : runD (cR e23) 100000 111 [(R8 [(1, 15), (255, 0)]), (.int .i64 5)] = some (.ret (.d (.bool false))) := by kernel_rfl
def e24 : List (FuncId × List (List D × Out)) := (111, t24) :: e23
theorem x24 : ExtOk (cR e24) := tb_ok x23 ⟨⟨100000, r24_1⟩, ⟨100000, r24_2⟩, ⟨100000, r24_3⟩, ⟨100000, r24_4⟩, ⟨100000, r24_5⟩, ⟨100000, r24_6⟩, ⟨100000, r24_7⟩, ⟨100000, r24_8⟩, ⟨100000, r24_9⟩, ⟨100000, r24_10⟩, ⟨100000, r24_11⟩, ⟨100000, r24_12⟩, ⟨100000, r24_13⟩, ⟨100000, r24_14⟩, ⟨100000, r24_15⟩, ⟨100000, r24_16⟩, ⟨100000, r24_17⟩, ⟨100000, r24_18⟩, ⟨100000, r24_19⟩, ⟨100000, r24_20⟩, ⟨100000, r24_21⟩, ⟨100000, r24_22⟩, ⟨100000, r24_23⟩, ⟨100000, r24_24⟩, ⟨100000, r24_25⟩, ⟨100000, r24_26⟩, trivial⟩
def t25 : List (List D × Out) := [([(.agg [(.int .i64 16), (.int .i64 8), (.int .u64 0)])], (.ret (.tup [.d (.int .i64 2), .d (.int .i64 1)])))]
theorem r25_1 : runD (cR e24) 100000 91 [(.agg [(.int .i64 16), (.int .i64 8), (.int .u64 0)])] = some (.ret (.tup [.d (.int .i64 2), .d (.int .i64 1)])) := by kernel_rfl
def e25 : List (FuncId × List (List D × Out)) := (91, t25) :: e24
theorem x25 : ExtOk (cR e25) := tb_ok x24 ⟨⟨100000, r25_1⟩, trivial⟩
def t26 : List (List D × Out) := [([(.agg [(.int .i64 16), (.int .i64 8), (.int .u64 0)]), (.int .i64 6)], (.ret (.d (.bool true)))), ([(.agg [(.int .i64 16), (.int .i64 8), (.int .u64 0)]), (.int .i64 7)], (.ret (.d (.bool true)))), ([(.agg [(.int .i64 16), (.int .i64 8), (.int .u64 0)]), (.int .i64 2)], (.ret (.d (.bool true)))), ([(.agg [(.int .i64 16), (.int .i64 8), (.int .u64 0)]), (.int .i64 4)], (.ret (.d (.bool true)))), ([(.agg [(.int .i64 16), (.int .i64 8), (.int .u64 0)]), (.int .i64 5)], (.ret (.d (.bool true)))), ([(.agg [(.int .i64 16), (.int .i64 8), (.int .u64 0)]), (.int .i64 8)], (.ret (.d (.bool true)))), ([(.agg [(.int .i64 16), (.int .i64 8), (.int .u64 0)]), (.int .i64 3)], (.ret (.d (.bool true))))]
theorem r26_1 : runD (cR e25) 100000 106 [(.agg [(.int .i64 16), (.int .i64 8), (.int .u64 0)]), (.int .i64 6)] = some (.ret (.d (.bool true))) := by kernel_rfl
theorem r26_2 : runD (cR e25) 100000 106 [(.agg [(.int .i64 16), (.int .i64 8), (.int .u64 0)]), (.int .i64 7)] = some (.ret (.d (.bool true))) := by kernel_rfl
theorem r26_3 : runD (cR e25) 100000 106 [(.agg [(.int .i64 16), (.int .i64 8), (.int .u64 0)]), (.int .i64 2)] = some (.ret (.d (.bool true))) := by kernel_rfl
theorem r26_4 : runD (cR e25) 100000 106 [(.agg [(.int .i64 16), (.int .i64 8), (.int .u64 0)]), (.int .i64 4)] = some (.ret (.d (.bool true))) := by kernel_rfl
theorem r26_5 : runD (cR e25) 100000 106 [(.agg [(.int .i64 16), (.int .i64 8), (.int .u64 0)]), (.int .i64 5)] = some (.ret (.d (.bool true))) := by kernel_rfl
theorem r26_6 : runD (cR e25) 100000 106 [(.agg [(.int .i64 16), (.int .i64 8), (.int .u64 0)]), (.int .i64 8)] = some (.ret (.d (.bool true))) := by kernel_rfl
theorem r26_7 : runD (cR e25) 100000 106 [(.agg [(.int .i64 16), (.int .i64 8), (.int .u64 0)]), (.int .i64 3)] = some (.ret (.d (.bool true))) := by kernel_rfl
def e26 : List (FuncId × List (List D × Out)) := (106, t26) :: e25
theorem x26 : ExtOk (cR e26) := tb_ok x25 ⟨⟨100000, r26_1⟩, ⟨100000, r26_2⟩, ⟨100000, r26_3⟩, ⟨100000, r26_4⟩, ⟨100000, r26_5⟩, ⟨100000, r26_6⟩, ⟨100000, r26_7⟩, trivial⟩
def t27 : List (List D × Out) := [([(.agg [(.int .i64 16), (.int .i64 8), (.int .u64 0)]), (.int .i64 8)], (.ret (.tup [.d (.int .i64 2), .d (.int .i64 7), .d (.bool true)]))), ([(.agg [(.int .i64 16), (.int .i64 8), (.int .u64 0)]), (.int .i64 5)], (.ret (.tup [.d (.int .i64 2), .d (.int .i64 4), .d (.bool true)]))), ([(.agg [(.int .i64 16), (.int .i64 8), (.int .u64 0)]), (.int .i64 3)], (.ret (.tup [.d (.int .i64 2), .d (.int .i64 2), .d (.bool true)]))), ([(.agg [(.int .i64 16), (.int .i64 8), (.int .u64 0)]), (.int .i64 4)], (.ret (.tup [.d (.int .i64 2), .d (.int .i64 3), .d (.bool true)]))), ([(.agg [(.int .i64 16), (.int .i64 8), (.int .u64 0)]), (.int .i64 7)], (.ret (.tup [.d (.int .i64 2), .d (.int .i64 6), .d (.bool true)]))), ([(.agg [(.int .i64 16), (.int .i64 8), (.int .u64 0)]), (.int .i64 6)], (.ret (.tup [.d (.int .i64 2), .d (.int .i64 5), .d (.bool true)]))), ([(.agg [(.int .i64 16), (.int .i64 8), (.int .u64 0)]), (.int .i64 2)], (.ret (.tup [.d (.int .i64 2), .d (.int .i64 1), .d (.bool true)])))]
theorem r27_1 : runD (cR e26) 100000 70 [(.agg [(.int .i64 16), (.int .i64 8), (.int .u64 0)]), (.int .i64 8)] = some (.ret (.tup [.d (.int .i64 2), .d (.int .i64 7), .d (.bool true)])) := by kernel_rfl
theorem r27_2 : runD (cR e26) 100000 70 [(.agg [(.int .i64 16), (.int .i64 8), (.int .u64 0)]), (.int .i64 5)] = some (.ret (.tup [.d (.int .i64 2), .d (.int .i64 4), .d (.bool true)])) := by kernel_rfl
theorem r27_3 : runD (cR e26) 100000 70 [(.agg [(.int .i64 16), (.int .i64 8), (.int .u64 0)]), (.int .i64 3)] = some (.ret (.tup [.d (.int .i64 2), .d (.int .i64 2), .d (.bool true)])) := by kernel_rfl
theorem r27_4 : runD (cR e26) 100000 70 [(.agg [(.int .i64 16), (.int .i64 8), (.int .u64 0)]), (.int .i64 4)] = some (.ret (.tup [.d (.int .i64 2), .d (.int .i64 3), .d (.bool true)])) := by kernel_rfl
theorem r27_5 : runD (cR e26) 100000 70 [(.agg [(.int .i64 16), (.int .i64 8), (.int .u64 0)]), (.int .i64 7)] = some (.ret (.tup [.d (.int .i64 2), .d (.int .i64 6), .d (.bool true)])) := by kernel_rfl
theorem r27_6 : runD (cR e26) 100000 70 [(.agg [(.int .i64 16), (.int .i64 8), (.int .u64 0)]), (.int .i64 6)] = some (.ret (.tup [.d (.int .i64 2), .d (.int .i64 5), .d (.bool true)])) := by kernel_rfl
theorem r27_7 : runD (cR e26) 100000 70 [(.agg [(.int .i64 16), (.int .i64 8), (.int .u64 0)]), (.int .i64 2)] = some (.ret (.tup [.d (.int .i64 2), .d (.int .i64 1), .d (.bool true)])) := by kernel_rfl
def e27 : List (FuncId × List (List D × Out)) := (70, t27) :: e26
theorem x27 : ExtOk (cR e27) := tb_ok x26 ⟨⟨100000, r27_1⟩, ⟨100000, r27_2⟩, ⟨100000, r27_3⟩, ⟨100000, r27_4⟩, ⟨100000, r27_5⟩, ⟨100000, r27_6⟩, ⟨100000, r27_7⟩, trivial⟩
def t28 : List (List D × Out) := [([(.int .i64 0), (.agg [(.int .i64 2), (.int .i64 1), (.int .i64 0), (.int .i64 1), (.int .i64 0), (.int .i64 0), (.int .i64 0), (.int .i64 0), (.int .i64 0), (.int .i64 0), (.int .i64 0)])], (.ret (.tup [.d (.agg [(.int .i64 0), (S8 [(1, 2), (1, 0), (1, 1), (5, 0), (1, 1), (23, 0)])]), .d (.int .i64 0)])))]
theorem r28_1 : runD (cR e27) 100000 71 [(.int .i64 0), (.agg [(.int .i64 2), (.int .i64 1), (.int .i64 0), (.int .i64 1), (.int .i64 0), (.int .i64 0), (.int .i64 0), (.int .i64 0), (.int .i64 0), (.int .i64 0), (.int .i64 0)])] = some (.ret (.tup [.d (.agg [(.int .i64 0), (S8 [(1, 2), (1, 0), (1, 1), (5, 0), (1, 1), (23, 0)])]), .d (.int .i64 0)])) := by kernel_rfl
def e28 : List (FuncId × List (List D × Out)) := (71, t28) :: e27
theorem x28 : ExtOk (cR e28) := tb_ok x27 ⟨⟨100000, r28_1⟩, trivial⟩
def t29 : List (List D × Out) := [([(.agg [(.int .i64 0), (S8 [(1, 2), (1, 0), (1, 1), (5, 0), (1, 1), (23, 0)])])], (.ret (.d (.int .i64 0)))), ([(.agg [(.int .i64 0), (.sl [(.int .u8 15)])])], (.ret (.d (.int .i64 0)))), ([(.agg [(.int .i64 0), (S8 [(1, 7), (255, 0)])])], (.ret (.d (.int .i64 0))))]
theorem r29_1 : runD (cR e28) 100000 104 [(.agg [(.int .i64 0), (S8 [(1, 2), (1, 0), (1, 1), (5, 0), (1, 1), (23, 0)])])] = some (.ret (.d (.int .i64 0))) := by kernel_rfl
theorem r29_2 : runD (cR e28) 100000 104 [(.agg [(.int .i64 0), (.sl [(.int .u8 15)])])] = some (.ret (.d (.int .i64 0))) := by kernel_rfl
theorem r29_3 : runD (cR e28) 100000 104 [(.agg [(.int .i64 0), (S8 [(1, 7), (255, 0)])])] = some (.ret (.d (.int .i64 0))) := by kernel_rfl
def e29 : List (FuncId × List (List D × Out)) := (104, t29) :: e28
theorem x29 : ExtOk (cR e29) := tb_ok x28 ⟨⟨100000, r29_1⟩, ⟨100000, r29_2⟩, ⟨100000, r29_3⟩, trivial⟩
def t30 : List (List D × Out) := [([(R8 [(256, 0)]), (.agg [(.int .i64 0), (S8 [(1, 2), (1, 0), (1, 1), (5, 0), (1, 1), (23, 0)])])], (.ret (.d (R8 [(1, 2), (1, 0), (1, 1), (5, 0), (1, 1), (247, 0)])))), ([(R8 [(1, 7), (255, 0)]), (.agg [(.int .i64 0), (.sl [(.int .u8 15)])])], (.ret (.d (R8 [(1, 15), (255, 0)]))))]
theorem r30_1 : runD (cR e29) 100000 92 [(R8 [(256, 0)]), (.agg [(.int .i64 0), (S8 [(1, 2), (1, 0), (1, 1), (5, 0), (1, 1), (23, 0)])])] = some (.ret (.d (R8 [(1, 2), (1, 0), (1, 1), (5, 0), (1, 1), (247, 0)]))) := by kernel_rfl
theorem r30_2 : runD (cR e29) 100000 92 [(R8 [(1, 7), (255, 0)]), (.agg [(.int .i64 0), (.sl [(.int .u8 15)])])] = some (.ret (.d (R8 [(1, 15), (255, 0)]))) := by kernel_rfl
def e30 : List (FuncId × List (List D × Out)) := (92, t30) :: e29
theorem x30 : ExtOk (cR e30) := tb_ok x29 ⟨⟨100000, r30_1⟩, ⟨100000, r30_2⟩, trivial⟩
def t31 : List (List D × Out) := [([(R8 [(256, 0)]), (.int .i64 0), (.agg [(.int .i64 2), (.int .i64 1), (.int .i64 0), (.int .i64 1), (.int .i64 0), (.int .i64 0), (.int .i64 0), (.int .i64 0), (.int .i64 0), (.int .i64 0), (.int .i64 0)])], (.ret (.tup [.d (R8 [(1, 2), (1, 0), (1, 1), (5, 0), (1, 1), (247, 0)]), .d (.int .i64 0)])))]
theorem r31_1 : runD (cR e30) 100000 52 [(R8 [(256, 0)]), (.int .i64 0), (.agg [(.int .i64 2), (.int .i64 1), (.int .i64 0), (.int .i64 1), (.int .i64 0), (.int .i64 0), (.int .i64 0), (.int .i64 0), (.int .i64 0), (.int .i64 0), (.int .i64 0)])] = some (.ret (.tup [.d (R8 [(1, 2), (1, 0), (1, 1), (5, 0), (1, 1), (247, 0)]), .d (.int .i64 0)])) := by kernel_rfl
def e31 : List (FuncId × List (List D × Out)) := (52, t31) :: e30
theorem x31 : ExtOk (cR e31) := tb_ok x30 ⟨⟨100000, r31_1⟩, trivial⟩
theorem works_ext : ExtOk (cR e31) := x31
end Go.Proofs.Ytobgdmgldagjkaa
end
