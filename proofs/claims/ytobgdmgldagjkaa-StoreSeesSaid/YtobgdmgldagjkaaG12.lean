/- The example escheatlaw30.works, told by the kernel call by call. No condition. -/
import Derived.Test.YtobgdmgldagjkaaProg
import Derived.Test.YtobgdmgldagjkaaG11
set_option linter.unusedVariables false
set_option linter.unusedSimpArgs false
set_option maxRecDepth 100000
set_option maxHeartbeats 4000000
set_option linter.defProp false
section
namespace Go.Proofs.Ytobgdmgldagjkaa
open Go.Vm
def R8 (l : List (Nat × Int)) : D := .agg (l.flatMap fun p => List.replicate p.1 (.int .u8 p.2))
def S8 (l : List (Nat × Int)) : D := .sl (l.flatMap fun p => List.replicate p.1 (.int .u8 p.2))
def q1c : Nat := 5709077048356268409936667421922781335396464384
def tabl (l : List (List D × Out)) (ds : List D) : Option Out := match l with
  | [] => Option.none
  | (k, o) :: r => if all2 (wS 9) ds k = true then some o else tabl r ds
theorem ziw {ds : List D} {o : Out} : ∀ {l : List (List D × Out)}, tabl l ds = some o → (ds, o) ∈ l
  | [], h => by cases h
  | (k, o') :: r, h => by
    unfold tabl at h
    split at h
    · rename_i hk
      cases h
      rw [zee (fun _ _ h => zgn h) hk]
      exact List.mem_cons_self
    · exact List.mem_cons_of_mem _ (ziw h)
def tb : List (FuncId × List (List D × Out)) → FuncId → Option (List D → Option Out)
  | [], _ => Option.none
  | (g, l) :: r, f => match Nat.beq f g with | true => some (tabl l) | false => tb r f
noncomputable def cR (e : List (FuncId × List (List D × Out))) : Cfg := { P := Try.prog, mixed := by kernel_rfl, shared := fun f => Nat.testBit q1c f, ext := tb e, catch_ := fun _ => Option.none }
theorem zpm {e : List (FuncId × List (List D × Out))} : z8e (cR e) := fun f post h => by cases h
def AllRun (C : Cfg) (f : FuncId) : List (List D × Out) → Prop
 | [] => True
 | q :: r => (∃ n, runD C n f q.1 = some q.2) ∧ AllRun C f r
theorem AllRun.of {C : Cfg} {f : FuncId} : ∀ {l : List (List D × Out)}, AllRun C f l → ∀ q ∈ l, ∃ n, runD C n f q.1 = some q.2
 | [], _, q, h => by cases h
 | p :: r, h, q, hq => by
  rcases List.mem_cons.1 hq with rfl | hq
  ·exact h.1
  ·exact AllRun.of h.2 q hq
theorem z01 {e : List (FuncId × List (List D × Out))} {g : FuncId} {l : List (List D × Out)} (hx : kD (cR e)) (h : AllRun (cR e) g l) : kD (cR ((g, l) :: e)) := by
 intro f q hq
 have hq : (match Nat.beq f g with | true => some (tabl l) | false => tb e f) = some q := hq
 split at hq
 ·rename_i hf
  cases hq
  cases Nat.eq_of_beq_eq_true hf
  intro ds o ho
  obtain ⟨n, hn⟩ := h.of _ (ziw ho)
  exact ze7 hx zpm n _ ds o hn
 ·exact hx f q hq
theorem x0 : kD (cR []) := fun f g h => by cases h
def t1 : List (List D × Out) := [([(.int .i64 18), (.int .i64 2), (.int .i64 256)], (.ret (.d (.bool true)))), ([(.int .i64 12), (.int .i64 2), (.int .i64 256)], (.ret (.d (.bool true)))), ([(.int .i64 0), (.int .i64 8), (.int .i64 8)], (.ret (.d (.bool true)))), ([(.int .i64 0), (.int .i64 1), (.int .i64 256)], (.ret (.d (.bool true)))), ([(.int .i64 20), (.int .i64 4), (.int .i64 256)], (.ret (.d (.bool true)))), ([(.int .i64 20), (.int .i64 2), (.int .i64 256)], (.ret (.d (.bool true)))), ([(.int .i64 4), (.int .i64 4), (.int .i64 256)], (.ret (.d (.bool true)))), ([(.int .i64 10), (.int .i64 2), (.int .i64 256)], (.ret (.d (.bool true)))), ([(.int .i64 2), (.int .i64 2), (.int .i64 256)], (.ret (.d (.bool true)))), ([(.int .i64 22), (.int .i64 2), (.int .i64 256)], (.ret (.d (.bool true)))), ([(.int .i64 16), (.int .i64 2), (.int .i64 256)], (.ret (.d (.bool true)))), ([(.int .i64 14), (.int .i64 2), (.int .i64 256)], (.ret (.d (.bool true)))), ([(.int .i64 8), (.int .i64 2), (.int .i64 256)], (.ret (.d (.bool true))))]
theorem r1_1 : runD (cR []) 100000 116 [(.int .i64 18), (.int .i64 2), (.int .i64 256)] = some (.ret (.d (.bool true))) := by kernel_rfl
theorem r1_2 : runD (cR []) 100000 116 [(.int .i64 12), (.int .i64 2), (.int .i64 256)] = some (.ret (.d (.bool true))) := by kernel_rfl
theorem r1_3 : runD (cR []) 100000 116 [(.int .i64 0), (.int .i64 8), (.int .i64 8)] = some (.ret (.d (.bool true))) := by kernel_rfl
theorem r1_4 : runD (cR []) 100000 116 [(.int .i64 0), (.int .i64 1), (.int .i64 256)] = some (.ret (.d (.bool true))) := by kernel_rfl
theorem r1_5 : runD (cR []) 100000 116 [(.int .i64 20), (.int .i64 4), (.int .i64 256)] = some (.ret (.d (.bool true))) := by kernel_rfl
theorem r1_6 : runD (cR []) 100000 116 [(.int .i64 20), (.int .i64 2), (.int .i64 256)] = some (.ret (.d (.bool true))) := by kernel_rfl
theorem r1_7 : runD (cR []) 100000 116 [(.int .i64 4), (.int .i64 4), (.int .i64 256)] = some (.ret (.d (.bool true))) := by kernel_rfl
theorem r1_8 : runD (cR []) 100000 116 [(.int .i64 10), (.int .i64 2), (.int .i64 256)] = some (.ret (.d (.bool true))) := by kernel_rfl
theorem r1_9 : runD (cR []) 100000 116 [(.int .i64 2), (.int .i64 2), (.int .i64 256)] = some (.ret (.d (.bool true))) := by kernel_rfl
theorem q23 : runD (cR []) 100000 116 [(.int .i64 22), (.int .i64 2), (.int .i64 256)] = some (.ret (.d (.bool true))) := by kernel_rfl
theorem q2m : runD (cR []) 100000 116 [(.int .i64 16), (.int .i64 2), (.int .i64 256)] = some (.ret (.d (.bool true))) := by kernel_rfl
theorem q1v : runD (cR []) 100000 116 [(.int .i64 14), (.int .i64 2), (.int .i64 256)] = some (.ret (.d (.bool true))) := by kernel_rfl
theorem q1i : runD (cR []) 100000 116 [(.int .i64 8), (.int .i64 2), (.int .i64 256)] = some (.ret (.d (.bool true))) := by kernel_rfl
def e1 : List (FuncId × List (List D × Out)) := (116, t1) :: []
theorem x1 : kD (cR e1) := z01 x0 ⟨⟨100000, r1_1⟩, ⟨100000, r1_2⟩, ⟨100000, r1_3⟩, ⟨100000, r1_4⟩, ⟨100000, r1_5⟩, ⟨100000, r1_6⟩, ⟨100000, r1_7⟩, ⟨100000, r1_8⟩, ⟨100000, r1_9⟩, ⟨100000, q23⟩, ⟨100000, q2m⟩, ⟨100000, q1v⟩, ⟨100000, q1i⟩, trivial⟩
def t2 : List (List D × Out) := [([(.agg [(.int .i64 16), (.int .i64 8), (.int .u64 0)])], (.ret (.d (.int .i64 0))))]
theorem r2_1 : runD (cR e1) 100000 67 [(.agg [(.int .i64 16), (.int .i64 8), (.int .u64 0)])] = some (.ret (.d (.int .i64 0))) := by kernel_rfl
def e2 : List (FuncId × List (List D × Out)) := (67, t2) :: e1
theorem x2 : kD (cR e2) := z01 x1 ⟨⟨100000, r2_1⟩, trivial⟩
def t3 : List (List D × Out) := [([(.agg [(.int .i64 16), (.int .i64 8), (.int .u64 0)])], (.ret (.d (.bool true))))]
theorem r3_1 : runD (cR e2) 100000 112 [(.agg [(.int .i64 16), (.int .i64 8), (.int .u64 0)])] = some (.ret (.d (.bool true))) := by kernel_rfl
def e3 : List (FuncId × List (List D × Out)) := (112, t3) :: e2
theorem x3 : kD (cR e3) := z01 x2 ⟨⟨100000, r3_1⟩, trivial⟩
def t4 : List (List D × Out) := [([(.int .i64 0)], (.ret (.d (.bool true)))), ([(.int .i64 1)], (.ret (.d (.bool true))))]
theorem r4_1 : runD (cR e3) 100000 126 [(.int .i64 0)] = some (.ret (.d (.bool true))) := by kernel_rfl
theorem r4_2 : runD (cR e3) 100000 126 [(.int .i64 1)] = some (.ret (.d (.bool true))) := by kernel_rfl
def e4 : List (FuncId × List (List D × Out)) := (126, t4) :: e3
theorem x4 : kD (cR e4) := z01 x3 ⟨⟨100000, r4_1⟩, ⟨100000, r4_2⟩, trivial⟩
def t5 : List (List D × Out) := [([(.int .u32 2166136261), (.str [101, 115, 99, 104, 101, 97, 116, 49, 16, 0, 8, 0, 0, 0, 0, 0, 0, 0, 0, 0])], (.ret (.d (.int .u32 4205664195))))]
theorem r5_1 : runD (cR e4) 100000 117 [(.int .u32 2166136261), (.str [101, 115, 99, 104, 101, 97, 116, 49, 16, 0, 8, 0, 0, 0, 0, 0, 0, 0, 0, 0])] = some (.ret (.d (.int .u32 4205664195))) := by kernel_rfl
def e5 : List (FuncId × List (List D × Out)) := (117, t5) :: e4
theorem x5 : kD (cR e5) := z01 x4 ⟨⟨100000, r5_1⟩, trivial⟩
def t6 : List (List D × Out) := [([(R8 [(256, 0)]), (.int .i64 22), (.int .i64 2), (.int .i64 0)], (.ret (.d (R8 [(256, 0)])))), ([(R8 [(256, 0)]), (.int .i64 20), (.int .i64 2), (.int .i64 0)], (.ret (.d (R8 [(256, 0)])))), ([(R8 [(1, 2), (1, 0), (1, 1), (253, 0)]), (.int .i64 8), (.int .i64 2), (.int .i64 1)], (.ret (.d (R8 [(1, 2), (1, 0), (1, 1), (5, 0), (1, 1), (247, 0)])))), ([(R8 [(256, 0)]), (.int .i64 10), (.int .i64 2), (.int .i64 0)], (.ret (.d (R8 [(256, 0)])))), ([(R8 [(1, 2), (1, 0), (1, 1), (5, 0), (1, 1), (247, 0)]), (.int .i64 10), (.int .i64 2), (.int .i64 0)], (.ret (.d (R8 [(1, 2), (1, 0), (1, 1), (5, 0), (1, 1), (247, 0)])))), ([(R8 [(1, 101), (1, 115), (1, 99), (1, 104), (1, 101), (1, 97), (1, 116), (1, 49), (248, 0)]), (.int .i64 8), (.int .i64 2), (.int .i64 16)], (.ret (.d (R8 [(1, 101), (1, 115), (1, 99), (1, 104), (1, 101), (1, 97), (1, 116), (1, 49), (1, 16), (247, 0)])))), ([(R8 [(1, 2), (255, 0)]), (.int .i64 2), (.int .i64 2), (.int .i64 1)], (.ret (.d (R8 [(1, 2), (1, 0), (1, 1), (253, 0)])))), ([(R8 [(256, 0)]), (.int .i64 16), (.int .i64 2), (.int .i64 0)], (.ret (.d (R8 [(256, 0)])))), ([(R8 [(256, 0)]), (.int .i64 12), (.int .i64 2), (.int .i64 0)], (.ret (.d (R8 [(256, 0)])))), ([(R8 [(1, 101), (1, 115), (1, 99), (1, 104), (1, 101), (1, 97), (1, 116), (1, 49), (1, 16), (247, 0)]), (.int .i64 10), (.int .i64 2), (.int .i64 8)], (.ret (.d (R8 [(1, 101), (1, 115), (1, 99), (1, 104), (1, 101), (1, 97), (1, 116), (1, 49), (1, 16), (1, 0), (1, 8), (245, 0)])))), ([(R8 [(1, 2), (1, 0), (1, 1), (5, 0), (1, 1), (247, 0)]), (.int .i64 12), (.int .i64 2), (.int .i64 0)], (.ret (.d (R8 [(1, 2), (1, 0), (1, 1), (5, 0), (1, 1), (247, 0)])))), ([(R8 [(1, 2), (1, 0), (1, 1), (5, 0), (1, 1), (247, 0)]), (.int .i64 22), (.int .i64 2), (.int .i64 0)], (.ret (.d (R8 [(1, 2), (1, 0), (1, 1), (5, 0), (1, 1), (247, 0)])))), ([(R8 [(256, 0)]), (.int .i64 0), (.int .i64 1), (.int .i64 2)], (.ret (.d (R8 [(1, 2), (255, 0)])))), ([(R8 [(1, 2), (1, 0), (1, 1), (5, 0), (1, 1), (247, 0)]), (.int .i64 18), (.int .i64 2), (.int .i64 0)], (.ret (.d (R8 [(1, 2), (1, 0), (1, 1), (5, 0), (1, 1), (247, 0)])))), ([(R8 [(1, 2), (1, 0), (1, 1), (253, 0)]), (.int .i64 4), (.int .i64 4), (.int .i64 0)], (.ret (.d (R8 [(1, 2), (1, 0), (1, 1), (253, 0)])))), ([(R8 [(1, 2), (1, 0), (1, 1), (5, 0), (1, 1), (247, 0)]), (.int .i64 16), (.int .i64 2), (.int .i64 0)], (.ret (.d (R8 [(1, 2), (1, 0), (1, 1), (5, 0), (1, 1), (247, 0)])))), ([(R8 [(256, 0)]), (.int .i64 8), (.int .i64 2), (.int .i64 0)], (.ret (.d (R8 [(256, 0)])))), ([(R8 [(256, 0)]), (.int .i64 14), (.int .i64 2), (.int .i64 0)], (.ret (.d (R8 [(256, 0)])))), ([(R8 [(256, 0)]), (.int .i64 0), (.int .i64 1), (.int .i64 0)], (.ret (.d (R8 [(256, 0)])))), ([(R8 [(256, 0)]), (.int .i64 18), (.int .i64 2), (.int .i64 0)], (.ret (.d (R8 [(256, 0)])))), ([(R8 [(256, 0)]), (.int .i64 4), (.int .i64 4), (.int .i64 0)], (.ret (.d (R8 [(256, 0)])))), ([(R8 [(1, 101), (1, 115), (1, 99), (1, 104), (1, 101), (1, 97), (1, 116), (1, 49), (1, 16), (1, 0), (1, 8), (245, 0)]), (.int .i64 20), (.int .i64 4), (.int .i64 4205664195)], (.ret (.d (R8 [(1, 101), (1, 115), (1, 99), (1, 104), (1, 101), (1, 97), (1, 116), (1, 49), (1, 16), (1, 0), (1, 8), (9, 0), (1, 195), (1, 87), (1, 173), (1, 250), (232, 0)])))), ([(R8 [(256, 0)]), (.int .i64 2), (.int .i64 2), (.int .i64 0)], (.ret (.d (R8 [(256, 0)])))), ([(R8 [(1, 2), (1, 0), (1, 1), (5, 0), (1, 1), (247, 0)]), (.int .i64 14), (.int .i64 2), (.int .i64 0)], (.ret (.d (R8 [(1, 2), (1, 0), (1, 1), (5, 0), (1, 1), (247, 0)])))), ([(R8 [(1, 2), (1, 0), (1, 1), (5, 0), (1, 1), (247, 0)]), (.int .i64 20), (.int .i64 2), (.int .i64 0)], (.ret (.d (R8 [(1, 2), (1, 0), (1, 1), (5, 0), (1, 1), (247, 0)]))))]
theorem r6_1 : runD (cR e5) 100000 87 [(R8 [(256, 0)]), (.int .i64 22), (.int .i64 2), (.int .i64 0)] = some (.ret (.d (R8 [(256, 0)]))) := by kernel_rfl
theorem r6_2 : runD (cR e5) 100000 87 [(R8 [(256, 0)]), (.int .i64 20), (.int .i64 2), (.int .i64 0)] = some (.ret (.d (R8 [(256, 0)]))) := by kernel_rfl
theorem r6_3 : runD (cR e5) 100000 87 [(R8 [(1, 2), (1, 0), (1, 1), (253, 0)]), (.int .i64 8), (.int .i64 2), (.int .i64 1)] = some (.ret (.d (R8 [(1, 2), (1, 0), (1, 1), (5, 0), (1, 1), (247, 0)]))) := by kernel_rfl
theorem r6_4 : runD (cR e5) 100000 87 [(R8 [(256, 0)]), (.int .i64 10), (.int .i64 2), (.int .i64 0)] = some (.ret (.d (R8 [(256, 0)]))) := by kernel_rfl
theorem r6_5 : runD (cR e5) 100000 87 [(R8 [(1, 2), (1, 0), (1, 1), (5, 0), (1, 1), (247, 0)]), (.int .i64 10), (.int .i64 2), (.int .i64 0)] = some (.ret (.d (R8 [(1, 2), (1, 0), (1, 1), (5, 0), (1, 1), (247, 0)]))) := by kernel_rfl
theorem r6_6 : runD (cR e5) 100000 87 [(R8 [(1, 101), (1, 115), (1, 99), (1, 104), (1, 101), (1, 97), (1, 116), (1, 49), (248, 0)]), (.int .i64 8), (.int .i64 2), (.int .i64 16)] = some (.ret (.d (R8 [(1, 101), (1, 115), (1, 99), (1, 104), (1, 101), (1, 97), (1, 116), (1, 49), (1, 16), (247, 0)]))) := by kernel_rfl
theorem r6_7 : runD (cR e5) 100000 87 [(R8 [(1, 2), (255, 0)]), (.int .i64 2), (.int .i64 2), (.int .i64 1)] = some (.ret (.d (R8 [(1, 2), (1, 0), (1, 1), (253, 0)]))) := by kernel_rfl
theorem r6_8 : runD (cR e5) 100000 87 [(R8 [(256, 0)]), (.int .i64 16), (.int .i64 2), (.int .i64 0)] = some (.ret (.d (R8 [(256, 0)]))) := by kernel_rfl
theorem r6_9 : runD (cR e5) 100000 87 [(R8 [(256, 0)]), (.int .i64 12), (.int .i64 2), (.int .i64 0)] = some (.ret (.d (R8 [(256, 0)]))) := by kernel_rfl
theorem zzd : runD (cR e5) 100000 87 [(R8 [(1, 101), (1, 115), (1, 99), (1, 104), (1, 101), (1, 97), (1, 116), (1, 49), (1, 16), (247, 0)]), (.int .i64 10), (.int .i64 2), (.int .i64 8)] = some (.ret (.d (R8 [(1, 101), (1, 115), (1, 99), (1, 104), (1, 101), (1, 97), (1, 116), (1, 49), (1, 16), (1, 0), (1, 8), (245, 0)]))) := by kernel_rfl
theorem zzz : runD (cR e5) 100000 87 [(R8 [(1, 2), (1, 0), (1, 1), (5, 0), (1, 1), (247, 0)]), (.int .i64 12), (.int .i64 2), (.int .i64 0)] = some (.ret (.d (R8 [(1, 2), (1, 0), (1, 1), (5, 0), (1, 1), (247, 0)]))) := by kernel_rfl
theorem q28 : runD (cR e5) 100000 87 [(R8 [(1, 2), (1, 0), (1, 1), (5, 0), (1, 1), (247, 0)]), (.int .i64 22), (.int .i64 2), (.int .i64 0)] = some (.ret (.d (R8 [(1, 2), (1, 0), (1, 1), (5, 0), (1, 1), (247, 0)]))) := by kernel_rfl
theorem q0p : runD (cR e5) 100000 87 [(R8 [(256, 0)]), (.int .i64 0), (.int .i64 1), (.int .i64 2)] = some (.ret (.d (R8 [(1, 2), (255, 0)]))) := by kernel_rfl
theorem q2h : runD (cR e5) 100000 87 [(R8 [(1, 2), (1, 0), (1, 1), (5, 0), (1, 1), (247, 0)]), (.int .i64 18), (.int .i64 2), (.int .i64 0)] = some (.ret (.d (R8 [(1, 2), (1, 0), (1, 1), (5, 0), (1, 1), (247, 0)]))) := by kernel_rfl
theorem q1s : runD (cR e5) 100000 87 [(R8 [(1, 2), (1, 0), (1, 1), (253, 0)]), (.int .i64 4), (.int .i64 4), (.int .i64 0)] = some (.ret (.d (R8 [(1, 2), (1, 0), (1, 1), (253, 0)]))) := by kernel_rfl
theorem q2a : runD (cR e5) 100000 87 [(R8 [(1, 2), (1, 0), (1, 1), (5, 0), (1, 1), (247, 0)]), (.int .i64 16), (.int .i64 2), (.int .i64 0)] = some (.ret (.d (R8 [(1, 2), (1, 0), (1, 1), (5, 0), (1, 1), (247, 0)]))) := by kernel_rfl
theorem q1l : runD (cR e5) 100000 87 [(R8 [(256, 0)]), (.int .i64 8), (.int .i64 2), (.int .i64 0)] = some (.ret (.d (R8 [(256, 0)]))) := by kernel_rfl
theorem zz8 : runD (cR e5) 100000 87 [(R8 [(256, 0)]), (.int .i64 14), (.int .i64 2), (.int .i64 0)] = some (.ret (.d (R8 [(256, 0)]))) := by kernel_rfl
theorem q21 : runD (cR e5) 100000 87 [(R8 [(256, 0)]), (.int .i64 0), (.int .i64 1), (.int .i64 0)] = some (.ret (.d (R8 [(256, 0)]))) := by kernel_rfl
theorem q17 : runD (cR e5) 100000 87 [(R8 [(256, 0)]), (.int .i64 18), (.int .i64 2), (.int .i64 0)] = some (.ret (.d (R8 [(256, 0)]))) := by kernel_rfl
theorem zz7 : runD (cR e5) 100000 87 [(R8 [(256, 0)]), (.int .i64 4), (.int .i64 4), (.int .i64 0)] = some (.ret (.d (R8 [(256, 0)]))) := by kernel_rfl
theorem zzj : runD (cR e5) 100000 87 [(R8 [(1, 101), (1, 115), (1, 99), (1, 104), (1, 101), (1, 97), (1, 116), (1, 49), (1, 16), (1, 0), (1, 8), (245, 0)]), (.int .i64 20), (.int .i64 4), (.int .i64 4205664195)] = some (.ret (.d (R8 [(1, 101), (1, 115), (1, 99), (1, 104), (1, 101), (1, 97), (1, 116), (1, 49), (1, 16), (1, 0), (1, 8), (9, 0), (1, 195), (1, 87), (1, 173), (1, 250), (232, 0)]))) := by kernel_rfl
theorem q2f : runD (cR e5) 100000 87 [(R8 [(256, 0)]), (.int .i64 2), (.int .i64 2), (.int .i64 0)] = some (.ret (.d (R8 [(256, 0)]))) := by kernel_rfl
theorem q2q : runD (cR e5) 100000 87 [(R8 [(1, 2), (1, 0), (1, 1), (5, 0), (1, 1), (247, 0)]), (.int .i64 14), (.int .i64 2), (.int .i64 0)] = some (.ret (.d (R8 [(1, 2), (1, 0), (1, 1), (5, 0), (1, 1), (247, 0)]))) := by kernel_rfl
theorem q27 : runD (cR e5) 100000 87 [(R8 [(1, 2), (1, 0), (1, 1), (5, 0), (1, 1), (247, 0)]), (.int .i64 20), (.int .i64 2), (.int .i64 0)] = some (.ret (.d (R8 [(1, 2), (1, 0), (1, 1), (5, 0), (1, 1), (247, 0)]))) := by kernel_rfl
def e6 : List (FuncId × List (List D × Out)) := (87, t6) :: e5
theorem x6 : kD (cR e6) := z01 x5 ⟨⟨100000, r6_1⟩, ⟨100000, r6_2⟩, ⟨100000, r6_3⟩, ⟨100000, r6_4⟩, ⟨100000, r6_5⟩, ⟨100000, r6_6⟩, ⟨100000, r6_7⟩, ⟨100000, r6_8⟩, ⟨100000, r6_9⟩, ⟨100000, zzd⟩, ⟨100000, zzz⟩, ⟨100000, q28⟩, ⟨100000, q0p⟩, ⟨100000, q2h⟩, ⟨100000, q1s⟩, ⟨100000, q2a⟩, ⟨100000, q1l⟩, ⟨100000, zz8⟩, ⟨100000, q21⟩, ⟨100000, q17⟩, ⟨100000, zz7⟩, ⟨100000, zzj⟩, ⟨100000, q2f⟩, ⟨100000, q2q⟩, ⟨100000, q27⟩, trivial⟩
def t7 : List (List D × Out) := [([(R8 [(256, 0)]), (.int .i64 16), (.int .i64 2)], (.ret (.d (.int .i64 0)))), ([(R8 [(1, 2), (1, 0), (1, 1), (5, 0), (1, 1), (247, 0)]), (.int .i64 2), (.int .i64 2)], (.ret (.d (.int .i64 1)))), ([(R8 [(256, 0)]), (.int .i64 12), (.int .i64 2)], (.ret (.d (.int .i64 0)))), ([(R8 [(1, 2), (1, 0), (1, 1), (5, 0), (1, 1), (247, 0)]), (.int .i64 8), (.int .i64 2)], (.ret (.d (.int .i64 1)))), ([(R8 [(1, 2), (1, 0), (1, 1), (5, 0), (1, 1), (247, 0)]), (.int .i64 22), (.int .i64 2)], (.ret (.d (.int .i64 0)))), ([(R8 [(256, 0)]), (.int .i64 22), (.int .i64 2)], (.ret (.d (.int .i64 0)))), ([(R8 [(256, 0)]), (.int .i64 20), (.int .i64 2)], (.ret (.d (.int .i64 0)))), ([(R8 [(1, 2), (1, 0), (1, 1), (5, 0), (1, 1), (247, 0)]), (.int .i64 0), (.int .i64 1)], (.ret (.d (.int .i64 2)))), ([(R8 [(256, 0)]), (.int .i64 0), (.int .i64 1)], (.ret (.d (.int .i64 0)))), ([(R8 [(1, 2), (1, 0), (1, 1), (5, 0), (1, 1), (247, 0)]), (.int .i64 10), (.int .i64 2)], (.ret (.d (.int .i64 0)))), ([(R8 [(1, 2), (1, 0), (1, 1), (5, 0), (1, 1), (247, 0)]), (.int .i64 4), (.int .i64 4)], (.ret (.d (.int .i64 0)))), ([(R8 [(1, 2), (1, 0), (1, 1), (5, 0), (1, 1), (247, 0)]), (.int .i64 16), (.int .i64 2)], (.ret (.d (.int .i64 0)))), ([(R8 [(256, 0)]), (.int .i64 2), (.int .i64 2)], (.ret (.d (.int .i64 0)))), ([(R8 [(256, 0)]), (.int .i64 8), (.int .i64 2)], (.ret (.d (.int .i64 0)))), ([(R8 [(256, 0)]), (.int .i64 18), (.int .i64 2)], (.ret (.d (.int .i64 0)))), ([(R8 [(1, 2), (1, 0), (1, 1), (5, 0), (1, 1), (247, 0)]), (.int .i64 12), (.int .i64 2)], (.ret (.d (.int .i64 0)))), ([(R8 [(1, 101), (1, 115), (1, 99), (1, 104), (1, 101), (1, 97), (1, 116), (1, 49), (1, 16), (1, 0), (1, 8), (9, 0), (1, 195), (1, 87), (1, 173), (1, 250), (232, 0)]), (.int .i64 10), (.int .i64 2)], (.ret (.d (.int .i64 8)))), ([(R8 [(256, 0)]), (.int .i64 10), (.int .i64 2)], (.ret (.d (.int .i64 0)))), ([(R8 [(256, 0)]), (.int .i64 14), (.int .i64 2)], (.ret (.d (.int .i64 0)))), ([(R8 [(1, 2), (1, 0), (1, 1), (5, 0), (1, 1), (247, 0)]), (.int .i64 18), (.int .i64 2)], (.ret (.d (.int .i64 0)))), ([(R8 [(1, 2), (1, 0), (1, 1), (5, 0), (1, 1), (247, 0)]), (.int .i64 20), (.int .i64 2)], (.ret (.d (.int .i64 0)))), ([(R8 [(1, 2), (1, 0), (1, 1), (5, 0), (1, 1), (247, 0)]), (.int .i64 14), (.int .i64 2)], (.ret (.d (.int .i64 0)))), ([(R8 [(256, 0)]), (.int .i64 4), (.int .i64 4)], (.ret (.d (.int .i64 0)))), ([(R8 [(1, 101), (1, 115), (1, 99), (1, 104), (1, 101), (1, 97), (1, 116), (1, 49), (1, 16), (1, 0), (1, 8), (9, 0), (1, 195), (1, 87), (1, 173), (1, 250), (232, 0)]), (.int .i64 8), (.int .i64 2)], (.ret (.d (.int .i64 16))))]
theorem r7_1 : runD (cR e6) 100000 98 [(R8 [(256, 0)]), (.int .i64 16), (.int .i64 2)] = some (.ret (.d (.int .i64 0))) := by kernel_rfl
theorem r7_2 : runD (cR e6) 100000 98 [(R8 [(1, 2), (1, 0), (1, 1), (5, 0), (1, 1), (247, 0)]), (.int .i64 2), (.int .i64 2)] = some (.ret (.d (.int .i64 1))) := by kernel_rfl
theorem r7_3 : runD (cR e6) 100000 98 [(R8 [(256, 0)]), (.int .i64 12), (.int .i64 2)] = some (.ret (.d (.int .i64 0))) := by kernel_rfl
theorem r7_4 : runD (cR e6) 100000 98 [(R8 [(1, 2), (1, 0), (1, 1), (5, 0), (1, 1), (247, 0)]), (.int .i64 8), (.int .i64 2)] = some (.ret (.d (.int .i64 1))) := by kernel_rfl
theorem r7_5 : runD (cR e6) 100000 98 [(R8 [(1, 2), (1, 0), (1, 1), (5, 0), (1, 1), (247, 0)]), (.int .i64 22), (.int .i64 2)] = some (.ret (.d (.int .i64 0))) := by kernel_rfl
theorem r7_6 : runD (cR e6) 100000 98 [(R8 [(256, 0)]), (.int .i64 22), (.int .i64 2)] = some (.ret (.d (.int .i64 0))) := by kernel_rfl
theorem r7_7 : runD (cR e6) 100000 98 [(R8 [(256, 0)]), (.int .i64 20), (.int .i64 2)] = some (.ret (.d (.int .i64 0))) := by kernel_rfl
theorem r7_8 : runD (cR e6) 100000 98 [(R8 [(1, 2), (1, 0), (1, 1), (5, 0), (1, 1), (247, 0)]), (.int .i64 0), (.int .i64 1)] = some (.ret (.d (.int .i64 2))) := by kernel_rfl
theorem r7_9 : runD (cR e6) 100000 98 [(R8 [(256, 0)]), (.int .i64 0), (.int .i64 1)] = some (.ret (.d (.int .i64 0))) := by kernel_rfl
theorem q1e : runD (cR e6) 100000 98 [(R8 [(1, 2), (1, 0), (1, 1), (5, 0), (1, 1), (247, 0)]), (.int .i64 10), (.int .i64 2)] = some (.ret (.d (.int .i64 0))) := by kernel_rfl
theorem q0d : runD (cR e6) 100000 98 [(R8 [(1, 2), (1, 0), (1, 1), (5, 0), (1, 1), (247, 0)]), (.int .i64 4), (.int .i64 4)] = some (.ret (.d (.int .i64 0))) := by kernel_rfl
theorem zzb : runD (cR e6) 100000 98 [(R8 [(1, 2), (1, 0), (1, 1), (5, 0), (1, 1), (247, 0)]), (.int .i64 16), (.int .i64 2)] = some (.ret (.d (.int .i64 0))) := by kernel_rfl
theorem q0l : runD (cR e6) 100000 98 [(R8 [(256, 0)]), (.int .i64 2), (.int .i64 2)] = some (.ret (.d (.int .i64 0))) := by kernel_rfl
theorem q0i : runD (cR e6) 100000 98 [(R8 [(256, 0)]), (.int .i64 8), (.int .i64 2)] = some (.ret (.d (.int .i64 0))) := by kernel_rfl
theorem zz2 : runD (cR e6) 100000 98 [(R8 [(256, 0)]), (.int .i64 18), (.int .i64 2)] = some (.ret (.d (.int .i64 0))) := by kernel_rfl
theorem zzm : runD (cR e6) 100000 98 [(R8 [(1, 2), (1, 0), (1, 1), (5, 0), (1, 1), (247, 0)]), (.int .i64 12), (.int .i64 2)] = some (.ret (.d (.int .i64 0))) := by kernel_rfl
theorem zzh : runD (cR e6) 100000 98 [(R8 [(1, 101), (1, 115), (1, 99), (1, 104), (1, 101), (1, 97), (1, 116), (1, 49), (1, 16), (1, 0), (1, 8), (9, 0), (1, 195), (1, 87), (1, 173), (1, 250), (232, 0)]), (.int .i64 10), (.int .i64 2)] = some (.ret (.d (.int .i64 8))) := by kernel_rfl
theorem q13 : runD (cR e6) 100000 98 [(R8 [(256, 0)]), (.int .i64 10), (.int .i64 2)] = some (.ret (.d (.int .i64 0))) := by kernel_rfl
theorem zz5 : runD (cR e6) 100000 98 [(R8 [(256, 0)]), (.int .i64 14), (.int .i64 2)] = some (.ret (.d (.int .i64 0))) := by kernel_rfl
theorem q2g : runD (cR e6) 100000 98 [(R8 [(1, 2), (1, 0), (1, 1), (5, 0), (1, 1), (247, 0)]), (.int .i64 18), (.int .i64 2)] = some (.ret (.d (.int .i64 0))) := by kernel_rfl
theorem q2k : runD (cR e6) 100000 98 [(R8 [(1, 2), (1, 0), (1, 1), (5, 0), (1, 1), (247, 0)]), (.int .i64 20), (.int .i64 2)] = some (.ret (.d (.int .i64 0))) := by kernel_rfl
theorem q2d : runD (cR e6) 100000 98 [(R8 [(1, 2), (1, 0), (1, 1), (5, 0), (1, 1), (247, 0)]), (.int .i64 14), (.int .i64 2)] = some (.ret (.d (.int .i64 0))) := by kernel_rfl
theorem q2l : runD (cR e6) 100000 98 [(R8 [(256, 0)]), (.int .i64 4), (.int .i64 4)] = some (.ret (.d (.int .i64 0))) := by kernel_rfl
theorem q1b : runD (cR e6) 100000 98 [(R8 [(1, 101), (1, 115), (1, 99), (1, 104), (1, 101), (1, 97), (1, 116), (1, 49), (1, 16), (1, 0), (1, 8), (9, 0), (1, 195), (1, 87), (1, 173), (1, 250), (232, 0)]), (.int .i64 8), (.int .i64 2)] = some (.ret (.d (.int .i64 16))) := by kernel_rfl
def e7 : List (FuncId × List (List D × Out)) := (98, t7) :: e6
theorem x7 : kD (cR e7) := z01 x6 ⟨⟨100000, r7_1⟩, ⟨100000, r7_2⟩, ⟨100000, r7_3⟩, ⟨100000, r7_4⟩, ⟨100000, r7_5⟩, ⟨100000, r7_6⟩, ⟨100000, r7_7⟩, ⟨100000, r7_8⟩, ⟨100000, r7_9⟩, ⟨100000, q1e⟩, ⟨100000, q0d⟩, ⟨100000, zzb⟩, ⟨100000, q0l⟩, ⟨100000, q0i⟩, ⟨100000, zz2⟩, ⟨100000, zzm⟩, ⟨100000, zzh⟩, ⟨100000, q13⟩, ⟨100000, zz5⟩, ⟨100000, q2g⟩, ⟨100000, q2k⟩, ⟨100000, q2d⟩, ⟨100000, q2l⟩, ⟨100000, q1b⟩, trivial⟩
def t8 : List (List D × Out) := [([(R8 [(256, 0)]), (.int .i64 0), (S8 [(1, 2), (1, 0), (1, 1), (5, 0), (1, 1), (23, 0)])], (.ret (.d (R8 [(1, 2), (1, 0), (1, 1), (5, 0), (1, 1), (247, 0)])))), ([(R8 [(256, 0)]), (.int .i64 0), (S8 [(1, 101), (1, 115), (1, 99), (1, 104), (1, 101), (1, 97), (1, 116), (1, 49)])], (.ret (.d (R8 [(1, 101), (1, 115), (1, 99), (1, 104), (1, 101), (1, 97), (1, 116), (1, 49), (248, 0)])))), ([(R8 [(1, 101), (1, 115), (1, 99), (1, 104), (1, 101), (1, 97), (1, 116), (1, 49), (1, 16), (1, 0), (1, 8), (245, 0)]), (.int .i64 12), (S8 [(8, 0)])], (.ret (.d (R8 [(1, 101), (1, 115), (1, 99), (1, 104), (1, 101), (1, 97), (1, 116), (1, 49), (1, 16), (1, 0), (1, 8), (245, 0)])))), ([(R8 [(256, 0)]), (.int .i64 0), (S8 [(32, 0)])], (.ret (.d (R8 [(256, 0)]))))]
theorem r8_1 : runD (cR e7) 100000 89 [(R8 [(256, 0)]), (.int .i64 0), (S8 [(1, 2), (1, 0), (1, 1), (5, 0), (1, 1), (23, 0)])] = some (.ret (.d (R8 [(1, 2), (1, 0), (1, 1), (5, 0), (1, 1), (247, 0)]))) := by kernel_rfl
theorem r8_2 : runD (cR e7) 100000 89 [(R8 [(256, 0)]), (.int .i64 0), (S8 [(1, 101), (1, 115), (1, 99), (1, 104), (1, 101), (1, 97), (1, 116), (1, 49)])] = some (.ret (.d (R8 [(1, 101), (1, 115), (1, 99), (1, 104), (1, 101), (1, 97), (1, 116), (1, 49), (248, 0)]))) := by kernel_rfl
theorem r8_3 : runD (cR e7) 100000 89 [(R8 [(1, 101), (1, 115), (1, 99), (1, 104), (1, 101), (1, 97), (1, 116), (1, 49), (1, 16), (1, 0), (1, 8), (245, 0)]), (.int .i64 12), (S8 [(8, 0)])] = some (.ret (.d (R8 [(1, 101), (1, 115), (1, 99), (1, 104), (1, 101), (1, 97), (1, 116), (1, 49), (1, 16), (1, 0), (1, 8), (245, 0)]))) := by kernel_rfl
theorem r8_4 : runD (cR e7) 100000 89 [(R8 [(256, 0)]), (.int .i64 0), (S8 [(32, 0)])] = some (.ret (.d (R8 [(256, 0)]))) := by kernel_rfl
def e8 : List (FuncId × List (List D × Out)) := (89, t8) :: e7
theorem x8 : kD (cR e8) := z01 x7 ⟨⟨100000, r8_1⟩, ⟨100000, r8_2⟩, ⟨100000, r8_3⟩, ⟨100000, r8_4⟩, trivial⟩
def t9 : List (List D × Out) := [([(S8 [(1, 2), (1, 0), (1, 1), (5, 0), (1, 1), (23, 0)])], (.ret (.d (R8 [(1, 2), (1, 0), (1, 1), (5, 0), (1, 1), (247, 0)])))), ([(S8 [(1, 101), (1, 115), (1, 99), (1, 104), (1, 101), (1, 97), (1, 116), (1, 49)])], (.ret (.d (R8 [(1, 101), (1, 115), (1, 99), (1, 104), (1, 101), (1, 97), (1, 116), (1, 49), (248, 0)])))), ([(S8 [(32, 0)])], (.ret (.d (R8 [(256, 0)]))))]
theorem r9_1 : runD (cR e8) 100000 86 [(S8 [(1, 2), (1, 0), (1, 1), (5, 0), (1, 1), (23, 0)])] = some (.ret (.d (R8 [(1, 2), (1, 0), (1, 1), (5, 0), (1, 1), (247, 0)]))) := by kernel_rfl
theorem r9_2 : runD (cR e8) 100000 86 [(S8 [(1, 101), (1, 115), (1, 99), (1, 104), (1, 101), (1, 97), (1, 116), (1, 49)])] = some (.ret (.d (R8 [(1, 101), (1, 115), (1, 99), (1, 104), (1, 101), (1, 97), (1, 116), (1, 49), (248, 0)]))) := by kernel_rfl
theorem r9_3 : runD (cR e8) 100000 86 [(S8 [(32, 0)])] = some (.ret (.d (R8 [(256, 0)]))) := by kernel_rfl
def e9 : List (FuncId × List (List D × Out)) := (86, t9) :: e8
theorem x9 : kD (cR e9) := z01 x8 ⟨⟨100000, r9_1⟩, ⟨100000, r9_2⟩, ⟨100000, r9_3⟩, trivial⟩
def t10 : List (List D × Out) := [([(S8 [(8, 0)]), (.int .i64 0), (.int .i64 8), (.int .u64 0)], (.ret (.tup [.d (S8 [(8, 0)]), .d (.bool true)])))]
theorem zzc : runD (cR e9) 100000 88 [(S8 [(8, 0)]), (.int .i64 0), (.int .i64 8), (.int .u64 0)] = some (.ret (.tup [.d (S8 [(8, 0)]), .d (.bool true)])) := by kernel_rfl
def e10 : List (FuncId × List (List D × Out)) := (88, t10) :: e9
theorem x10 : kD (cR e10) := z01 x9 ⟨⟨100000, zzc⟩, trivial⟩
def t11 : List (List D × Out) := [([(S8 [(8, 0)]), (.int .i64 0), (.int .i64 8)], (.ret (.tup [.d (.int .u64 0), .d (.bool true)])))]
theorem q1f : runD (cR e10) 100000 97 [(S8 [(8, 0)]), (.int .i64 0), (.int .i64 8)] = some (.ret (.tup [.d (.int .u64 0), .d (.bool true)])) := by kernel_rfl
def e11 : List (FuncId × List (List D × Out)) := (97, t11) :: e10
theorem x11 : kD (cR e11) := z01 x10 ⟨⟨100000, q1f⟩, trivial⟩
def t12 : List (List D × Out) := [([(R8 [(1, 101), (1, 115), (1, 99), (1, 104), (1, 101), (1, 97), (1, 116), (1, 49), (1, 16), (1, 0), (1, 8), (245, 0)]), (.int .i64 0), (.int .i64 20)], (.ret (.d (S8 [(1, 101), (1, 115), (1, 99), (1, 104), (1, 101), (1, 97), (1, 116), (1, 49), (1, 16), (1, 0), (1, 8), (9, 0)])))), ([(R8 [(1, 101), (1, 115), (1, 99), (1, 104), (1, 101), (1, 97), (1, 116), (1, 49), (1, 16), (1, 0), (1, 8), (9, 0), (1, 195), (1, 87), (1, 173), (1, 250), (232, 0)]), (.int .i64 12), (.int .i64 8)], (.ret (.d (S8 [(8, 0)]))))]
theorem q11 : runD (cR e11) 100000 69 [(R8 [(1, 101), (1, 115), (1, 99), (1, 104), (1, 101), (1, 97), (1, 116), (1, 49), (1, 16), (1, 0), (1, 8), (245, 0)]), (.int .i64 0), (.int .i64 20)] = some (.ret (.d (S8 [(1, 101), (1, 115), (1, 99), (1, 104), (1, 101), (1, 97), (1, 116), (1, 49), (1, 16), (1, 0), (1, 8), (9, 0)]))) := by kernel_rfl
theorem zzv : runD (cR e11) 100000 69 [(R8 [(1, 101), (1, 115), (1, 99), (1, 104), (1, 101), (1, 97), (1, 116), (1, 49), (1, 16), (1, 0), (1, 8), (9, 0), (1, 195), (1, 87), (1, 173), (1, 250), (232, 0)]), (.int .i64 12), (.int .i64 8)] = some (.ret (.d (S8 [(8, 0)]))) := by kernel_rfl
def e12 : List (FuncId × List (List D × Out)) := (69, t12) :: e11
theorem x12 : kD (cR e12) := z01 x11 ⟨⟨100000, q11⟩, ⟨100000, zzv⟩, trivial⟩
def t13 : List (List D × Out) := [([(.agg [(.int .i64 0), (.int .i64 0), (.int .i64 0), (.int .i64 0), (.int .i64 0), (.int .i64 0), (.int .i64 0), (.int .i64 0), (.int .i64 0), (.int .i64 0), (.int .i64 0)])], (.ret (.d (.agg [(.int .i64 0), (.int .i64 0), (.int .i64 0), (.int .i64 0), (.int .i64 0), (.int .i64 0), (.int .i64 0)])))), ([(.agg [(.int .i64 2), (.int .i64 1), (.int .i64 0), (.int .i64 1), (.int .i64 0), (.int .i64 0), (.int .i64 0), (.int .i64 0), (.int .i64 0), (.int .i64 0), (.int .i64 0)])], (.ret (.d (.agg [(.int .i64 0), (.int .i64 0), (.int .i64 0), (.int .i64 0), (.int .i64 0), (.int .i64 0), (.int .i64 0)]))))]
theorem q01 : runD (cR e12) 100000 121 [(.agg [(.int .i64 0), (.int .i64 0), (.int .i64 0), (.int .i64 0), (.int .i64 0), (.int .i64 0), (.int .i64 0), (.int .i64 0), (.int .i64 0), (.int .i64 0), (.int .i64 0)])] = some (.ret (.d (.agg [(.int .i64 0), (.int .i64 0), (.int .i64 0), (.int .i64 0), (.int .i64 0), (.int .i64 0), (.int .i64 0)]))) := by kernel_rfl
theorem q0e : runD (cR e12) 100000 121 [(.agg [(.int .i64 2), (.int .i64 1), (.int .i64 0), (.int .i64 1), (.int .i64 0), (.int .i64 0), (.int .i64 0), (.int .i64 0), (.int .i64 0), (.int .i64 0), (.int .i64 0)])] = some (.ret (.d (.agg [(.int .i64 0), (.int .i64 0), (.int .i64 0), (.int .i64 0), (.int .i64 0), (.int .i64 0), (.int .i64 0)]))) := by kernel_rfl
def e13 : List (FuncId × List (List D × Out)) := (121, t13) :: e12
theorem x13 : kD (cR e13) := z01 x12 ⟨⟨100000, q01⟩, ⟨100000, q0e⟩, trivial⟩
def t14 : List (List D × Out) := [([(.agg [(.int .i64 0), (.int .i64 0), (.int .i64 0), (.int .i64 0), (.int .i64 0), (.int .i64 0), (.int .i64 0), (.int .i64 0), (.int .i64 0), (.int .i64 0), (.int .i64 0)])], (.ret (.d (.int .i64 0)))), ([(.agg [(.int .i64 2), (.int .i64 1), (.int .i64 0), (.int .i64 1), (.int .i64 0), (.int .i64 0), (.int .i64 0), (.int .i64 0), (.int .i64 0), (.int .i64 0), (.int .i64 0)])], (.ret (.d (.int .i64 0))))]
theorem q07 : runD (cR e13) 100000 120 [(.agg [(.int .i64 0), (.int .i64 0), (.int .i64 0), (.int .i64 0), (.int .i64 0), (.int .i64 0), (.int .i64 0), (.int .i64 0), (.int .i64 0), (.int .i64 0), (.int .i64 0)])] = some (.ret (.d (.int .i64 0))) := by kernel_rfl
theorem q1n : runD (cR e13) 100000 120 [(.agg [(.int .i64 2), (.int .i64 1), (.int .i64 0), (.int .i64 1), (.int .i64 0), (.int .i64 0), (.int .i64 0), (.int .i64 0), (.int .i64 0), (.int .i64 0), (.int .i64 0)])] = some (.ret (.d (.int .i64 0))) := by kernel_rfl
def e14 : List (FuncId × List (List D × Out)) := (120, t14) :: e13
theorem x14 : kD (cR e14) := z01 x13 ⟨⟨100000, q07⟩, ⟨100000, q1n⟩, trivial⟩
def t15 : List (List D × Out) := [([(.agg [(.int .i64 0), (.int .i64 0), (.int .i64 0), (.int .i64 0), (.int .i64 0), (.int .i64 0), (.int .i64 0), (.int .i64 0), (.int .i64 0), (.int .i64 0), (.int .i64 0)])], (.ret (.tup [.d (R8 [(32, 0)]), .d (.int .i64 0)]))), ([(.agg [(.int .i64 2), (.int .i64 1), (.int .i64 0), (.int .i64 1), (.int .i64 0), (.int .i64 0), (.int .i64 0), (.int .i64 0), (.int .i64 0), (.int .i64 0), (.int .i64 0)])], (.ret (.tup [.d (R8 [(1, 2), (1, 0), (1, 1), (5, 0), (1, 1), (23, 0)]), .d (.int .i64 0)])))]
theorem q2p : runD (cR e14) 100000 107 [(.agg [(.int .i64 0), (.int .i64 0), (.int .i64 0), (.int .i64 0), (.int .i64 0), (.int .i64 0), (.int .i64 0), (.int .i64 0), (.int .i64 0), (.int .i64 0), (.int .i64 0)])] = some (.ret (.tup [.d (R8 [(32, 0)]), .d (.int .i64 0)])) := by kernel_rfl
theorem q0f : runD (cR e14) 100000 107 [(.agg [(.int .i64 2), (.int .i64 1), (.int .i64 0), (.int .i64 1), (.int .i64 0), (.int .i64 0), (.int .i64 0), (.int .i64 0), (.int .i64 0), (.int .i64 0), (.int .i64 0)])] = some (.ret (.tup [.d (R8 [(1, 2), (1, 0), (1, 1), (5, 0), (1, 1), (23, 0)]), .d (.int .i64 0)])) := by kernel_rfl
def e15 : List (FuncId × List (List D × Out)) := (107, t15) :: e14
theorem x15 : kD (cR e15) := z01 x14 ⟨⟨100000, q2p⟩, ⟨100000, q0f⟩, trivial⟩
def t16 : List (List D × Out) := [([(R8 [(1, 2), (1, 0), (1, 1), (5, 0), (1, 1), (23, 0)])], (.ret (.d (.agg [(.int .i64 2), (.int .i64 1), (.int .i64 0), (.int .i64 1), (.int .i64 0), (.int .i64 0), (.int .i64 0), (.int .i64 0), (.int .i64 0), (.int .i64 0), (.int .i64 0)])))), ([(R8 [(32, 0)])], (.ret (.d (.agg [(.int .i64 0), (.int .i64 0), (.int .i64 0), (.int .i64 0), (.int .i64 0), (.int .i64 0), (.int .i64 0), (.int .i64 0), (.int .i64 0), (.int .i64 0), (.int .i64 0)]))))]
theorem q0y : runD (cR e15) 100000 125 [(R8 [(1, 2), (1, 0), (1, 1), (5, 0), (1, 1), (23, 0)])] = some (.ret (.d (.agg [(.int .i64 2), (.int .i64 1), (.int .i64 0), (.int .i64 1), (.int .i64 0), (.int .i64 0), (.int .i64 0), (.int .i64 0), (.int .i64 0), (.int .i64 0), (.int .i64 0)]))) := by kernel_rfl
theorem q0w : runD (cR e15) 100000 125 [(R8 [(32, 0)])] = some (.ret (.d (.agg [(.int .i64 0), (.int .i64 0), (.int .i64 0), (.int .i64 0), (.int .i64 0), (.int .i64 0), (.int .i64 0), (.int .i64 0), (.int .i64 0), (.int .i64 0), (.int .i64 0)]))) := by kernel_rfl
def e16 : List (FuncId × List (List D × Out)) := (125, t16) :: e15
theorem x16 : kD (cR e16) := z01 x15 ⟨⟨100000, q0y⟩, ⟨100000, q0w⟩, trivial⟩
def t17 : List (List D × Out) := [([(R8 [(1, 2), (1, 0), (1, 1), (5, 0), (1, 1), (23, 0)])], (.ret (.tup [.d (.agg [(.int .i64 2), (.int .i64 1), (.int .i64 0), (.int .i64 1), (.int .i64 0), (.int .i64 0), (.int .i64 0), (.int .i64 0), (.int .i64 0), (.int .i64 0), (.int .i64 0)]), .d (.bool true)]))), ([(R8 [(32, 0)])], (.ret (.tup [.d (.agg [(.int .i64 0), (.int .i64 0), (.int .i64 0), (.int .i64 0), (.int .i64 0), (.int .i64 0), (.int .i64 0), (.int .i64 0), (.int .i64 0), (.int .i64 0), (.int .i64 0)]), .d (.bool true)])))]
theorem zzk : runD (cR e16) 100000 114 [(R8 [(1, 2), (1, 0), (1, 1), (5, 0), (1, 1), (23, 0)])] = some (.ret (.tup [.d (.agg [(.int .i64 2), (.int .i64 1), (.int .i64 0), (.int .i64 1), (.int .i64 0), (.int .i64 0), (.int .i64 0), (.int .i64 0), (.int .i64 0), (.int .i64 0), (.int .i64 0)]), .d (.bool true)])) := by kernel_rfl
theorem q2e : runD (cR e16) 100000 114 [(R8 [(32, 0)])] = some (.ret (.tup [.d (.agg [(.int .i64 0), (.int .i64 0), (.int .i64 0), (.int .i64 0), (.int .i64 0), (.int .i64 0), (.int .i64 0), (.int .i64 0), (.int .i64 0), (.int .i64 0), (.int .i64 0)]), .d (.bool true)])) := by kernel_rfl
def e17 : List (FuncId × List (List D × Out)) := (114, t17) :: e16
theorem x17 : kD (cR e17) := z01 x16 ⟨⟨100000, zzk⟩, ⟨100000, q2e⟩, trivial⟩
def t18 : List (List D × Out) := [([(R8 [(1, 2), (1, 0), (1, 1), (5, 0), (1, 1), (247, 0)]), (.int .i64 3)], (.ret (.d (R8 [(32, 0)])))), ([(R8 [(1, 2), (1, 0), (1, 1), (5, 0), (1, 1), (247, 0)]), (.int .i64 1)], (.ret (.d (R8 [(32, 0)])))), ([(R8 [(1, 2), (1, 0), (1, 1), (5, 0), (1, 1), (247, 0)]), (.int .i64 6)], (.ret (.d (R8 [(32, 0)])))), ([(R8 [(1, 2), (1, 0), (1, 1), (5, 0), (1, 1), (247, 0)]), (.int .i64 4)], (.ret (.d (R8 [(32, 0)])))), ([(R8 [(1, 2), (1, 0), (1, 1), (5, 0), (1, 1), (247, 0)]), (.int .i64 0)], (.ret (.d (R8 [(1, 2), (1, 0), (1, 1), (5, 0), (1, 1), (23, 0)])))), ([(R8 [(1, 2), (1, 0), (1, 1), (5, 0), (1, 1), (247, 0)]), (.int .i64 2)], (.ret (.d (R8 [(32, 0)])))), ([(R8 [(1, 2), (1, 0), (1, 1), (5, 0), (1, 1), (247, 0)]), (.int .i64 7)], (.ret (.d (R8 [(32, 0)])))), ([(R8 [(1, 2), (1, 0), (1, 1), (5, 0), (1, 1), (247, 0)]), (.int .i64 5)], (.ret (.d (R8 [(32, 0)]))))]
theorem zzf : runD (cR e17) 100000 115 [(R8 [(1, 2), (1, 0), (1, 1), (5, 0), (1, 1), (247, 0)]), (.int .i64 3)] = some (.ret (.d (R8 [(32, 0)]))) := by kernel_rfl
theorem q06 : runD (cR e17) 100000 115 [(R8 [(1, 2), (1, 0), (1, 1), (5, 0), (1, 1), (247, 0)]), (.int .i64 1)] = some (.ret (.d (R8 [(32, 0)]))) := by kernel_rfl
theorem q0n : runD (cR e17) 100000 115 [(R8 [(1, 2), (1, 0), (1, 1), (5, 0), (1, 1), (247, 0)]), (.int .i64 6)] = some (.ret (.d (R8 [(32, 0)]))) := by kernel_rfl
theorem zz3 : runD (cR e17) 100000 115 [(R8 [(1, 2), (1, 0), (1, 1), (5, 0), (1, 1), (247, 0)]), (.int .i64 4)] = some (.ret (.d (R8 [(32, 0)]))) := by kernel_rfl
theorem q19 : runD (cR e17) 100000 115 [(R8 [(1, 2), (1, 0), (1, 1), (5, 0), (1, 1), (247, 0)]), (.int .i64 0)] = some (.ret (.d (R8 [(1, 2), (1, 0), (1, 1), (5, 0), (1, 1), (23, 0)]))) := by kernel_rfl
theorem q0b : runD (cR e17) 100000 115 [(R8 [(1, 2), (1, 0), (1, 1), (5, 0), (1, 1), (247, 0)]), (.int .i64 2)] = some (.ret (.d (R8 [(32, 0)]))) := by kernel_rfl
theorem q05 : runD (cR e17) 100000 115 [(R8 [(1, 2), (1, 0), (1, 1), (5, 0), (1, 1), (247, 0)]), (.int .i64 7)] = some (.ret (.d (R8 [(32, 0)]))) := by kernel_rfl
theorem zzw : runD (cR e17) 100000 115 [(R8 [(1, 2), (1, 0), (1, 1), (5, 0), (1, 1), (247, 0)]), (.int .i64 5)] = some (.ret (.d (R8 [(32, 0)]))) := by kernel_rfl
def e18 : List (FuncId × List (List D × Out)) := (115, t18) :: e17
theorem x18 : kD (cR e18) := z01 x17 ⟨⟨100000, zzf⟩, ⟨100000, q06⟩, ⟨100000, q0n⟩, ⟨100000, zz3⟩, ⟨100000, q19⟩, ⟨100000, q0b⟩, ⟨100000, q05⟩, ⟨100000, zzw⟩, trivial⟩
def t19 : List (List D × Out) := [([(R8 [(1, 2), (1, 0), (1, 1), (5, 0), (1, 1), (247, 0)]), (.int .i64 2)], (.ret (.tup [.d (.agg [(.int .i64 0), (.int .i64 0), (.int .i64 0), (.int .i64 0), (.int .i64 0), (.int .i64 0), (.int .i64 0), (.int .i64 0), (.int .i64 0), (.int .i64 0), (.int .i64 0)]), .d (.bool true)]))), ([(R8 [(1, 2), (1, 0), (1, 1), (5, 0), (1, 1), (247, 0)]), (.int .i64 4)], (.ret (.tup [.d (.agg [(.int .i64 0), (.int .i64 0), (.int .i64 0), (.int .i64 0), (.int .i64 0), (.int .i64 0), (.int .i64 0), (.int .i64 0), (.int .i64 0), (.int .i64 0), (.int .i64 0)]), .d (.bool true)]))), ([(R8 [(1, 2), (1, 0), (1, 1), (5, 0), (1, 1), (247, 0)]), (.int .i64 5)], (.ret (.tup [.d (.agg [(.int .i64 0), (.int .i64 0), (.int .i64 0), (.int .i64 0), (.int .i64 0), (.int .i64 0), (.int .i64 0), (.int .i64 0), (.int .i64 0), (.int .i64 0), (.int .i64 0)]), .d (.bool true)]))), ([(R8 [(1, 2), (1, 0), (1, 1), (5, 0), (1, 1), (247, 0)]), (.int .i64 0)], (.ret (.tup [.d (.agg [(.int .i64 2), (.int .i64 1), (.int .i64 0), (.int .i64 1), (.int .i64 0), (.int .i64 0), (.int .i64 0), (.int .i64 0), (.int .i64 0), (.int .i64 0), (.int .i64 0)]), .d (.bool true)]))), ([(R8 [(1, 2), (1, 0), (1, 1), (5, 0), (1, 1), (247, 0)]), (.int .i64 1)], (.ret (.tup [.d (.agg [(.int .i64 0), (.int .i64 0), (.int .i64 0), (.int .i64 0), (.int .i64 0), (.int .i64 0), (.int .i64 0), (.int .i64 0), (.int .i64 0), (.int .i64 0), (.int .i64 0)]), .d (.bool true)]))), ([(R8 [(1, 2), (1, 0), (1, 1), (5, 0), (1, 1), (247, 0)]), (.int .i64 7)], (.ret (.tup [.d (.agg [(.int .i64 0), (.int .i64 0), (.int .i64 0), (.int .i64 0), (.int .i64 0), (.int .i64 0), (.int .i64 0), (.int .i64 0), (.int .i64 0), (.int .i64 0), (.int .i64 0)]), .d (.bool true)]))), ([(R8 [(1, 2), (1, 0), (1, 1), (5, 0), (1, 1), (247, 0)]), (.int .i64 3)], (.ret (.tup [.d (.agg [(.int .i64 0), (.int .i64 0), (.int .i64 0), (.int .i64 0), (.int .i64 0), (.int .i64 0), (.int .i64 0), (.int .i64 0), (.int .i64 0), (.int .i64 0), (.int .i64 0)]), .d (.bool true)]))), ([(R8 [(1, 2), (1, 0), (1, 1), (5, 0), (1, 1), (247, 0)]), (.int .i64 6)], (.ret (.tup [.d (.agg [(.int .i64 0), (.int .i64 0), (.int .i64 0), (.int .i64 0), (.int .i64 0), (.int .i64 0), (.int .i64 0), (.int .i64 0), (.int .i64 0), (.int .i64 0), (.int .i64 0)]), .d (.bool true)])))]
theorem zzs : runD (cR e18) 100000 84 [(R8 [(1, 2), (1, 0), (1, 1), (5, 0), (1, 1), (247, 0)]), (.int .i64 2)] = some (.ret (.tup [.d (.agg [(.int .i64 0), (.int .i64 0), (.int .i64 0), (.int .i64 0), (.int .i64 0), (.int .i64 0), (.int .i64 0), (.int .i64 0), (.int .i64 0), (.int .i64 0), (.int .i64 0)]), .d (.bool true)])) := by kernel_rfl
theorem q2n : runD (cR e18) 100000 84 [(R8 [(1, 2), (1, 0), (1, 1), (5, 0), (1, 1), (247, 0)]), (.int .i64 4)] = some (.ret (.tup [.d (.agg [(.int .i64 0), (.int .i64 0), (.int .i64 0), (.int .i64 0), (.int .i64 0), (.int .i64 0), (.int .i64 0), (.int .i64 0), (.int .i64 0), (.int .i64 0), (.int .i64 0)]), .d (.bool true)])) := by kernel_rfl
theorem q24 : runD (cR e18) 100000 84 [(R8 [(1, 2), (1, 0), (1, 1), (5, 0), (1, 1), (247, 0)]), (.int .i64 5)] = some (.ret (.tup [.d (.agg [(.int .i64 0), (.int .i64 0), (.int .i64 0), (.int .i64 0), (.int .i64 0), (.int .i64 0), (.int .i64 0), (.int .i64 0), (.int .i64 0), (.int .i64 0), (.int .i64 0)]), .d (.bool true)])) := by kernel_rfl
theorem q03 : runD (cR e18) 100000 84 [(R8 [(1, 2), (1, 0), (1, 1), (5, 0), (1, 1), (247, 0)]), (.int .i64 0)] = some (.ret (.tup [.d (.agg [(.int .i64 2), (.int .i64 1), (.int .i64 0), (.int .i64 1), (.int .i64 0), (.int .i64 0), (.int .i64 0), (.int .i64 0), (.int .i64 0), (.int .i64 0), (.int .i64 0)]), .d (.bool true)])) := by kernel_rfl
theorem q1h : runD (cR e18) 100000 84 [(R8 [(1, 2), (1, 0), (1, 1), (5, 0), (1, 1), (247, 0)]), (.int .i64 1)] = some (.ret (.tup [.d (.agg [(.int .i64 0), (.int .i64 0), (.int .i64 0), (.int .i64 0), (.int .i64 0), (.int .i64 0), (.int .i64 0), (.int .i64 0), (.int .i64 0), (.int .i64 0), (.int .i64 0)]), .d (.bool true)])) := by kernel_rfl
theorem zza : runD (cR e18) 100000 84 [(R8 [(1, 2), (1, 0), (1, 1), (5, 0), (1, 1), (247, 0)]), (.int .i64 7)] = some (.ret (.tup [.d (.agg [(.int .i64 0), (.int .i64 0), (.int .i64 0), (.int .i64 0), (.int .i64 0), (.int .i64 0), (.int .i64 0), (.int .i64 0), (.int .i64 0), (.int .i64 0), (.int .i64 0)]), .d (.bool true)])) := by kernel_rfl
theorem zzr : runD (cR e18) 100000 84 [(R8 [(1, 2), (1, 0), (1, 1), (5, 0), (1, 1), (247, 0)]), (.int .i64 3)] = some (.ret (.tup [.d (.agg [(.int .i64 0), (.int .i64 0), (.int .i64 0), (.int .i64 0), (.int .i64 0), (.int .i64 0), (.int .i64 0), (.int .i64 0), (.int .i64 0), (.int .i64 0), (.int .i64 0)]), .d (.bool true)])) := by kernel_rfl
theorem q0s : runD (cR e18) 100000 84 [(R8 [(1, 2), (1, 0), (1, 1), (5, 0), (1, 1), (247, 0)]), (.int .i64 6)] = some (.ret (.tup [.d (.agg [(.int .i64 0), (.int .i64 0), (.int .i64 0), (.int .i64 0), (.int .i64 0), (.int .i64 0), (.int .i64 0), (.int .i64 0), (.int .i64 0), (.int .i64 0), (.int .i64 0)]), .d (.bool true)])) := by kernel_rfl
def e19 : List (FuncId × List (List D × Out)) := (84, t19) :: e18
theorem x19 : kD (cR e19) := z01 x18 ⟨⟨100000, zzs⟩, ⟨100000, q2n⟩, ⟨100000, q24⟩, ⟨100000, q03⟩, ⟨100000, q1h⟩, ⟨100000, zza⟩, ⟨100000, zzr⟩, ⟨100000, q0s⟩, trivial⟩
def t20 : List (List D × Out) := [([(.agg [(.int .i64 16), (.int .i64 8), (.int .u64 0)])], (.ret (.tup [.d (R8 [(1, 101), (1, 115), (1, 99), (1, 104), (1, 101), (1, 97), (1, 116), (1, 49), (1, 16), (1, 0), (1, 8), (9, 0), (1, 195), (1, 87), (1, 173), (1, 250), (232, 0)]), .d (.int .i64 0)])))]
theorem q2u : runD (cR e19) 100000 48 [(.agg [(.int .i64 16), (.int .i64 8), (.int .u64 0)])] = some (.ret (.tup [.d (R8 [(1, 101), (1, 115), (1, 99), (1, 104), (1, 101), (1, 97), (1, 116), (1, 49), (1, 16), (1, 0), (1, 8), (9, 0), (1, 195), (1, 87), (1, 173), (1, 250), (232, 0)]), .d (.int .i64 0)])) := by kernel_rfl
def e20 : List (FuncId × List (List D × Out)) := (48, t20) :: e19
theorem x20 : kD (cR e20) := z01 x19 ⟨⟨100000, q2u⟩, trivial⟩
def t21 : List (List D × Out) := [([(R8 [(1, 101), (1, 115), (1, 99), (1, 104), (1, 101), (1, 97), (1, 116), (1, 49), (1, 16), (1, 0), (1, 8), (9, 0), (1, 195), (1, 87), (1, 173), (1, 250), (232, 0)])], (.ret (.tup [.d (.agg [(.int .i64 16), (.int .i64 8), (.int .u64 0)]), .d (.int .i64 0)])))]
theorem q2r : runD (cR e20) 100000 57 [(R8 [(1, 101), (1, 115), (1, 99), (1, 104), (1, 101), (1, 97), (1, 116), (1, 49), (1, 16), (1, 0), (1, 8), (9, 0), (1, 195), (1, 87), (1, 173), (1, 250), (232, 0)])] = some (.ret (.tup [.d (.agg [(.int .i64 16), (.int .i64 8), (.int .u64 0)]), .d (.int .i64 0)])) := by kernel_rfl
def e21 : List (FuncId × List (List D × Out)) := (57, t21) :: e20
theorem x21 : kD (cR e21) := z01 x20 ⟨⟨100000, q2r⟩, trivial⟩
def t22 : List (List D × Out) := [([(R8 [(1, 1), (255, 0)]), (.int .i64 1), (.bool true)], (.ret (.d (R8 [(1, 3), (255, 0)])))), ([(R8 [(1, 3), (255, 0)]), (.int .i64 2), (.bool true)], (.ret (.d (R8 [(1, 7), (255, 0)])))), ([(R8 [(256, 0)]), (.int .i64 0), (.bool true)], (.ret (.d (R8 [(1, 1), (255, 0)]))))]
theorem q2c : runD (cR e21) 100000 95 [(R8 [(1, 1), (255, 0)]), (.int .i64 1), (.bool true)] = some (.ret (.d (R8 [(1, 3), (255, 0)]))) := by kernel_rfl
theorem q2b : runD (cR e21) 100000 95 [(R8 [(1, 3), (255, 0)]), (.int .i64 2), (.bool true)] = some (.ret (.d (R8 [(1, 7), (255, 0)]))) := by kernel_rfl
theorem q1m : runD (cR e21) 100000 95 [(R8 [(256, 0)]), (.int .i64 0), (.bool true)] = some (.ret (.d (R8 [(1, 1), (255, 0)]))) := by kernel_rfl
def e22 : List (FuncId × List (List D × Out)) := (95, t22) :: e21
theorem x22 : kD (cR e22) := z01 x21 ⟨⟨100000, q2c⟩, ⟨100000, q2b⟩, ⟨100000, q1m⟩, trivial⟩
def t23 : List (List D × Out) := [([(.int .i64 0), (.agg [(.int .i64 2), (.int .i64 1), (.int .i64 0), (.int .i64 1), (.int .i64 0), (.int .i64 0), (.int .i64 0), (.int .i64 0), (.int .i64 0), (.int .i64 0), (.int .i64 0)])], (.ret (.tup [.d (.agg [(.int .i64 0), (S8 [(1, 2), (1, 0), (1, 1), (5, 0), (1, 1), (23, 0)])]), .d (.int .i64 0)])))]
theorem q1k : runD (cR e22) 100000 71 [(.int .i64 0), (.agg [(.int .i64 2), (.int .i64 1), (.int .i64 0), (.int .i64 1), (.int .i64 0), (.int .i64 0), (.int .i64 0), (.int .i64 0), (.int .i64 0), (.int .i64 0), (.int .i64 0)])] = some (.ret (.tup [.d (.agg [(.int .i64 0), (S8 [(1, 2), (1, 0), (1, 1), (5, 0), (1, 1), (23, 0)])]), .d (.int .i64 0)])) := by kernel_rfl
def e23 : List (FuncId × List (List D × Out)) := (71, t23) :: e22
theorem x23 : kD (cR e23) := z01 x22 ⟨⟨100000, q1k⟩, trivial⟩
def t24 : List (List D × Out) := [([(R8 [(256, 0)]), (.agg [(.int .i64 0), (S8 [(1, 2), (1, 0), (1, 1), (5, 0), (1, 1), (23, 0)])])], (.ret (.d (R8 [(1, 2), (1, 0), (1, 1), (5, 0), (1, 1), (247, 0)])))), ([(R8 [(256, 0)]), (.agg [(.int .i64 0), (.sl [(.int .u8 7)])])], (.ret (.d (R8 [(1, 7), (255, 0)]))))]
theorem q1u : runD (cR e23) 100000 92 [(R8 [(256, 0)]), (.agg [(.int .i64 0), (S8 [(1, 2), (1, 0), (1, 1), (5, 0), (1, 1), (23, 0)])])] = some (.ret (.d (R8 [(1, 2), (1, 0), (1, 1), (5, 0), (1, 1), (247, 0)]))) := by kernel_rfl
theorem q12 : runD (cR e23) 100000 92 [(R8 [(256, 0)]), (.agg [(.int .i64 0), (.sl [(.int .u8 7)])])] = some (.ret (.d (R8 [(1, 7), (255, 0)]))) := by kernel_rfl
def e24 : List (FuncId × List (List D × Out)) := (92, t24) :: e23
theorem x24 : kD (cR e24) := z01 x23 ⟨⟨100000, q1u⟩, ⟨100000, q12⟩, trivial⟩
def t25 : List (List D × Out) := [([(R8 [(256, 0)]), (.int .i64 0), (.agg [(.int .i64 2), (.int .i64 1), (.int .i64 0), (.int .i64 1), (.int .i64 0), (.int .i64 0), (.int .i64 0), (.int .i64 0), (.int .i64 0), (.int .i64 0), (.int .i64 0)])], (.ret (.tup [.d (R8 [(1, 2), (1, 0), (1, 1), (5, 0), (1, 1), (247, 0)]), .d (.int .i64 0)])))]
theorem q0z : runD (cR e24) 100000 52 [(R8 [(256, 0)]), (.int .i64 0), (.agg [(.int .i64 2), (.int .i64 1), (.int .i64 0), (.int .i64 1), (.int .i64 0), (.int .i64 0), (.int .i64 0), (.int .i64 0), (.int .i64 0), (.int .i64 0), (.int .i64 0)])] = some (.ret (.tup [.d (R8 [(1, 2), (1, 0), (1, 1), (5, 0), (1, 1), (247, 0)]), .d (.int .i64 0)])) := by kernel_rfl
def e25 : List (FuncId × List (List D × Out)) := (52, t25) :: e24
theorem x25 : kD (cR e25) := z01 x24 ⟨⟨100000, q0z⟩, trivial⟩
theorem zio : kD (cR e25) := x25
end Go.Proofs.Ytobgdmgldagjkaa
end
