/- Nodes in order: the code's and the document's. -/
import Derived.Test.YtljgfkiiikcaaaaGreatJb3
import Derived.Test.YtljgfkiiikcaaaaGreatProg
/- What the functions do, written by program (psv.py) and held against the program by the kernel. -/
set_option linter.unusedVariables false
set_option maxRecDepth 100000
namespace Go.Proofs.YtljgfkiiikcaaaaGreat
open Go Go.Proofs
theorem mixT1 : Tryz.prog.follows .mixedOrders = true := by kernel_rfl
/- goods.Check -/
theorem S46 {l : List (List U)} {types : Int} {Q : V → Mem → Prop} (hh : ∃ (I1 : Int → Int → Prop) (f1 : Int → Int → Nat), I1 0 0 ∧ (∀ x1 : Int, ∀ x2 : Int, I1 x1 x2 → (bif decide (x2 < (List.length l : Int)) then elL l x2 (fun r1 => dI .i64 (ug r1 0) (fun x3 => dI .i64 (ug r1 1) (fun x4 => (bif decide (x3 ≤ x1) then Q (.i 1) [] else (bif decide (x3 > types) then Q (.i 1) [] else (bif decide (x4 < 1) then Q (.i 1) [] else (bif decide (x4 > 1125899906842624) then Q (.i 1) [] else I1 x3 (IntKind.wrap .i64 (x2 + 1)) ∧ f1 x3 (IntKind.wrap .i64 (x2 + 1)) < f1 x1 x2))))))) else (bif decide ((List.length l : Int) > 8) then Q (.i 1) [] else Q (.i 0) [])))) : PRun Tryz.prog 46 [] [.l 2 l, .i types] Q :=
  funS2 mixT1 Tryz.func46 (by kernel_rfl) (H := ⟨[((46, 3, 0), ⟨[(5, .I), (10, .I)], []⟩)], [], [], [], [], false, 64⟩) (n := 2) (by kernel_rfl) hh

/- r08.Count -/
theorem S28 {l : List (List U)} {kind : Int} {Q : V → Mem → Prop} (hh : PRun Tryz.prog 32 [] [.l 2 l] (post [.L 2, .I] [] (fun l1 x1 => ∃ (I1 : Int → Prop) (f1 : Int → Nat), I1 0 ∧ (∀ x2 : Int, I1 x2 → (bif decide (x2 < (List.length l1 : Int)) then elL l1 x2 (fun r1 => dI .i64 (ug r1 0) (fun x3 => (bif x3 == kind then elL l1 x2 (fun r2 => dI .i64 (ug r2 1) (fun x4 => Q (.i x4) [])) else I1 (IntKind.wrap .i64 (x2 + 1)) ∧ f1 (IntKind.wrap .i64 (x2 + 1)) < f1 x2))) else Q (.i 0) []))))) : PRun Tryz.prog 28 [] [.l 2 l, .i kind] Q :=
  funS2 mixT1 Tryz.func28 (by kernel_rfl) (H := ⟨[((28, 3, 0), ⟨[(7, .I)], []⟩)], [], [], [], [], false, 64⟩) (n := 2) (by kernel_rfl) hh

/- r08.Norm -/
theorem S32 {l : List (List U)} {Q : V → Mem → Prop} (hh : ∃ (I1 : Int → Prop) (f1 : Int → Nat), I1 0 ∧ (∀ x1 : Int, I1 x1 → (bif decide (x1 < (List.length l : Int)) then elL l x1 (fun r1 => dI .i64 (ug r1 0) (fun x2 => (bif decide (x2 < 1) then Q (.t [.l 2 [], .i 1]) [] else elL l x1 (fun r2 => dI .i64 (ug r2 1) (fun x3 => (bif decide (x3 < 0) then Q (.t [.l 2 [], .i 1]) [] else I1 (IntKind.wrap .i64 (x1 + 1)) ∧ f1 (IntKind.wrap .i64 (x1 + 1)) < f1 x1)))))) else ∃ (I2 : List (List U) → Int → Prop) (f2 : List (List U) → Int → Nat), I2 [] 0 ∧ (∀ l1 : List (List U), ∀ x4 : Int, I2 l1 x4 → ∃ (I3 : Int → Int → Prop) (f3 : Int → Int → Nat), I3 0 0 ∧ (∀ x5 : Int, ∀ x6 : Int, I3 x5 x6 → (bif decide (x6 < (List.length l : Int)) then elL l x6 (fun r3 => dI .i64 (ug r3 0) (fun x7 => (bif decide (x7 > x4) then (bif x5 == 0 then elL l x6 (fun r4 => dI .i64 (ug r4 0) (fun x8 => I3 x8 (IntKind.wrap .i64 (x6 + 1)) ∧ f3 x8 (IntKind.wrap .i64 (x6 + 1)) < f3 x5 x6)) else elL l x6 (fun r5 => dI .i64 (ug r5 0) (fun x9 => (bif decide (x9 < x5) then elL l x6 (fun r6 => dI .i64 (ug r6 0) (fun x10 => I3 x10 (IntKind.wrap .i64 (x6 + 1)) ∧ f3 x10 (IntKind.wrap .i64 (x6 + 1)) < f3 x5 x6)) else I3 x5 (IntKind.wrap .i64 (x6 + 1)) ∧ f3 x5 (IntKind.wrap .i64 (x6 + 1)) < f3 x5 x6)))) else I3 x5 (IntKind.wrap .i64 (x6 + 1)) ∧ f3 x5 (IntKind.wrap .i64 (x6 + 1)) < f3 x5 x6))) else (bif x5 == 0 then Q (.t [.l 2 l1, .i 0]) [] else ∃ (I4 : Int → Int → Prop) (f4 : Int → Int → Nat), I4 0 0 ∧ (∀ x11 : Int, ∀ x12 : Int, I4 x11 x12 → (bif decide (x12 < (List.length l : Int)) then elL l x12 (fun r7 => dI .i64 (ug r7 0) (fun x13 => (bif x13 == x5 then elL l x12 (fun r8 => dI .i64 (ug r8 1) (fun x14 => (bif decide (x14 > IntKind.wrap .i64 (1125899906842624 - x11)) then Q (.t [.l 2 [], .i 5]) [] else elL l x12 (fun r9 => dI .i64 (ug r9 1) (fun x15 => I4 (IntKind.wrap .i64 (x11 + x15)) (IntKind.wrap .i64 (x12 + 1)) ∧ f4 (IntKind.wrap .i64 (x11 + x15)) (IntKind.wrap .i64 (x12 + 1)) < f4 x11 x12))))) else I4 x11 (IntKind.wrap .i64 (x12 + 1)) ∧ f4 x11 (IntKind.wrap .i64 (x12 + 1)) < f4 x11 x12))) else (bif decide (x11 > 0) then apOk l1 [[.n x5, .n x11]] ∧ (I2 (l1 ++ [[.n x5, .n x11]]) x5 ∧ f2 (l1 ++ [[.n x5, .n x11]]) x5 < f2 l1 x4) else I2 l1 x5 ∧ f2 l1 x5 < f2 l1 x4)))))))))) : PRun Tryz.prog 32 [] [.l 2 l] Q :=
  funS2 mixT1 Tryz.func32 (by kernel_rfl) (H := ⟨[((32, 2, 0), ⟨[(4, .I)], []⟩), ((32, 8, 0), ⟨[(5, .one (.ow 52 2)), (6, .I)], []⟩), ((32, 10, 1), ⟨[(7, .I), (8, .I)], []⟩), ((32, 18, 1), ⟨[(9, .I), (10, .I)], []⟩)], [], [], [], [], false, 64⟩) (n := 2) (by kernel_rfl) hh

/- r08.Same -/
theorem S33 {a : List (List U)} {b : List (List U)} {Q : V → Mem → Prop} (hh : bif (List.length a : Int) != (List.length b : Int) then Q (.u (.b false)) [] else ∃ (I1 : Int → Prop) (f1 : Int → Nat), I1 0 ∧ (∀ x1 : Int, I1 x1 → (bif decide (x1 < (List.length a : Int)) then (bif decide (x1 < (List.length b : Int)) then elL a x1 (fun r1 => dI .i64 (ug r1 0) (fun x2 => dI .i64 (ug r1 1) (fun x3 => elL b x1 (fun r2 => dI .i64 (ug r2 0) (fun x4 => dI .i64 (ug r2 1) (fun x5 => (bif !(x2 == x4 && (x3 == x5 && true)) then Q (.u (.b false)) [] else I1 (IntKind.wrap .i64 (x1 + 1)) ∧ f1 (IntKind.wrap .i64 (x1 + 1)) < f1 x1))))))) else Q (.u (.b true)) []) else Q (.u (.b true)) []))) : PRun Tryz.prog 33 [] [.l 2 a, .l 2 b] Q :=
  funS2 mixT1 Tryz.func33 (by kernel_rfl) (H := ⟨[((33, 4, 0), ⟨[(5, .I)], []⟩)], [], [], [], [], false, 64⟩) (n := 2) (by kernel_rfl) hh

/- r01.Same -/
theorem S34 {a : List (List U)} {b : List (List U)} {Q : V → Mem → Prop} (hh : bif (List.length a : Int) != (List.length b : Int) then Q (.u (.b false)) [] else ∃ (I1 : Int → Prop) (f1 : Int → Nat), I1 0 ∧ (∀ x1 : Int, I1 x1 → (bif decide (x1 < (List.length a : Int)) then (bif decide (x1 < (List.length b : Int)) then elL a x1 (fun r1 => dI .i64 (ug r1 0) (fun x2 => elL b x1 (fun r2 => dI .i64 (ug r2 0) (fun x3 => (bif x2 != x3 then Q (.u (.b false)) [] else I1 (IntKind.wrap .i64 (x1 + 1)) ∧ f1 (IntKind.wrap .i64 (x1 + 1)) < f1 x1))))) else Q (.u (.b true)) []) else Q (.u (.b true)) []))) : PRun Tryz.prog 34 [] [.l 1 a, .l 1 b] Q :=
  funS2 mixT1 Tryz.func34 (by kernel_rfl) (H := ⟨[((34, 4, 0), ⟨[(5, .I)], []⟩)], [], [], [], [], false, 64⟩) (n := 2) (by kernel_rfl) hh

/- r01.Add -/
theorem S44 {a : Int} {b : Int} {Q : V → Mem → Prop} (hh : bif decide (b > 0) then (bif decide (a > IntKind.wrap .i64 (9223372036854775807 - b)) then Q (.t [.i 0, .i 5]) [] else (bif decide (b < 0) then (bif decide (a < IntKind.wrap .i64 (-9223372036854775808 - b)) then Q (.t [.i 0, .i 5]) [] else Q (.t [.i (IntKind.wrap .i64 (a + b)), .i 0]) []) else Q (.t [.i (IntKind.wrap .i64 (a + b)), .i 0]) [])) else (bif decide (b < 0) then (bif decide (a < IntKind.wrap .i64 (-9223372036854775808 - b)) then Q (.t [.i 0, .i 5]) [] else Q (.t [.i (IntKind.wrap .i64 (a + b)), .i 0]) []) else Q (.t [.i (IntKind.wrap .i64 (a + b)), .i 0]) [])) : PRun Tryz.prog 44 [] [.i a, .i b] Q :=
  funS2 mixT1 Tryz.func44 (by kernel_rfl) (H := ⟨[], [], [], [], [], false, 64⟩) (n := 2) (by kernel_rfl) hh

/- r08.Check -/
theorem S55 {l : List (List U)} {types : Int} {Q : V → Mem → Prop} (hh : bif decide ((List.length l : Int) > 8) then Q (.i 1) [] else PRun Tryz.prog 32 [] [.l 2 l] (post [.L 2, .I] [] (fun l1 x1 => (bif x1 != 0 then Q (.i 1) [] else PRun Tryz.prog 33 [] [.l 2 l1, .l 2 l] (post [.B] [] (fun b1 => (bif !b1 then Q (.i 1) [] else (bif decide ((List.length l : Int) > 0) then elL l (IntKind.wrap .i64 ((List.length l : Int) - 1)) (fun r1 => dI .i64 (ug r1 0) (fun x2 => (bif decide (x2 > types) then Q (.i 1) [] else Q (.i 0) []))) else Q (.i 0) []) : Prop))) : Prop)))) : PRun Tryz.prog 55 [] [.l 2 l, .i types] Q :=
  funS2 mixT1 Tryz.func55 (by kernel_rfl) (H := ⟨[], [], [], [], [], false, 64⟩) (n := 2) (by kernel_rfl) hh

/- calc.Sum -/
theorem S39 {l : List (List U)} {Q : V → Mem → Prop} (hh : ∃ (I1 : Int → Int → Prop) (f1 : Int → Int → Nat), I1 0 0 ∧ (∀ x1 : Int, ∀ x2 : Int, I1 x1 x2 → (bif decide (x2 < (List.length l : Int)) then elL l x2 (fun r1 => dI .i64 (ug r1 0) (fun x3 => PRun Tryz.prog 64 [] [.i x1, .i x3] (post [.I, .I] [] (fun x4 x5 => (bif x5 != 0 then Q (.t [.i 0, .i x5]) [] else I1 x4 (IntKind.wrap .i64 (x2 + 1)) ∧ f1 x4 (IntKind.wrap .i64 (x2 + 1)) < f1 x1 x2 : Prop))))) else Q (.t [.i x1, .i 0]) []))) : PRun Tryz.prog 39 [] [.l 1 l] Q :=
  funS2 mixT1 Tryz.func39 (by kernel_rfl) (H := ⟨[((39, 3, 0), ⟨[(4, .I), (11, .I)], []⟩)], [], [], [], [], false, 64⟩) (n := 2) (by kernel_rfl) hh

/- calc.Scale -/
theorem S68 {a : Int} {b : Int} {c : Int} {up : Bool} {Q : V → Mem → Prop} (hh : bif decide (a < 0) then Q (.t [.i 0, .i 1]) [] else (bif decide (b < 0) then Q (.t [.i 0, .i 1]) [] else (bif decide (c < 1) then Q (.t [.i 0, .i 1]) [] else PRun Tryz.prog 94 [] [.u (.i .u64 (IntKind.wrap .u64 a)), .u (.i .u64 (IntKind.wrap .u64 b))] (post [.one (.i .u64), .one (.i .u64)] [] (fun x1 x2 => (bif decide (x1 ≥ IntKind.wrap .u64 c) then Q (.t [.i 0, .i 5]) [] else PRun Tryz.prog 95 [] [.u (.i .u64 x1), .u (.i .u64 x2), .u (.i .u64 (IntKind.wrap .u64 c))] (post [.one (.i .u64), .one (.i .u64)] [] (fun x3 x4 => (bif up then (bif decide (x4 > 0) then (bif decide (x3 ≤ 9223372036854775807) then (bif decide (IntKind.wrap .u64 (x3 + 1) > 9223372036854775807) then Q (.t [.i 0, .i 5]) [] else Q (.t [.i (IntKind.wrap .i64 (IntKind.wrap .u64 (x3 + 1))), .i 0]) []) else (bif decide (x3 > 9223372036854775807) then Q (.t [.i 0, .i 5]) [] else Q (.t [.i (IntKind.wrap .i64 x3), .i 0]) [])) else (bif decide (x3 > 9223372036854775807) then Q (.t [.i 0, .i 5]) [] else Q (.t [.i (IntKind.wrap .i64 x3), .i 0]) [])) else (bif decide (x3 > 9223372036854775807) then Q (.t [.i 0, .i 5]) [] else Q (.t [.i (IntKind.wrap .i64 x3), .i 0]) []) : Prop))) : Prop)))))) : PRun Tryz.prog 68 [] [.i a, .i b, .i c, .u (.b up)] Q :=
  funS2 mixT1 Tryz.func68 (by kernel_rfl) (H := ⟨[], [], [], [], [], false, 64⟩) (n := 2) (by kernel_rfl) hh

/- slices.Min[[]int,int] -/
theorem S43 {x : List (List U)} {Q : V → Mem → Prop} (hh : bif decide ((List.length x : Int) < 1) then False else elL x 0 (fun r1 => dI .i64 (ug r1 0) (fun x1 => ∃ (I1 : Int → Int → Prop) (f1 : Int → Int → Nat), I1 x1 1 ∧ (∀ x2 : Int, ∀ x3 : Int, I1 x2 x3 → (bif decide (x3 < (List.length x : Int)) then elL x x3 (fun r2 => dI .i64 (ug r2 0) (fun x4 => I1 (if x4 < x2 then x4 else x2) (IntKind.wrap .i64 (x3 + 1)) ∧ f1 (if x4 < x2 then x4 else x2) (IntKind.wrap .i64 (x3 + 1)) < f1 x2 x3)) else Q (.i x2) []))))) : PRun Tryz.prog 43 [] [.l 1 x] Q :=
  funS2 mixT1 Tryz.func43 (by kernel_rfl) (H := ⟨[((43, 5, 0), ⟨[(3, .I), (4, .I)], []⟩)], [], [], [], [], false, 64⟩) (n := 2) (by kernel_rfl) hh

/- slices.Max[[]int,int] -/
theorem S71 {x : List (List U)} {Q : V → Mem → Prop} (hh : bif decide ((List.length x : Int) < 1) then False else elL x 0 (fun r1 => dI .i64 (ug r1 0) (fun x1 => ∃ (I1 : Int → Int → Prop) (f1 : Int → Int → Nat), I1 x1 1 ∧ (∀ x2 : Int, ∀ x3 : Int, I1 x2 x3 → (bif decide (x3 < (List.length x : Int)) then elL x x3 (fun r2 => dI .i64 (ug r2 0) (fun x4 => I1 (if x4 > x2 then x4 else x2) (IntKind.wrap .i64 (x3 + 1)) ∧ f1 (if x4 > x2 then x4 else x2) (IntKind.wrap .i64 (x3 + 1)) < f1 x2 x3)) else Q (.i x2) []))))) : PRun Tryz.prog 71 [] [.l 1 x] Q :=
  funS2 mixT1 Tryz.func71 (by kernel_rfl) (H := ⟨[((71, 5, 0), ⟨[(3, .I), (4, .I)], []⟩)], [], [], [], [], false, 64⟩) (n := 2) (by kernel_rfl) hh

/- recipe.may -/
theorem S67 {b_0 : Int} {b_1 : Int} {b_2 : Int} {b_3 : List (List U)} {b_4 : Int} {b_5 : Int} {b_6 : Int} {l : List (List U)} {Q : V → Mem → Prop} (hh : PRun Tryz.prog 92 [] [.a [.i b_0, .i b_1, .i b_2, .l 2 b_3, .i b_4, .i b_5, .i b_6], .i 32] (post [.I] [] (fun x1 => (bif x1 == 0 then PRun Tryz.prog 93 [] [.l 3 l] (post [.B] [] (fun b1 => (Q (.u (.b b1)) [] : Prop))) else Q (.u (.b false)) [] : Prop)))) : PRun Tryz.prog 67 [] [.a [.i b_0, .i b_1, .i b_2, .l 2 b_3, .i b_4, .i b_5, .i b_6], .l 3 l] Q :=
  funS2 mixT1 Tryz.func67 (by kernel_rfl) (H := ⟨[], [], [], [], [], false, 64⟩) (n := 2) (by kernel_rfl) hh

/- recipe.Runs -/
theorem S50 {b_0 : Int} {b_1 : Int} {b_2 : Int} {b_3 : List (List U)} {b_4 : Int} {b_5 : Int} {b_6 : Int} {n : Int} {Q : V → Mem → Prop} (hh : PRun Tryz.prog 67 [] [.a [.i b_0, .i b_1, .i b_2, .l 2 b_3, .i b_4, .i b_5, .i b_6], .l 3 [[.n n, .n 0, .n 1125899906842624]]] (post [.B] [] (fun b1 => (bif !b1 then Q (.t [.i 0, .i 1]) [] else PRun Tryz.prog 68 [] [.i n, .i 1, .i b_1, .u (.b true)] (post [.I, .I] [] (fun x1 x2 => (Q (.t [.i x1, .i x2]) [] : Prop))) : Prop)))) : PRun Tryz.prog 50 [] [.a [.i b_0, .i b_1, .i b_2, .l 2 b_3, .i b_4, .i b_5, .i b_6], .i n] Q :=
  funS2 mixT1 Tryz.func50 (by kernel_rfl) (H := ⟨[], [], [], [], [], false, 64⟩) (n := 2) (by kernel_rfl) hh

/- recipe.Needs -/
theorem S42 {b_0 : Int} {b_1 : Int} {b_2 : Int} {b_3 : List (List U)} {b_4 : Int} {b_5 : Int} {b_6 : Int} {level : Int} {runs : Int} {Q : V → Mem → Prop} (hh : PRun Tryz.prog 67 [] [.a [.i b_0, .i b_1, .i b_2, .l 2 b_3, .i b_4, .i b_5, .i b_6], .l 3 [[.n level, .n 0, .n 10], [.n runs, .n 1, .n 1000]]] (post [.B] [] (fun b1 => (bif !b1 then Q (.t [.l 2 [], .i 1]) [] else ∃ (I1 : List (List U) → Int → Prop) (f1 : List (List U) → Int → Nat), I1 [] 0 ∧ (∀ l1 : List (List U), ∀ x1 : Int, I1 l1 x1 → (bif decide (x1 < (List.length b_3 : Int)) then elL b_3 x1 (fun r1 => dI .i64 (ug r1 0) (fun x2 => dI .i64 (ug r1 1) (fun x3 => PRun Tryz.prog 68 [] [.i x3, .i (IntKind.wrap .i64 (runs * IntKind.wrap .i64 (100 - level))), .i 100, .u (.b true)] (post [.I, .I] [] (fun x4 x5 => (bif x5 != 0 then Q (.t [.l 2 [], .i 5]) [] else (bif decide ((if runs > x4 then runs else x4) > 1125899906842624) then Q (.t [.l 2 [], .i 5]) [] else apOk l1 [[.n x2, .n (if runs > x4 then runs else x4)]] ∧ (I1 (l1 ++ [[.n x2, .n (if runs > x4 then runs else x4)]]) (IntKind.wrap .i64 (x1 + 1)) ∧ f1 (l1 ++ [[.n x2, .n (if runs > x4 then runs else x4)]]) (IntKind.wrap .i64 (x1 + 1)) < f1 l1 x1)) : Prop)))))) else Q (.t [.l 2 l1, .i 0]) [])) : Prop)))) : PRun Tryz.prog 42 [] [.a [.i b_0, .i b_1, .i b_2, .l 2 b_3, .i b_4, .i b_5, .i b_6], .i level, .i runs] Q :=
  funS2 mixT1 Tryz.func42 (by kernel_rfl) (H := ⟨[((42, 5, 2), ⟨[(8, .one (.ow 52 2)), (24, .I)], []⟩)], [], [], [], [], false, 64⟩) (n := 2) (by kernel_rfl) hh

/- recipe.Time -/
theorem S61 {b_0 : Int} {b_1 : Int} {b_2 : Int} {b_3 : List (List U)} {b_4 : Int} {b_5 : Int} {b_6 : Int} {level : Int} {runs : Int} {Q : V → Mem → Prop} (hh : PRun Tryz.prog 67 [] [.a [.i b_0, .i b_1, .i b_2, .l 2 b_3, .i b_4, .i b_5, .i b_6], .l 3 [[.n level, .n 0, .n 10], [.n runs, .n 1, .n 1000]]] (post [.B] [] (fun b1 => (bif !b1 then Q (.t [.i 0, .i 1]) [] else PRun Tryz.prog 68 [] [.i (IntKind.wrap .i64 (b_2 * runs)), .i (IntKind.wrap .i64 (100 - IntKind.wrap .i64 (2 * level))), .i 100, .u (.b true)] (post [.I, .I] [] (fun x1 x2 => (Q (.t [.i x1, .i x2]) [] : Prop))) : Prop)))) : PRun Tryz.prog 61 [] [.a [.i b_0, .i b_1, .i b_2, .l 2 b_3, .i b_4, .i b_5, .i b_6], .i level, .i runs] Q :=
  funS2 mixT1 Tryz.func61 (by kernel_rfl) (H := ⟨[], [], [], [], [], false, 64⟩) (n := 2) (by kernel_rfl) hh

/- r12.Runs -/
theorem S30 {b_0 : Int} {b_1 : Int} {b_2 : Int} {b_3 : List (List U)} {b_4 : Int} {b_5 : Int} {b_6 : Int} {n : Int} {Q : V → Mem → Prop} (hh : PRun Tryz.prog 58 [] [.a [.i b_0, .i b_1, .i b_2, .l 2 b_3, .i b_4, .i b_5, .i b_6], .i 32] (post [.I] [] (fun x1 => (bif x1 != 0 then Q (.t [.i 0, .i 1]) [] else PRun Tryz.prog 59 [] [.i n, .i 0, .i 1125899906842624] (post [.B] [] (fun b1 => (bif !b1 then Q (.t [.i 0, .i 1]) [] else PRun Tryz.prog 60 [] [.i n, .i b_1] (post [.I] [] (fun x2 => (Q (.t [.i x2, .i 0]) [] : Prop))) : Prop))) : Prop)))) : PRun Tryz.prog 30 [] [.a [.i b_0, .i b_1, .i b_2, .l 2 b_3, .i b_4, .i b_5, .i b_6], .i n] Q :=
  funS2 mixT1 Tryz.func30 (by kernel_rfl) (H := ⟨[], [], [], [], [], false, 64⟩) (n := 2) (by kernel_rfl) hh

/- r12.Needs -/
theorem S31 {b_0 : Int} {b_1 : Int} {b_2 : Int} {b_3 : List (List U)} {b_4 : Int} {b_5 : Int} {b_6 : Int} {level : Int} {runs : Int} {Q : V → Mem → Prop} (hh : PRun Tryz.prog 58 [] [.a [.i b_0, .i b_1, .i b_2, .l 2 b_3, .i b_4, .i b_5, .i b_6], .i 32] (post [.I] [] (fun x1 => (bif x1 != 0 then Q (.t [.l 2 [], .i 1]) [] else PRun Tryz.prog 59 [] [.i level, .i 0, .i 10] (post [.B] [] (fun b1 => (bif !b1 then Q (.t [.l 2 [], .i 1]) [] else PRun Tryz.prog 59 [] [.i runs, .i 1, .i 1000] (post [.B] [] (fun b2 => (bif !b2 then Q (.t [.l 2 [], .i 1]) [] else ∃ (I1 : List (List U) → Int → Prop) (f1 : List (List U) → Int → Nat), I1 [] 0 ∧ (∀ l1 : List (List U), ∀ x2 : Int, I1 l1 x2 → (bif decide (x2 < (List.length b_3 : Int)) then elL b_3 x2 (fun r1 => dI .i64 (ug r1 1) (fun x3 => (100 : Int) ≠ 0 ∧ ((100 : Int) ≠ 0 ∧ (PRun Tryz.prog 60 [] [.i (IntKind.wrap .i64 (Int.tmod (IntKind.wrap .i64 (x3 * runs)) 100 * IntKind.wrap .i64 (100 - level))), .i 100] (post [.I] [] (fun x4 => (bif decide ((if IntKind.wrap .i64 (IntKind.wrap .i64 (IntKind.wrap .i64 (Int.tdiv (IntKind.wrap .i64 (x3 * runs)) 100) * IntKind.wrap .i64 (100 - level)) + x4) > runs then IntKind.wrap .i64 (IntKind.wrap .i64 (IntKind.wrap .i64 (Int.tdiv (IntKind.wrap .i64 (x3 * runs)) 100) * IntKind.wrap .i64 (100 - level)) + x4) else runs) > 1125899906842624) then Q (.t [.l 2 [], .i 5]) [] else elL b_3 x2 (fun r2 => dI .i64 (ug r2 0) (fun x5 => apOk l1 [[.n x5, .n (if IntKind.wrap .i64 (IntKind.wrap .i64 (IntKind.wrap .i64 (Int.tdiv (IntKind.wrap .i64 (x3 * runs)) 100) * IntKind.wrap .i64 (100 - level)) + x4) > runs then IntKind.wrap .i64 (IntKind.wrap .i64 (IntKind.wrap .i64 (Int.tdiv (IntKind.wrap .i64 (x3 * runs)) 100) * IntKind.wrap .i64 (100 - level)) + x4) else runs)]] ∧ (I1 (l1 ++ [[.n x5, .n (if IntKind.wrap .i64 (IntKind.wrap .i64 (IntKind.wrap .i64 (Int.tdiv (IntKind.wrap .i64 (x3 * runs)) 100) * IntKind.wrap .i64 (100 - level)) + x4) > runs then IntKind.wrap .i64 (IntKind.wrap .i64 (IntKind.wrap .i64 (Int.tdiv (IntKind.wrap .i64 (x3 * runs)) 100) * IntKind.wrap .i64 (100 - level)) + x4) else runs)]]) (IntKind.wrap .i64 (x2 + 1)) ∧ f1 (l1 ++ [[.n x5, .n (if IntKind.wrap .i64 (IntKind.wrap .i64 (IntKind.wrap .i64 (Int.tdiv (IntKind.wrap .i64 (x3 * runs)) 100) * IntKind.wrap .i64 (100 - level)) + x4) > runs then IntKind.wrap .i64 (IntKind.wrap .i64 (IntKind.wrap .i64 (Int.tdiv (IntKind.wrap .i64 (x3 * runs)) 100) * IntKind.wrap .i64 (100 - level)) + x4) else runs)]]) (IntKind.wrap .i64 (x2 + 1)) < f1 l1 x2))) : Prop))))))) else Q (.t [.l 2 l1, .i 0]) [])) : Prop))) : Prop))) : Prop)))) : PRun Tryz.prog 31 [] [.a [.i b_0, .i b_1, .i b_2, .l 2 b_3, .i b_4, .i b_5, .i b_6], .i level, .i runs] Q :=
  funS2 mixT1 Tryz.func31 (by kernel_rfl) (H := ⟨[((31, 5, 1), ⟨[(8, .one (.ow 52 2)), (9, .I)], []⟩)], [], [], [], [], false, 64⟩) (n := 2) (by kernel_rfl) hh

/- r12.Time -/
theorem S40 {b_0 : Int} {b_1 : Int} {b_2 : Int} {b_3 : List (List U)} {b_4 : Int} {b_5 : Int} {b_6 : Int} {level : Int} {runs : Int} {Q : V → Mem → Prop} (hh : PRun Tryz.prog 58 [] [.a [.i b_0, .i b_1, .i b_2, .l 2 b_3, .i b_4, .i b_5, .i b_6], .i 32] (post [.I] [] (fun x1 => (bif x1 != 0 then Q (.t [.i 0, .i 1]) [] else PRun Tryz.prog 59 [] [.i level, .i 0, .i 10] (post [.B] [] (fun b1 => (bif !b1 then Q (.t [.i 0, .i 1]) [] else PRun Tryz.prog 59 [] [.i runs, .i 1, .i 1000] (post [.B] [] (fun b2 => (bif !b2 then Q (.t [.i 0, .i 1]) [] else PRun Tryz.prog 60 [] [.i (IntKind.wrap .i64 (IntKind.wrap .i64 (b_2 * runs) * IntKind.wrap .i64 (100 - IntKind.wrap .i64 (2 * level)))), .i 100] (post [.I] [] (fun x2 => (Q (.t [.i x2, .i 0]) [] : Prop))) : Prop))) : Prop))) : Prop)))) : PRun Tryz.prog 40 [] [.a [.i b_0, .i b_1, .i b_2, .l 2 b_3, .i b_4, .i b_5, .i b_6], .i level, .i runs] Q :=
  funS2 mixT1 Tryz.func40 (by kernel_rfl) (H := ⟨[], [], [], [], [], false, 64⟩) (n := 2) (by kernel_rfl) hh

/- r12.in -/
theorem S59 {n : Int} {from0 : Int} {to0 : Int} {Q : V → Mem → Prop} (hh : bif decide (n ≥ from0) then Q (.u (.b (decide (n ≤ to0)))) [] else Q (.u (.b false)) []) : PRun Tryz.prog 59 [] [.i n, .i from0, .i to0] Q :=
  funS2 mixT1 Tryz.func59 (by kernel_rfl) (H := ⟨[], [], [], [], [], false, 64⟩) (n := 2) (by kernel_rfl) hh

/- bom.in -/
theorem S18 {n : Int} {from0 : Int} {to0 : Int} {Q : V → Mem → Prop} (hh : bif decide (n ≥ from0) then Q (.u (.b (decide (n ≤ to0)))) [] else Q (.u (.b false)) []) : PRun Tryz.prog 18 [] [.i n, .i from0, .i to0] Q :=
  funS2 mixT1 Tryz.func18 (by kernel_rfl) (H := ⟨[], [], [], [], [], false, 64⟩) (n := 2) (by kernel_rfl) hh

/- catalog.Needs -/
theorem S20 {c_0 : Int} {c_1 : List (List U)} {c_2 : Int} {c_3 : List (List U)} {c_4 : Int} {c_5 : Int} {c_6 : Int} {c_7 : Int} {Q : V → Mem → Prop} (hh : ∃ (I1 : List (List U) → Int → Prop) (f1 : List (List U) → Int → Nat), I1 [] 0 ∧ (∀ l1 : List (List U), ∀ x1 : Int, I1 l1 x1 → (bif decide (x1 < (List.length c_1 : Int)) then elL c_1 x1 (fun r1 => dI .i64 (ug r1 0) (fun x2 => dI .i64 (ug r1 1) (fun x3 => dI .i64 (ug r1 2) (fun x4 => dL 2 (ug r1 3) (fun l2 => dI .i64 (ug r1 4) (fun x5 => dI .i64 (ug r1 5) (fun x6 => dI .i64 (ug r1 6) (fun x7 => ∃ (I2 : List (List U) → Int → Prop) (f2 : List (List U) → Int → Nat), I2 l1 0 ∧ (∀ l3 : List (List U), ∀ x8 : Int, I2 l3 x8 → (bif decide (x8 < (List.length l2 : Int)) then elL l2 x8 (fun r2 => dI .i64 (ug r2 0) (fun x9 => dI .i64 (ug r2 1) (fun x10 => apOk l3 [[.n x2, .n x9]] ∧ (I2 (l3 ++ [[.n x2, .n x9]]) (IntKind.wrap .i64 (x8 + 1)) ∧ f2 (l3 ++ [[.n x2, .n x9]]) (IntKind.wrap .i64 (x8 + 1)) < f2 l3 x8)))) else I1 l3 (IntKind.wrap .i64 (x1 + 1)) ∧ f1 l3 (IntKind.wrap .i64 (x1 + 1)) < f1 l1 x1)))))))))) else Q (.l 2 l1) []))) : PRun Tryz.prog 20 [] [.a [.i c_0, .l 7 c_1, .i c_2, .l 4 c_3, .i c_4, .i c_5, .i c_6, .i c_7]] Q :=
  funS2 mixT1 Tryz.func20 (by kernel_rfl) (H := ⟨[((20, 3, 1), ⟨[(3, .one (.ow 90 2)), (11, .I)], []⟩), ((20, 6, 3), ⟨[(3, .one (.ow 90 2)), (18, .I)], []⟩)], [], [], [], [], false, 64⟩) (n := 2) (by kernel_rfl) hh

/- catalog.sizes -/
theorem S69 {c_0 : Int} {c_1 : List (List U)} {c_2 : Int} {c_3 : List (List U)} {c_4 : Int} {c_5 : Int} {c_6 : Int} {c_7 : Int} {Q : V → Mem → Prop} (hh : ∀ k1 : Bool → Prop, (∀ b1 : Bool, (∀ k2 : Bool → Prop, (∀ b2 : Bool, (Q (.u (.b b2)) []) → k2 b2) → (bif b1 then ∃ (I1 : Int → Prop) (f1 : Int → Nat), I1 0 ∧ (∀ x1 : Int, I1 x1 → (bif decide (x1 < (List.length c_1 : Int)) then elL c_1 x1 (fun r1 => dI .i64 (ug r1 0) (fun x2 => dI .i64 (ug r1 1) (fun x3 => dI .i64 (ug r1 2) (fun x4 => dL 2 (ug r1 3) (fun l1 => dI .i64 (ug r1 4) (fun x5 => dI .i64 (ug r1 5) (fun x6 => dI .i64 (ug r1 6) (fun x7 => PRun Tryz.prog 92 [] [.a [.i x2, .i x3, .i x4, .l 2 l1, .i x5, .i x6, .i x7], .i c_0] (post [.I] [] (fun x8 => (bif x8 != 0 then (bif !(decide (x1 ≥ 0)) then ∃ (I2 : Int → Prop) (f2 : Int → Nat), I2 0 ∧ (∀ x9 : Int, I2 x9 → (bif decide (x9 < (List.length c_3 : Int)) then elL c_3 x9 (fun r2 => dI .i64 (ug r2 0) (fun x10 => dI .i64 (ug r2 1) (fun x11 => dI .i64 (ug r2 2) (fun x12 => dI .i64 (ug r2 3) (fun x13 => PRun Tryz.prog 96 [] [.i x10, .i 1, .i c_2] (post [.B] [] (fun b3 => (bif !b3 then (bif !(decide (x9 ≥ 0)) then PRun Tryz.prog 101 [] [.a [.i c_5, .i c_6, .i c_7]] (post [.I] [] (fun x14 => (k2 (x14 == 0) : Prop))) else k2 false) else PRun Tryz.prog 96 [] [.i x11, .i 0, .i 8] (post [.B] [] (fun b4 => (bif !b4 then (bif !(decide (x9 ≥ 0)) then PRun Tryz.prog 101 [] [.a [.i c_5, .i c_6, .i c_7]] (post [.I] [] (fun x15 => (k2 (x15 == 0) : Prop))) else k2 false) else PRun Tryz.prog 96 [] [.i x12, .i 0, .i 8] (post [.B] [] (fun b5 => (bif !b5 then (bif !(decide (x9 ≥ 0)) then PRun Tryz.prog 101 [] [.a [.i c_5, .i c_6, .i c_7]] (post [.I] [] (fun x16 => (k2 (x16 == 0) : Prop))) else k2 false) else PRun Tryz.prog 96 [] [.i x13, .i 0, .i 10000] (post [.B] [] (fun b6 => (bif !b6 then (bif !(decide (x9 ≥ 0)) then PRun Tryz.prog 101 [] [.a [.i c_5, .i c_6, .i c_7]] (post [.I] [] (fun x17 => (k2 (x17 == 0) : Prop))) else k2 false) else I2 (IntKind.wrap .i64 (x9 + 1)) ∧ f2 (IntKind.wrap .i64 (x9 + 1)) < f2 x9 : Prop))) : Prop))) : Prop))) : Prop)))))))) else PRun Tryz.prog 101 [] [.a [.i c_5, .i c_6, .i c_7]] (post [.I] [] (fun x18 => (k2 (x18 == 0) : Prop))))) else k2 false) else I1 (IntKind.wrap .i64 (x1 + 1)) ∧ f1 (IntKind.wrap .i64 (x1 + 1)) < f1 x1 : Prop))))))))))) else ∃ (I3 : Int → Prop) (f3 : Int → Nat), I3 0 ∧ (∀ x19 : Int, I3 x19 → (bif decide (x19 < (List.length c_3 : Int)) then elL c_3 x19 (fun r3 => dI .i64 (ug r3 0) (fun x20 => dI .i64 (ug r3 1) (fun x21 => dI .i64 (ug r3 2) (fun x22 => dI .i64 (ug r3 3) (fun x23 => PRun Tryz.prog 96 [] [.i x20, .i 1, .i c_2] (post [.B] [] (fun b7 => (bif !b7 then (bif !(decide (x19 ≥ 0)) then PRun Tryz.prog 101 [] [.a [.i c_5, .i c_6, .i c_7]] (post [.I] [] (fun x24 => (k2 (x24 == 0) : Prop))) else k2 false) else PRun Tryz.prog 96 [] [.i x21, .i 0, .i 8] (post [.B] [] (fun b8 => (bif !b8 then (bif !(decide (x19 ≥ 0)) then PRun Tryz.prog 101 [] [.a [.i c_5, .i c_6, .i c_7]] (post [.I] [] (fun x25 => (k2 (x25 == 0) : Prop))) else k2 false) else PRun Tryz.prog 96 [] [.i x22, .i 0, .i 8] (post [.B] [] (fun b9 => (bif !b9 then (bif !(decide (x19 ≥ 0)) then PRun Tryz.prog 101 [] [.a [.i c_5, .i c_6, .i c_7]] (post [.I] [] (fun x26 => (k2 (x26 == 0) : Prop))) else k2 false) else PRun Tryz.prog 96 [] [.i x23, .i 0, .i 10000] (post [.B] [] (fun b10 => (bif !b10 then (bif !(decide (x19 ≥ 0)) then PRun Tryz.prog 101 [] [.a [.i c_5, .i c_6, .i c_7]] (post [.I] [] (fun x27 => (k2 (x27 == 0) : Prop))) else k2 false) else I3 (IntKind.wrap .i64 (x19 + 1)) ∧ f3 (IntKind.wrap .i64 (x19 + 1)) < f3 x19 : Prop))) : Prop))) : Prop))) : Prop)))))))) else PRun Tryz.prog 101 [] [.a [.i c_5, .i c_6, .i c_7]] (post [.I] [] (fun x28 => (k2 (x28 == 0) : Prop))))))) else k2 false)) → k1 b1) → PRun Tryz.prog 96 [] [.i c_0, .i 1, .i 32] (post [.B] [] (fun b11 => (bif b11 then PRun Tryz.prog 96 [] [.i c_2, .i 1, .i 8] (post [.B] [] (fun b12 => (bif b12 then PRun Tryz.prog 96 [] [.i c_4, .i 1, .i 16] (post [.B] [] (fun b13 => (bif b13 then (bif decide ((List.length c_1 : Int) ≤ 16) then k1 (decide ((List.length c_3 : Int) ≤ 8)) else k1 false) else k1 false : Prop))) else k1 false : Prop))) else k1 false : Prop)))) : PRun Tryz.prog 69 [] [.a [.i c_0, .l 7 c_1, .i c_2, .l 4 c_3, .i c_4, .i c_5, .i c_6, .i c_7]] Q :=
  funS2 mixT1 Tryz.func69 (by kernel_rfl) (H := ⟨[((62, 2, 1), ⟨[(8, .I)], []⟩), ((112, 2, 1), ⟨[(8, .I)], []⟩), ((112, 2, 2), ⟨[(8, .I)], []⟩)], [((69, 0, 1), ⟨[(2, .B)], []⟩), ((69, 2, 1), ⟨[(3, .B)], []⟩)], [62, 97, 98, 99, 100, 112], [], [], false, 64⟩) (n := 5) (by kernel_rfl) hh

/- catalog.Check -/
theorem S45 {c_0 : Int} {c_1 : List (List U)} {c_2 : Int} {c_3 : List (List U)} {c_4 : Int} {c_5 : Int} {c_6 : Int} {c_7 : Int} {Q : V → Mem → Prop} (hh : PRun Tryz.prog 69 [] [.a [.i c_0, .l 7 c_1, .i c_2, .l 4 c_3, .i c_4, .i c_5, .i c_6, .i c_7]] (post [.B] [] (fun b1 => (bif !b1 then Q (.i 1) [] else PRun Tryz.prog 20 [] [.a [.i c_0, .l 7 c_1, .i c_2, .l 4 c_3, .i c_4, .i c_5, .i c_6, .i c_7]] (post [.L 2] [] (fun l1 => (PRun Tryz.prog 70 [] [.i c_0, .l 2 l1] (post [.L 1, .I] [] (fun l2 x1 => (bif x1 != 0 then Q (.i x1) [] else PRun Tryz.prog 71 [] [.l 1 l2] (post [.I] [] (fun x2 => (bif decide (x2 > 8) then Q (.i 5) [] else Q (.i 0) [] : Prop))) : Prop))) : Prop))) : Prop)))) : PRun Tryz.prog 45 [] [.a [.i c_0, .l 7 c_1, .i c_2, .l 4 c_3, .i c_4, .i c_5, .i c_6, .i c_7]] Q :=
  funS2 mixT1 Tryz.func45 (by kernel_rfl) (H := ⟨[], [], [], [], [], false, 64⟩) (n := 2) (by kernel_rfl) hh

/- graph.Order -/
theorem S19 {n : Int} {needs : List (List U)} {Q : V → Mem → Prop} (hh : PRun Tryz.prog 47 [] [.i n, .l 2 needs] (post [.one .p, .L 1, .I] [] (fun p1 l1 x1 => (Q (.t [.l 1 l1, .i x1]) [] : Prop)))) : PRun Tryz.prog 19 [] [.i n, .l 2 needs] Q :=
  funS2 mixT1 Tryz.func19 (by kernel_rfl) (H := ⟨[], [], [], [], [], false, 64⟩) (n := 2) (by kernel_rfl) hh

/- graph.ordered -/
theorem S47 {n : Int} {needs : List (List U)} {Q : V → Mem → Prop} (hh : PRun Tryz.prog 72 [] [.i n, .l 2 needs] (post [.one .p] [] (fun p1 => (bif Option.isNone p1 then Q (.t [.u (.p none), .l 1 [], .i 1]) [] else PRun Tryz.prog 73 [] [.u (.p p1)] (post [.L 1] [] (fun l1 => (bif decide ((List.length l1 : Int) < n) then Q (.t [.u (.p none), .l 1 [], .i 9]) [] else Q (.t [.u (.p p1), .l 1 l1, .i 0]) [] : Prop))) : Prop)))) : PRun Tryz.prog 47 [] [.i n, .l 2 needs] Q :=
  funS2 mixT1 Tryz.func47 (by kernel_rfl) (H := ⟨[], [], [], [], [], false, 64⟩) (n := 2) (by kernel_rfl) hh

/- graph.Deep -/
theorem S70 {n : Int} {needs : List (List U)} {Q : V → Mem → Prop} (hh : PRun Tryz.prog 47 [] [.i n, .l 2 needs] (post [.one .p, .L 1, .I] [] (fun p1 l1 x1 => (bif x1 != 0 then Q (.t [.l 1 [], .i x1]) [] else 0 ≤ n ∧ n ≤ 1000000 ∧ n = n ∧ (∃ (I1 : Int → List (List U) → Prop) (f1 : Int → List (List U) → Nat), I1 0 (List.replicate (Int.toNat n) ([.n 0] : List U)) ∧ (∀ x2 : Int, ∀ l2 : List (List U), I1 x2 l2 → (bif decide (x2 < (List.length l1 : Int)) then elL l1 x2 (fun r1 => dI .i64 (ug r1 0) (fun x3 => oP p1 (fun c1 => idxK x3 65 (fun j1 => dL 1 (ug c1 (1 + j1 * 1)) (fun l3 => ∃ (I2 : Int → List (List U) → Prop) (f2 : Int → List (List U) → Nat), I2 0 l2 ∧ (∀ x4 : Int, ∀ l4 : List (List U), I2 x4 l4 → (bif decide (x4 < (List.length l3 : Int)) then elL l3 x4 (fun r2 => dI .i64 (ug r2 0) (fun x5 => 0 ≤ IntKind.wrap .i64 (x3 - 1) ∧ IntKind.wrap .i64 (x3 - 1) < (List.length l4 : Int) ∧ (elL l4 (IntKind.wrap .i64 (x3 - 1)) (fun r3 => dI .i64 (ug r3 0) (fun x6 => 0 ≤ IntKind.wrap .i64 (x5 - 1) ∧ IntKind.wrap .i64 (x5 - 1) < (List.length l4 : Int) ∧ (elL l4 (IntKind.wrap .i64 (x5 - 1)) (fun r4 => dI .i64 (ug r4 0) (fun x7 => 0 ≤ IntKind.wrap .i64 (x3 - 1) ∧ IntKind.wrap .i64 (x3 - 1) < (List.length l4 : Int) ∧ (I2 (IntKind.wrap .i64 (x4 + 1)) (List.set l4 (Int.toNat (IntKind.wrap .i64 (x3 - 1))) [.n (if IntKind.wrap .i64 (x7 + 1) > x6 then IntKind.wrap .i64 (x7 + 1) else x6)]) ∧ f2 (IntKind.wrap .i64 (x4 + 1)) (List.set l4 (Int.toNat (IntKind.wrap .i64 (x3 - 1))) [.n (if IntKind.wrap .i64 (x7 + 1) > x6 then IntKind.wrap .i64 (x7 + 1) else x6)]) < f2 x4 l4))))))))) else I1 (IntKind.wrap .i64 (x2 + 1)) l4 ∧ f1 (IntKind.wrap .i64 (x2 + 1)) l4 < f1 x2 l2))))))) else Q (.t [.l 1 l2, .i 0]) []))) : Prop)))) : PRun Tryz.prog 70 [] [.i n, .l 2 needs] Q :=
  funS2 mixT1 Tryz.func70 (by kernel_rfl) (H := ⟨[((70, 6, 1), ⟨[(28, .I)], [(0, .row 3 1)]⟩), ((70, 9, 1), ⟨[(39, .I)], [(0, .row 3 1)]⟩)], [], [], [], [], false, 64⟩) (n := 2) (by kernel_rfl) hh

/- graph.web.is -/
theorem S102 {w_0 : Int} {w_1 : List (List U)} {w_2 : List (List U)} {w_3 : List (List U)} {w_4 : List (List U)} {w_5 : List (List U)} {w_6 : List (List U)} {w_7 : List (List U)} {w_8 : List (List U)} {w_9 : List (List U)} {w_10 : List (List U)} {w_11 : List (List U)} {w_12 : List (List U)} {w_13 : List (List U)} {w_14 : List (List U)} {w_15 : List (List U)} {w_16 : List (List U)} {w_17 : List (List U)} {w_18 : List (List U)} {w_19 : List (List U)} {w_20 : List (List U)} {w_21 : List (List U)} {w_22 : List (List U)} {w_23 : List (List U)} {w_24 : List (List U)} {w_25 : List (List U)} {w_26 : List (List U)} {w_27 : List (List U)} {w_28 : List (List U)} {w_29 : List (List U)} {w_30 : List (List U)} {w_31 : List (List U)} {w_32 : List (List U)} {w_33 : List (List U)} {w_34 : List (List U)} {w_35 : List (List U)} {w_36 : List (List U)} {w_37 : List (List U)} {w_38 : List (List U)} {w_39 : List (List U)} {w_40 : List (List U)} {w_41 : List (List U)} {w_42 : List (List U)} {w_43 : List (List U)} {w_44 : List (List U)} {w_45 : List (List U)} {w_46 : List (List U)} {w_47 : List (List U)} {w_48 : List (List U)} {w_49 : List (List U)} {w_50 : List (List U)} {w_51 : List (List U)} {w_52 : List (List U)} {w_53 : List (List U)} {w_54 : List (List U)} {w_55 : List (List U)} {w_56 : List (List U)} {w_57 : List (List U)} {w_58 : List (List U)} {w_59 : List (List U)} {w_60 : List (List U)} {w_61 : List (List U)} {w_62 : List (List U)} {w_63 : List (List U)} {w_64 : List (List U)} {w_65 : List (List U)} {w_66 : List Int} {w_67 : List (List U)} {w_68 : List (List U)} {w_69 : List (List U)} {w_70 : List (List U)} {w_71 : List (List U)} {w_72 : List (List U)} {w_73 : List (List U)} {w_74 : List (List U)} {w_75 : List (List U)} {w_76 : List (List U)} {w_77 : List (List U)} {w_78 : List (List U)} {w_79 : List (List U)} {w_80 : List (List U)} {w_81 : List (List U)} {w_82 : List (List U)} {w_83 : List (List U)} {w_84 : List (List U)} {w_85 : List (List U)} {w_86 : List (List U)} {w_87 : List (List U)} {w_88 : List (List U)} {w_89 : List (List U)} {w_90 : List (List U)} {w_91 : List (List U)} {w_92 : List (List U)} {w_93 : List (List U)} {w_94 : List (List U)} {w_95 : List (List U)} {w_96 : List (List U)} {w_97 : List (List U)} {w_98 : List (List U)} {w_99 : List (List U)} {w_100 : List (List U)} {w_101 : List (List U)} {w_102 : List (List U)} {w_103 : List (List U)} {w_104 : List (List U)} {w_105 : List (List U)} {w_106 : List (List U)} {w_107 : List (List U)} {w_108 : List (List U)} {w_109 : List (List U)} {w_110 : List (List U)} {w_111 : List (List U)} {w_112 : List (List U)} {w_113 : List (List U)} {w_114 : List (List U)} {w_115 : List (List U)} {w_116 : List (List U)} {w_117 : List (List U)} {w_118 : List (List U)} {w_119 : List (List U)} {w_120 : List (List U)} {w_121 : List (List U)} {w_122 : List (List U)} {w_123 : List (List U)} {w_124 : List (List U)} {w_125 : List (List U)} {w_126 : List (List U)} {w_127 : List (List U)} {w_128 : List (List U)} {w_129 : List (List U)} {w_130 : List (List U)} {w_131 : List (List U)} {node : Int} {Q : V → Mem → Prop} (hh : bif decide (node ≥ 1) then Q (.u (.b (decide (node ≤ w_0)))) [.c [.i w_0, .l 1 w_1, .l 1 w_2, .l 1 w_3, .l 1 w_4, .l 1 w_5, .l 1 w_6, .l 1 w_7, .l 1 w_8, .l 1 w_9, .l 1 w_10, .l 1 w_11, .l 1 w_12, .l 1 w_13, .l 1 w_14, .l 1 w_15, .l 1 w_16, .l 1 w_17, .l 1 w_18, .l 1 w_19, .l 1 w_20, .l 1 w_21, .l 1 w_22, .l 1 w_23, .l 1 w_24, .l 1 w_25, .l 1 w_26, .l 1 w_27, .l 1 w_28, .l 1 w_29, .l 1 w_30, .l 1 w_31, .l 1 w_32, .l 1 w_33, .l 1 w_34, .l 1 w_35, .l 1 w_36, .l 1 w_37, .l 1 w_38, .l 1 w_39, .l 1 w_40, .l 1 w_41, .l 1 w_42, .l 1 w_43, .l 1 w_44, .l 1 w_45, .l 1 w_46, .l 1 w_47, .l 1 w_48, .l 1 w_49, .l 1 w_50, .l 1 w_51, .l 1 w_52, .l 1 w_53, .l 1 w_54, .l 1 w_55, .l 1 w_56, .l 1 w_57, .l 1 w_58, .l 1 w_59, .l 1 w_60, .l 1 w_61, .l 1 w_62, .l 1 w_63, .l 1 w_64, .l 1 w_65, .n .i64 65 w_66, .l 1 w_67, .l 1 w_68, .l 1 w_69, .l 1 w_70, .l 1 w_71, .l 1 w_72, .l 1 w_73, .l 1 w_74, .l 1 w_75, .l 1 w_76, .l 1 w_77, .l 1 w_78, .l 1 w_79, .l 1 w_80, .l 1 w_81, .l 1 w_82, .l 1 w_83, .l 1 w_84, .l 1 w_85, .l 1 w_86, .l 1 w_87, .l 1 w_88, .l 1 w_89, .l 1 w_90, .l 1 w_91, .l 1 w_92, .l 1 w_93, .l 1 w_94, .l 1 w_95, .l 1 w_96, .l 1 w_97, .l 1 w_98, .l 1 w_99, .l 1 w_100, .l 1 w_101, .l 1 w_102, .l 1 w_103, .l 1 w_104, .l 1 w_105, .l 1 w_106, .l 1 w_107, .l 1 w_108, .l 1 w_109, .l 1 w_110, .l 1 w_111, .l 1 w_112, .l 1 w_113, .l 1 w_114, .l 1 w_115, .l 1 w_116, .l 1 w_117, .l 1 w_118, .l 1 w_119, .l 1 w_120, .l 1 w_121, .l 1 w_122, .l 1 w_123, .l 1 w_124, .l 1 w_125, .l 1 w_126, .l 1 w_127, .l 1 w_128, .l 1 w_129, .l 1 w_130, .l 1 w_131]] else Q (.u (.b false)) [.c [.i w_0, .l 1 w_1, .l 1 w_2, .l 1 w_3, .l 1 w_4, .l 1 w_5, .l 1 w_6, .l 1 w_7, .l 1 w_8, .l 1 w_9, .l 1 w_10, .l 1 w_11, .l 1 w_12, .l 1 w_13, .l 1 w_14, .l 1 w_15, .l 1 w_16, .l 1 w_17, .l 1 w_18, .l 1 w_19, .l 1 w_20, .l 1 w_21, .l 1 w_22, .l 1 w_23, .l 1 w_24, .l 1 w_25, .l 1 w_26, .l 1 w_27, .l 1 w_28, .l 1 w_29, .l 1 w_30, .l 1 w_31, .l 1 w_32, .l 1 w_33, .l 1 w_34, .l 1 w_35, .l 1 w_36, .l 1 w_37, .l 1 w_38, .l 1 w_39, .l 1 w_40, .l 1 w_41, .l 1 w_42, .l 1 w_43, .l 1 w_44, .l 1 w_45, .l 1 w_46, .l 1 w_47, .l 1 w_48, .l 1 w_49, .l 1 w_50, .l 1 w_51, .l 1 w_52, .l 1 w_53, .l 1 w_54, .l 1 w_55, .l 1 w_56, .l 1 w_57, .l 1 w_58, .l 1 w_59, .l 1 w_60, .l 1 w_61, .l 1 w_62, .l 1 w_63, .l 1 w_64, .l 1 w_65, .n .i64 65 w_66, .l 1 w_67, .l 1 w_68, .l 1 w_69, .l 1 w_70, .l 1 w_71, .l 1 w_72, .l 1 w_73, .l 1 w_74, .l 1 w_75, .l 1 w_76, .l 1 w_77, .l 1 w_78, .l 1 w_79, .l 1 w_80, .l 1 w_81, .l 1 w_82, .l 1 w_83, .l 1 w_84, .l 1 w_85, .l 1 w_86, .l 1 w_87, .l 1 w_88, .l 1 w_89, .l 1 w_90, .l 1 w_91, .l 1 w_92, .l 1 w_93, .l 1 w_94, .l 1 w_95, .l 1 w_96, .l 1 w_97, .l 1 w_98, .l 1 w_99, .l 1 w_100, .l 1 w_101, .l 1 w_102, .l 1 w_103, .l 1 w_104, .l 1 w_105, .l 1 w_106, .l 1 w_107, .l 1 w_108, .l 1 w_109, .l 1 w_110, .l 1 w_111, .l 1 w_112, .l 1 w_113, .l 1 w_114, .l 1 w_115, .l 1 w_116, .l 1 w_117, .l 1 w_118, .l 1 w_119, .l 1 w_120, .l 1 w_121, .l 1 w_122, .l 1 w_123, .l 1 w_124, .l 1 w_125, .l 1 w_126, .l 1 w_127, .l 1 w_128, .l 1 w_129, .l 1 w_130, .l 1 w_131]]) : PRun Tryz.prog 102 [.c [.i w_0, .l 1 w_1, .l 1 w_2, .l 1 w_3, .l 1 w_4, .l 1 w_5, .l 1 w_6, .l 1 w_7, .l 1 w_8, .l 1 w_9, .l 1 w_10, .l 1 w_11, .l 1 w_12, .l 1 w_13, .l 1 w_14, .l 1 w_15, .l 1 w_16, .l 1 w_17, .l 1 w_18, .l 1 w_19, .l 1 w_20, .l 1 w_21, .l 1 w_22, .l 1 w_23, .l 1 w_24, .l 1 w_25, .l 1 w_26, .l 1 w_27, .l 1 w_28, .l 1 w_29, .l 1 w_30, .l 1 w_31, .l 1 w_32, .l 1 w_33, .l 1 w_34, .l 1 w_35, .l 1 w_36, .l 1 w_37, .l 1 w_38, .l 1 w_39, .l 1 w_40, .l 1 w_41, .l 1 w_42, .l 1 w_43, .l 1 w_44, .l 1 w_45, .l 1 w_46, .l 1 w_47, .l 1 w_48, .l 1 w_49, .l 1 w_50, .l 1 w_51, .l 1 w_52, .l 1 w_53, .l 1 w_54, .l 1 w_55, .l 1 w_56, .l 1 w_57, .l 1 w_58, .l 1 w_59, .l 1 w_60, .l 1 w_61, .l 1 w_62, .l 1 w_63, .l 1 w_64, .l 1 w_65, .n .i64 65 w_66, .l 1 w_67, .l 1 w_68, .l 1 w_69, .l 1 w_70, .l 1 w_71, .l 1 w_72, .l 1 w_73, .l 1 w_74, .l 1 w_75, .l 1 w_76, .l 1 w_77, .l 1 w_78, .l 1 w_79, .l 1 w_80, .l 1 w_81, .l 1 w_82, .l 1 w_83, .l 1 w_84, .l 1 w_85, .l 1 w_86, .l 1 w_87, .l 1 w_88, .l 1 w_89, .l 1 w_90, .l 1 w_91, .l 1 w_92, .l 1 w_93, .l 1 w_94, .l 1 w_95, .l 1 w_96, .l 1 w_97, .l 1 w_98, .l 1 w_99, .l 1 w_100, .l 1 w_101, .l 1 w_102, .l 1 w_103, .l 1 w_104, .l 1 w_105, .l 1 w_106, .l 1 w_107, .l 1 w_108, .l 1 w_109, .l 1 w_110, .l 1 w_111, .l 1 w_112, .l 1 w_113, .l 1 w_114, .l 1 w_115, .l 1 w_116, .l 1 w_117, .l 1 w_118, .l 1 w_119, .l 1 w_120, .l 1 w_121, .l 1 w_122, .l 1 w_123, .l 1 w_124, .l 1 w_125, .l 1 w_126, .l 1 w_127, .l 1 w_128, .l 1 w_129, .l 1 w_130, .l 1 w_131]] [.r 0 0, .i node] Q :=
  funS2 mixT1 Tryz.func102 (by kernel_rfl) (H := ⟨[], [], [], [], [], false, 64⟩) (n := 2) (by kernel_rfl) hh

/- fee.Check -/
theorem S101 {f_0 : Int} {f_1 : Int} {f_2 : Int} {Q : V → Mem → Prop} (hh : PRun Tryz.prog 113 [] [.i f_0] (post [.B] [] (fun b1 => (bif b1 then PRun Tryz.prog 113 [] [.i f_2] (post [.B] [] (fun b2 => (bif b2 then PRun Tryz.prog 114 [] [.i f_1] (post [.B] [] (fun b3 => (bif b3 then Q (.i 0) [] else Q (.i 1) [] : Prop))) else Q (.i 1) [] : Prop))) else Q (.i 1) [] : Prop)))) : PRun Tryz.prog 101 [] [.a [.i f_0, .i f_1, .i f_2]] Q :=
  funS2 mixT1 Tryz.func101 (by kernel_rfl) (H := ⟨[], [], [], [], [], false, 64⟩) (n := 2) (by kernel_rfl) hh

/- fee.rate -/
theorem S113 {n : Int} {Q : V → Mem → Prop} (hh : bif decide (n ≥ 0) then Q (.u (.b (decide (n ≤ 10000)))) [] else Q (.u (.b false)) []) : PRun Tryz.prog 113 [] [.i n] Q :=
  funS2 mixT1 Tryz.func113 (by kernel_rfl) (H := ⟨[], [], [], [], [], false, 64⟩) (n := 2) (by kernel_rfl) hh

/- fee.money -/
theorem S114 {n : Int} {Q : V → Mem → Prop} (hh : bif decide (n ≥ 0) then Q (.u (.b (decide (n ≤ 1152921504606846976)))) [] else Q (.u (.b false)) []) : PRun Tryz.prog 114 [] [.i n] Q :=
  funS2 mixT1 Tryz.func114 (by kernel_rfl) (H := ⟨[], [], [], [], [], false, 64⟩) (n := 2) (by kernel_rfl) hh

/- r14.Check -/
theorem S54 {c_0 : Int} {c_1 : List (List U)} {c_2 : Int} {c_3 : List (List U)} {c_4 : Int} {c_5 : Int} {c_6 : Int} {c_7 : Int} {Q : V → Mem → Prop} (hh : PRun Tryz.prog 86 [] [.i c_0, .i 1, .i 32] (post [.B] [] (fun b1 => (bif !b1 then Q (.i 1) [] else PRun Tryz.prog 86 [] [.i c_2, .i 1, .i 8] (post [.B] [] (fun b2 => (bif !b2 then Q (.i 1) [] else PRun Tryz.prog 86 [] [.i c_4, .i 1, .i 16] (post [.B] [] (fun b3 => (bif !b3 then Q (.i 1) [] else (bif decide ((List.length c_1 : Int) > 16) then Q (.i 1) [] else (bif decide ((List.length c_3 : Int) > 8) then Q (.i 1) [] else PRun Tryz.prog 87 [] [.a [.i c_5, .i c_6, .i c_7]] (post [.I] [] (fun x1 => (bif x1 != 0 then Q (.i 1) [] else ∃ (I1 : Int → Prop) (f1 : Int → Nat), I1 0 ∧ (∀ x2 : Int, I1 x2 → (bif decide (x2 < (List.length c_1 : Int)) then elL c_1 x2 (fun r1 => dI .i64 (ug r1 0) (fun x3 => dI .i64 (ug r1 1) (fun x4 => dI .i64 (ug r1 2) (fun x5 => dL 2 (ug r1 3) (fun l1 => dI .i64 (ug r1 4) (fun x6 => dI .i64 (ug r1 5) (fun x7 => dI .i64 (ug r1 6) (fun x8 => PRun Tryz.prog 58 [] [.a [.i x3, .i x4, .i x5, .l 2 l1, .i x6, .i x7, .i x8], .i c_0] (post [.I] [] (fun x9 => (bif x9 != 0 then Q (.i 1) [] else I1 (IntKind.wrap .i64 (x2 + 1)) ∧ f1 (IntKind.wrap .i64 (x2 + 1)) < f1 x2 : Prop))))))))))) else ∃ (I2 : Int → Prop) (f2 : Int → Nat), I2 0 ∧ (∀ x10 : Int, I2 x10 → (bif decide (x10 < (List.length c_3 : Int)) then elL c_3 x10 (fun r2 => dI .i64 (ug r2 0) (fun x11 => dI .i64 (ug r2 1) (fun x12 => dI .i64 (ug r2 2) (fun x13 => dI .i64 (ug r2 3) (fun x14 => PRun Tryz.prog 86 [] [.i x11, .i 1, .i c_2] (post [.B] [] (fun b4 => (bif !b4 then Q (.i 1) [] else PRun Tryz.prog 86 [] [.i x12, .i 0, .i 8] (post [.B] [] (fun b5 => (bif !b5 then Q (.i 1) [] else PRun Tryz.prog 86 [] [.i x13, .i 0, .i 8] (post [.B] [] (fun b6 => (bif !b6 then Q (.i 1) [] else PRun Tryz.prog 86 [] [.i x14, .i 0, .i 10000] (post [.B] [] (fun b7 => (bif !b7 then Q (.i 1) [] else I2 (IntKind.wrap .i64 (x10 + 1)) ∧ f2 (IntKind.wrap .i64 (x10 + 1)) < f2 x10 : Prop))) : Prop))) : Prop))) : Prop)))))))) else PRun Tryz.prog 57 [] [.a [.i c_0, .l 7 c_1, .i c_2, .l 4 c_3, .i c_4, .i c_5, .i c_6, .i c_7]] (post [.L 2] [] (fun l2 => (PRun Tryz.prog 88 [] [.i c_0, .l 2 l2] (post [.L 1, .I] [] (fun l3 x15 => (bif x15 != 0 then Q (.i x15) [] else ∃ (I3 : Int → Prop) (f3 : Int → Nat), I3 0 ∧ (∀ x16 : Int, I3 x16 → (bif decide (x16 < (List.length l3 : Int)) then elL l3 x16 (fun r3 => dI .i64 (ug r3 0) (fun x17 => (bif decide (x17 > 8) then Q (.i 5) [] else I3 (IntKind.wrap .i64 (x16 + 1)) ∧ f3 (IntKind.wrap .i64 (x16 + 1)) < f3 x16))) else Q (.i 0) [])) : Prop))) : Prop))))))) : Prop))))) : Prop))) : Prop))) : Prop)))) : PRun Tryz.prog 54 [] [.a [.i c_0, .l 7 c_1, .i c_2, .l 4 c_3, .i c_4, .i c_5, .i c_6, .i c_7]] Q :=
  funS2 mixT1 Tryz.func54 (by kernel_rfl) (H := ⟨[((54, 4, 1), ⟨[(3, .I)], []⟩), ((54, 9, 1), ⟨[(4, .I)], []⟩), ((54, 18, 1), ⟨[(8, .I)], []⟩)], [], [], [], [], false, 64⟩) (n := 2) (by kernel_rfl) hh

/- r14.Needs -/
theorem S57 {c_0 : Int} {c_1 : List (List U)} {c_2 : Int} {c_3 : List (List U)} {c_4 : Int} {c_5 : Int} {c_6 : Int} {c_7 : Int} {Q : V → Mem → Prop} (hh : ∃ (I1 : List (List U) → Int → Prop) (f1 : List (List U) → Int → Nat), I1 [] 0 ∧ (∀ l1 : List (List U), ∀ x1 : Int, I1 l1 x1 → (bif decide (x1 < (List.length c_1 : Int)) then ∃ (I2 : List (List U) → Int → Prop) (f2 : List (List U) → Int → Nat), I2 l1 0 ∧ (∀ l2 : List (List U), ∀ x2 : Int, I2 l2 x2 → elL c_1 x1 (fun r1 => dL 2 (ug r1 3) (fun l3 => (bif decide (x2 < (List.length l3 : Int)) then elL c_1 x1 (fun r2 => dI .i64 (ug r2 0) (fun x3 => elL c_1 x1 (fun r3 => dL 2 (ug r3 3) (fun l4 => elL l4 x2 (fun r4 => dI .i64 (ug r4 0) (fun x4 => apOk l2 [[.n x3, .n x4]] ∧ (I2 (l2 ++ [[.n x3, .n x4]]) (IntKind.wrap .i64 (x2 + 1)) ∧ f2 (l2 ++ [[.n x3, .n x4]]) (IntKind.wrap .i64 (x2 + 1)) < f2 l2 x2))))))) else I1 l2 (IntKind.wrap .i64 (x1 + 1)) ∧ f1 l2 (IntKind.wrap .i64 (x1 + 1)) < f1 l1 x1)))) else Q (.l 2 l1) []))) : PRun Tryz.prog 57 [] [.a [.i c_0, .l 7 c_1, .i c_2, .l 4 c_3, .i c_4, .i c_5, .i c_6, .i c_7]] Q :=
  funS2 mixT1 Tryz.func57 (by kernel_rfl) (H := ⟨[((57, 3, 1), ⟨[(3, .one (.ow 90 2)), (4, .I)], []⟩), ((57, 6, 2), ⟨[(3, .one (.ow 90 2)), (5, .I)], []⟩)], [], [], [], [], false, 64⟩) (n := 2) (by kernel_rfl) hh

/- r14.in -/
theorem S86 {n : Int} {from0 : Int} {to0 : Int} {Q : V → Mem → Prop} (hh : bif decide (n ≥ from0) then Q (.u (.b (decide (n ≤ to0)))) [] else Q (.u (.b false)) []) : PRun Tryz.prog 86 [] [.i n, .i from0, .i to0] Q :=
  funS2 mixT1 Tryz.func86 (by kernel_rfl) (H := ⟨[], [], [], [], [], false, 64⟩) (n := 2) (by kernel_rfl) hh

/- r09.Check -/
theorem S87 {f_0 : Int} {f_1 : Int} {f_2 : Int} {Q : V → Mem → Prop} (hh : bif decide (f_0 < 0) then Q (.i 1) [] else (bif decide (f_0 > 10000) then Q (.i 1) [] else (bif decide (f_2 < 0) then Q (.i 1) [] else (bif decide (f_2 > 10000) then Q (.i 1) [] else (bif decide (f_1 < 0) then Q (.i 1) [] else (bif decide (f_1 > 1152921504606846976) then Q (.i 1) [] else Q (.i 0) [])))))) : PRun Tryz.prog 87 [] [.a [.i f_0, .i f_1, .i f_2]] Q :=
  funS2 mixT1 Tryz.func87 (by kernel_rfl) (H := ⟨[], [], [], [], [], false, 64⟩) (n := 2) (by kernel_rfl) hh

/- r13.Deep -/
theorem S88 {n : Int} {needs : List (List U)} {Q : V → Mem → Prop} (hh : PRun Tryz.prog 56 [] [.i n, .l 2 needs] (post [.L 1, .I] [] (fun l1 x1 => (bif x1 != 0 then Q (.t [.l 1 [], .i x1]) [] else 0 ≤ n ∧ n ≤ 1000000 ∧ n = n ∧ (∃ (I1 : Int → List (List U) → Prop) (f1 : Int → List (List U) → Nat), I1 0 (List.replicate (Int.toNat n) ([.n 0] : List U)) ∧ (∀ x2 : Int, ∀ l2 : List (List U), I1 x2 l2 → (bif decide (x2 < (List.length l1 : Int)) then ∃ (I2 : Int → List (List U) → Prop) (f2 : Int → List (List U) → Nat), I2 0 l2 ∧ (∀ x3 : Int, ∀ l3 : List (List U), I2 x3 l3 → (bif decide (x3 < (List.length needs : Int)) then elL needs x3 (fun r1 => dI .i64 (ug r1 0) (fun x4 => elL l1 x2 (fun r2 => dI .i64 (ug r2 0) (fun x5 => (bif x4 == x5 then elL l1 x2 (fun r3 => dI .i64 (ug r3 0) (fun x6 => elL l1 x2 (fun r4 => dI .i64 (ug r4 0) (fun x7 => 0 ≤ IntKind.wrap .i64 (x7 - 1) ∧ IntKind.wrap .i64 (x7 - 1) < (List.length l3 : Int) ∧ (elL l3 (IntKind.wrap .i64 (x7 - 1)) (fun r5 => dI .i64 (ug r5 0) (fun x8 => elL needs x3 (fun r6 => dI .i64 (ug r6 1) (fun x9 => 0 ≤ IntKind.wrap .i64 (x9 - 1) ∧ IntKind.wrap .i64 (x9 - 1) < (List.length l3 : Int) ∧ (elL l3 (IntKind.wrap .i64 (x9 - 1)) (fun r7 => dI .i64 (ug r7 0) (fun x10 => 0 ≤ IntKind.wrap .i64 (x6 - 1) ∧ IntKind.wrap .i64 (x6 - 1) < (List.length l3 : Int) ∧ (I2 (IntKind.wrap .i64 (x3 + 1)) (List.set l3 (Int.toNat (IntKind.wrap .i64 (x6 - 1))) [.n (if IntKind.wrap .i64 (x10 + 1) > x8 then IntKind.wrap .i64 (x10 + 1) else x8)]) ∧ f2 (IntKind.wrap .i64 (x3 + 1)) (List.set l3 (Int.toNat (IntKind.wrap .i64 (x6 - 1))) [.n (if IntKind.wrap .i64 (x10 + 1) > x8 then IntKind.wrap .i64 (x10 + 1) else x8)]) < f2 x3 l3))))))))))))) else I2 (IntKind.wrap .i64 (x3 + 1)) l3 ∧ f2 (IntKind.wrap .i64 (x3 + 1)) l3 < f2 x3 l3))))) else I1 (IntKind.wrap .i64 (x2 + 1)) l3 ∧ f1 (IntKind.wrap .i64 (x2 + 1)) l3 < f1 x2 l2)) else Q (.t [.l 1 l2, .i 0]) []))) : Prop)))) : PRun Tryz.prog 88 [] [.i n, .l 2 needs] Q :=
  funS2 mixT1 Tryz.func88 (by kernel_rfl) (H := ⟨[((88, 6, 1), ⟨[(9, .I)], [(0, .row 3 1)]⟩), ((88, 9, 1), ⟨[(10, .I)], [(0, .row 3 1)]⟩)], [], [], [], [], false, 64⟩) (n := 2) (by kernel_rfl) hh

/- r13.may -/
theorem S89 {n : Int} {needs : List (List U)} {Q : V → Mem → Prop} (hh : bif decide (n < 0) then Q (.u (.b false)) [] else (bif decide (n > 64) then Q (.u (.b false)) [] else (bif decide ((List.length needs : Int) > 256) then Q (.u (.b false)) [] else ∃ (I1 : Int → Prop) (f1 : Int → Nat), I1 0 ∧ (∀ x1 : Int, I1 x1 → (bif decide (x1 < (List.length needs : Int)) then elL needs x1 (fun r1 => dI .i64 (ug r1 0) (fun x2 => (bif decide (x2 < 1) then Q (.u (.b false)) [] else elL needs x1 (fun r2 => dI .i64 (ug r2 0) (fun x3 => (bif decide (x3 > n) then Q (.u (.b false)) [] else elL needs x1 (fun r3 => dI .i64 (ug r3 1) (fun x4 => (bif decide (x4 < 1) then Q (.u (.b false)) [] else elL needs x1 (fun r4 => dI .i64 (ug r4 1) (fun x5 => (bif decide (x5 > n) then Q (.u (.b false)) [] else I1 (IntKind.wrap .i64 (x1 + 1)) ∧ f1 (IntKind.wrap .i64 (x1 + 1)) < f1 x1)))))))))))) else Q (.u (.b true)) []))))) : PRun Tryz.prog 89 [] [.i n, .l 2 needs] Q :=
  funS2 mixT1 Tryz.func89 (by kernel_rfl) (H := ⟨[((89, 4, 0), ⟨[(5, .I)], []⟩)], [], [], [], [], false, 64⟩) (n := 2) (by kernel_rfl) hh

/- r13.in -/
theorem S90 {l : List (List U)} {n : Int} {Q : V → Mem → Prop} (hh : ∃ (I1 : Int → Prop) (f1 : Int → Nat), I1 0 ∧ (∀ x1 : Int, I1 x1 → (bif decide (x1 < (List.length l : Int)) then elL l x1 (fun r1 => dI .i64 (ug r1 0) (fun x2 => (bif x2 == n then Q (.u (.b true)) [] else I1 (IntKind.wrap .i64 (x1 + 1)) ∧ f1 (IntKind.wrap .i64 (x1 + 1)) < f1 x1))) else Q (.u (.b false)) []))) : PRun Tryz.prog 90 [] [.l 1 l, .i n] Q :=
  funS2 mixT1 Tryz.func90 (by kernel_rfl) (H := ⟨[((90, 2, 0), ⟨[(5, .I)], []⟩)], [], [], [], [], false, 64⟩) (n := 2) (by kernel_rfl) hh

/- r13.in -/
theorem S90w {l : List (List U)} {n : Int} {Q : V → Mem → Prop} (hh : ∃ (I1 : Int → Prop) (f1 : Int → Nat), I1 0 ∧ (∀ x1 : Int, I1 x1 → (bif decide (x1 < (List.length l : Int)) then 0 ≤ x1 ∧ x1 < (List.length l : Int) ∧ (elL l x1 (fun r1 => dI .i64 (ug r1 0) (fun x2 => (bif x2 == n then Q (.u (.b true)) [.w 3 1 l] else I1 (IntKind.wrap .i64 (x1 + 1)) ∧ f1 (IntKind.wrap .i64 (x1 + 1)) < f1 x1)))) else Q (.u (.b false)) [.w 3 1 l]))) : PRun Tryz.prog 90 [.w 3 1 l] [.w 0, .i n] Q :=
  funS2 mixT1 Tryz.func90 (by kernel_rfl) (H := ⟨[((90, 2, 1), ⟨[(5, .I)], []⟩)], [], [], [], [], false, 64⟩) (n := 2) (by kernel_rfl) hh

/- r13.Order -/
theorem S56 {n : Int} {needs : List (List U)} {Q : V → Mem → Prop} (hh : PRun Tryz.prog 89 [] [.i n, .l 2 needs] (post [.B] [] (fun b1 => (bif !b1 then Q (.t [.l 1 [], .i 1]) [] else ∃ (I1 : List (List U) → Prop) (f1 : List (List U) → Nat), I1 [] ∧ (∀ l1 : List (List U), I1 l1 → (bif decide ((List.length l1 : Int) < n) then ∃ (I2 : Int → Int → Prop) (f2 : Int → Int → Nat), I2 0 n ∧ (∀ x1 : Int, ∀ x2 : Int, I2 x1 x2 → (bif decide (x2 ≥ 1) then PRun Tryz.prog 90 [.w 3 1 l1] [.w 0, .i x2] (post [.B] [.row 3 1] (fun b2 l2 => ((.w 3 1 l2 : AB) = .w 3 1 l1 ∧ (∃ (I3 : Bool → Int → Prop) (f3 : Bool → Int → Nat), I3 (!b2) 0 ∧ (∀ b3 : Bool, ∀ x3 : Int, I3 b3 x3 → (bif decide (x3 < (List.length needs : Int)) then (bif b3 then elL needs x3 (fun r1 => dI .i64 (ug r1 0) (fun x4 => (bif x4 != x2 then I3 true (IntKind.wrap .i64 (x3 + 1)) ∧ f3 true (IntKind.wrap .i64 (x3 + 1)) < f3 b3 x3 else elL needs x3 (fun r2 => dI .i64 (ug r2 1) (fun x5 => PRun Tryz.prog 90 [.w 3 1 l2] [.w 0, .i x5] (post [.B] [.row 3 1] (fun b4 l3 => ((.w 3 1 l3 : AB) = .w 3 1 l2 ∧ (I3 b4 (IntKind.wrap .i64 (x3 + 1)) ∧ f3 b4 (IntKind.wrap .i64 (x3 + 1)) < f3 b3 x3) : Prop)))))))) else I3 false (IntKind.wrap .i64 (x3 + 1)) ∧ f3 false (IntKind.wrap .i64 (x3 + 1)) < f3 b3 x3) else (bif b3 then I2 x2 (IntKind.wrap .i64 (x2 - 1)) ∧ f2 x2 (IntKind.wrap .i64 (x2 - 1)) < f2 x1 x2 else I2 x1 (IntKind.wrap .i64 (x2 - 1)) ∧ f2 x1 (IntKind.wrap .i64 (x2 - 1)) < f2 x1 x2)))) : Prop))) else (bif x1 == 0 then Q (.t [.l 1 [], .i 9]) [] else apOk l1 [[.n x1]] ∧ (I1 (l1 ++ [[.n x1]]) ∧ f1 (l1 ++ [[.n x1]]) < f1 l1)))) else Q (.t [.l 1 l1, .i 0]) [])) : Prop)))) : PRun Tryz.prog 56 [] [.i n, .l 2 needs] Q :=
  funS2 mixT1 Tryz.func56 (by kernel_rfl) (H := ⟨[((56, 4, 0), ⟨[(6, .one (.ow 3 1))], []⟩), ((56, 7, 1), ⟨[(7, .I), (8, .I)], []⟩), ((56, 11, 1), ⟨[(9, .B), (10, .I)], []⟩)], [], [], [90], [], false, 64⟩) (n := 2) (by kernel_rfl) hh

/- r15.Expand -/
theorem S8 {c_0 : Int} {c_1 : List (List U)} {c_2 : Int} {c_3 : List (List U)} {c_4 : Int} {c_5 : Int} {c_6 : Int} {c_7 : Int} {kind : Int} {n : Int} {level : Int} {have0 : List (List U)} {Q : V → Mem → Prop} (hh : PRun Tryz.prog 26 [] [.a [.i c_0, .l 7 c_1, .i c_2, .l 4 c_3, .i c_4, .i c_5, .i c_6, .i c_7], .i kind, .i level, .l 2 have0] (post [.I] [] (fun x1 => (bif x1 != 0 then Q (.t [.a [.l 2 [], .l 1 [], .l 2 []], .i x1]) [] else (bif decide (n < 1) then Q (.t [.a [.l 2 [], .l 1 [], .l 2 []], .i 1]) [] else (bif decide (n > 1125899906842624) then Q (.t [.a [.l 2 [], .l 1 [], .l 2 []], .i 1]) [] else 0 ≤ IntKind.wrap .i64 (c_0 + 1) ∧ IntKind.wrap .i64 (c_0 + 1) ≤ 1000000 ∧ IntKind.wrap .i64 (c_0 + 1) = IntKind.wrap .i64 (c_0 + 1) ∧ (0 ≤ kind ∧ kind < (List.length (List.replicate (Int.toNat (IntKind.wrap .i64 (c_0 + 1))) ([.n 0] : List U)) : Int) ∧ (0 ≤ (List.length c_1 : Int) ∧ (List.length c_1 : Int) ≤ 1000000 ∧ (List.length c_1 : Int) = (List.length c_1 : Int) ∧ (PRun Tryz.prog 27 [] [.a [.i c_0, .l 7 c_1, .i c_2, .l 4 c_3, .i c_4, .i c_5, .i c_6, .i c_7]] (post [.L 1] [] (fun l1 => ∃ (I1 : List (List U) → List (List U) → Int → List (List U) → List (List U) → List (List U) → List (List U) → List (List U) → Prop) (f1 : List (List U) → List (List U) → Int → List (List U) → List (List U) → List (List U) → List (List U) → List (List U) → Nat), I1 [] [] 0 [] [] [] (List.set (List.replicate (Int.toNat (IntKind.wrap .i64 (c_0 + 1))) ([.n 0] : List U)) (Int.toNat kind) [.n n]) (List.replicate (Int.toNat (List.length c_1 : Int)) ([.n 0] : List U)) ∧ (∀ l2 : List (List U), ∀ l3 : List (List U), ∀ x2 : Int, ∀ l4 : List (List U), ∀ l5 : List (List U), ∀ l6 : List (List U), ∀ l7 : List (List U), ∀ l8 : List (List U), I1 l2 l3 x2 l4 l5 l6 l7 l8 → (bif decide (x2 < (List.length l1 : Int)) then elL l1 x2 (fun r1 => dI .i64 (ug r1 0) (fun x3 => 0 ≤ x3 ∧ x3 < (List.length l7 : Int) ∧ (elL l7 x3 (fun r2 => dI .i64 (ug r2 0) (fun x4 => 0 ≤ x3 ∧ x3 < (List.length l7 : Int) ∧ (elL l7 x3 (fun r3 => dI .i64 (ug r3 0) (fun x5 => PRun Tryz.prog 28 [] [.l 2 have0, .i x3] (post [.I] [] (fun x6 => (PRun Tryz.prog 29 [] [.a [.i c_0, .l 7 c_1, .i c_2, .l 4 c_3, .i c_4, .i c_5, .i c_6, .i c_7], .i x3] (post [.I] [] (fun x7 => (bif IntKind.wrap .i64 (x4 - (if x6 < x5 then x6 else x5)) == 0 then I1 l2 l3 (IntKind.wrap .i64 (x2 + 1)) l4 l5 l6 l7 l8 ∧ f1 l2 l3 (IntKind.wrap .i64 (x2 + 1)) l4 l5 l6 l7 l8 < f1 l2 l3 x2 l4 l5 l6 l7 l8 else (bif x7 == 0 then apOk l2 [[.n x3, .n (IntKind.wrap .i64 (x4 - (if x6 < x5 then x6 else x5)))]] ∧ (I1 (l2 ++ [[.n x3, .n (IntKind.wrap .i64 (x4 - (if x6 < x5 then x6 else x5)))]]) l3 (IntKind.wrap .i64 (x2 + 1)) l4 l5 l6 l7 l8 ∧ f1 (l2 ++ [[.n x3, .n (IntKind.wrap .i64 (x4 - (if x6 < x5 then x6 else x5)))]]) l3 (IntKind.wrap .i64 (x2 + 1)) l4 l5 l6 l7 l8 < f1 l2 l3 x2 l4 l5 l6 l7 l8) else elL c_1 (IntKind.wrap .i64 (x7 - 1)) (fun r4 => dI .i64 (ug r4 0) (fun x8 => dI .i64 (ug r4 1) (fun x9 => dI .i64 (ug r4 2) (fun x10 => dL 2 (ug r4 3) (fun l9 => dI .i64 (ug r4 4) (fun x11 => dI .i64 (ug r4 5) (fun x12 => dI .i64 (ug r4 6) (fun x13 => PRun Tryz.prog 30 [] [.a [.i x8, .i x9, .i x10, .l 2 l9, .i x11, .i x12, .i x13], .i (IntKind.wrap .i64 (x4 - (if x6 < x5 then x6 else x5)))] (post [.I, .I] [] (fun x14 x15 => (bif decide (x14 > 1000) then Q (.t [.a [.l 2 [], .l 1 [], .l 2 []], .i 5]) [] else 0 ≤ IntKind.wrap .i64 (x7 - 1) ∧ IntKind.wrap .i64 (x7 - 1) < (List.length l8 : Int) ∧ (PRun Tryz.prog 31 [] [.a [.i x8, .i x9, .i x10, .l 2 l9, .i x11, .i x12, .i x13], .i level, .i x14] (post [.L 2, .I] [] (fun l10 x16 => (bif x16 != 0 then Q (.t [.a [.l 2 [], .l 1 [], .l 2 []], .i x16]) [] else ∃ (I2 : Int → List (List U) → List (List U) → List (List U) → List (List U) → Prop) (f2 : Int → List (List U) → List (List U) → List (List U) → List (List U) → Nat), I2 0 l4 l5 l6 l7 ∧ (∀ x17 : Int, ∀ l11 : List (List U), ∀ l12 : List (List U), ∀ l13 : List (List U), ∀ l14 : List (List U), I2 x17 l11 l12 l13 l14 → (bif decide (x17 < (List.length l10 : Int)) then elL l10 x17 (fun r5 => dI .i64 (ug r5 0) (fun x18 => elL l10 x17 (fun r6 => dI .i64 (ug r6 1) (fun x19 => 0 ≤ x18 ∧ x18 < (List.length l14 : Int) ∧ (elL l14 x18 (fun r7 => dI .i64 (ug r7 0) (fun x20 => (bif decide (x19 > IntKind.wrap .i64 (1125899906842624 - x20)) then Q (.t [.a [.l 2 [], .l 1 [], .l 2 []], .i 5]) [] else 0 ≤ x18 ∧ x18 < (List.length l14 : Int) ∧ (elL l14 x18 (fun r8 => dI .i64 (ug r8 0) (fun x21 => elL l10 x17 (fun r9 => dI .i64 (ug r9 1) (fun x22 => 0 ≤ x18 ∧ x18 < (List.length l14 : Int) ∧ (I2 (IntKind.wrap .i64 (x17 + 1)) l11 l12 l13 (List.set l14 (Int.toNat x18) [.n (IntKind.wrap .i64 (x21 + x22))]) ∧ f2 (IntKind.wrap .i64 (x17 + 1)) l11 l12 l13 (List.set l14 (Int.toNat x18) [.n (IntKind.wrap .i64 (x21 + x22))]) < f2 x17 l11 l12 l13 l14)))))))))))))) else (bif decide (IntKind.wrap .i64 (IntKind.wrap .i64 (x14 * x9) - IntKind.wrap .i64 (x4 - (if x6 < x5 then x6 else x5))) > 0) then apOk l3 [[.n x3, .n (IntKind.wrap .i64 (IntKind.wrap .i64 (x14 * x9) - IntKind.wrap .i64 (x4 - (if x6 < x5 then x6 else x5))))]] ∧ (I1 l2 (l3 ++ [[.n x3, .n (IntKind.wrap .i64 (IntKind.wrap .i64 (x14 * x9) - IntKind.wrap .i64 (x4 - (if x6 < x5 then x6 else x5))))]]) (IntKind.wrap .i64 (x2 + 1)) l11 l12 l13 l14 (List.set l8 (Int.toNat (IntKind.wrap .i64 (x7 - 1))) [.n x14]) ∧ f1 l2 (l3 ++ [[.n x3, .n (IntKind.wrap .i64 (IntKind.wrap .i64 (x14 * x9) - IntKind.wrap .i64 (x4 - (if x6 < x5 then x6 else x5))))]]) (IntKind.wrap .i64 (x2 + 1)) l11 l12 l13 l14 (List.set l8 (Int.toNat (IntKind.wrap .i64 (x7 - 1))) [.n x14]) < f1 l2 l3 x2 l4 l5 l6 l7 l8) else I1 l2 l3 (IntKind.wrap .i64 (x2 + 1)) l11 l12 l13 l14 (List.set l8 (Int.toNat (IntKind.wrap .i64 (x7 - 1))) [.n x14]) ∧ f1 l2 l3 (IntKind.wrap .i64 (x2 + 1)) l11 l12 l13 l14 (List.set l8 (Int.toNat (IntKind.wrap .i64 (x7 - 1))) [.n x14]) < f1 l2 l3 x2 l4 l5 l6 l7 l8))) : Prop)))) : Prop)))))))))))) : Prop))) : Prop))))))))))) else PRun Tryz.prog 32 [] [.l 2 l2] (post [.L 2, .I] [] (fun l15 x23 => (PRun Tryz.prog 32 [] [.l 2 l3] (post [.L 2, .I] [] (fun l16 x24 => (Q (.t [.a [.l 2 l15, .l 1 l8, .l 2 l16], .i 0]) [] : Prop))) : Prop)))))))))))) : Prop)))) : PRun Tryz.prog 8 [] [.a [.i c_0, .l 7 c_1, .i c_2, .l 4 c_3, .i c_4, .i c_5, .i c_6, .i c_7], .i kind, .i n, .i level, .l 2 have0] Q :=
  funS2 mixT1 Tryz.func8 (by kernel_rfl) (H := ⟨[((8, 12, 5), ⟨[(16, .one (.ow 52 2)), (17, .one (.ow 52 2)), (18, .I)], [(1, .c [.l 2, .l 1, .l 2]), (2, .row 3 1), (3, .row 3 1)]⟩), ((8, 29, 8), ⟨[(27, .I)], [(1, .c [.l 2, .l 1, .l 2]), (2, .row 3 1)]⟩)], [], [], [], [], false, 64⟩) (n := 2) (by kernel_rfl) hh

/- r15.Same -/
theorem S9 {a_0 : List (List U)} {a_1 : List (List U)} {a_2 : List (List U)} {b_0 : List (List U)} {b_1 : List (List U)} {b_2 : List (List U)} {Q : V → Mem → Prop} (hh : PRun Tryz.prog 33 [] [.l 2 a_0, .l 2 b_0] (post [.B] [] (fun b1 => (bif b1 then PRun Tryz.prog 34 [] [.l 1 a_1, .l 1 b_1] (post [.B] [] (fun b2 => (bif b2 then PRun Tryz.prog 33 [] [.l 2 a_2, .l 2 b_2] (post [.B] [] (fun b3 => (Q (.u (.b b3)) [] : Prop))) else Q (.u (.b false)) [] : Prop))) else Q (.u (.b false)) [] : Prop)))) : PRun Tryz.prog 9 [] [.a [.l 2 a_0, .l 1 a_1, .l 2 a_2], .a [.l 2 b_0, .l 1 b_1, .l 2 b_2]] Q :=
  funS2 mixT1 Tryz.func9 (by kernel_rfl) (H := ⟨[], [], [], [], [], false, 64⟩) (n := 2) (by kernel_rfl) hh

/- r15.Path -/
theorem S11 {c_0 : Int} {c_1 : List (List U)} {c_2 : Int} {c_3 : List (List U)} {c_4 : Int} {c_5 : Int} {c_6 : Int} {c_7 : Int} {kind : Int} {runs : List (List U)} {level : Int} {Q : V → Mem → Prop} (hh : PRun Tryz.prog 26 [] [.a [.i c_0, .l 7 c_1, .i c_2, .l 4 c_3, .i c_4, .i c_5, .i c_6, .i c_7], .i kind, .i level, .l 2 []] (post [.I] [] (fun x1 => (bif x1 != 0 then Q (.t [.i 0, .i x1]) [] else PRun Tryz.prog 37 [] [.a [.i c_0, .l 7 c_1, .i c_2, .l 4 c_3, .i c_4, .i c_5, .i c_6, .i c_7], .l 1 runs] (post [.B] [] (fun b1 => (bif !b1 then Q (.t [.i 0, .i 1]) [] else PRun Tryz.prog 38 [] [.a [.i c_0, .l 7 c_1, .i c_2, .l 4 c_3, .i c_4, .i c_5, .i c_6, .i c_7], .i kind, .l 1 runs, .i level] (post [.I] [] (fun x2 => (Q (.t [.i x2, .i 0]) [] : Prop))) : Prop))) : Prop)))) : PRun Tryz.prog 11 [] [.a [.i c_0, .l 7 c_1, .i c_2, .l 4 c_3, .i c_4, .i c_5, .i c_6, .i c_7], .i kind, .l 1 runs, .i level] Q :=
  funS2 mixT1 Tryz.func11 (by kernel_rfl) (H := ⟨[], [], [], [], [], false, 64⟩) (n := 2) (by kernel_rfl) hh

/- r15.Whole -/
theorem S13 {c_0 : Int} {c_1 : List (List U)} {c_2 : Int} {c_3 : List (List U)} {c_4 : Int} {c_5 : Int} {c_6 : Int} {c_7 : Int} {runs : List (List U)} {level : Int} {Q : V → Mem → Prop} (hh : PRun Tryz.prog 26 [] [.a [.i c_0, .l 7 c_1, .i c_2, .l 4 c_3, .i c_4, .i c_5, .i c_6, .i c_7], .i 1, .i level, .l 2 []] (post [.I] [] (fun x1 => (bif x1 != 0 then Q (.t [.i 0, .i x1]) [] else PRun Tryz.prog 37 [] [.a [.i c_0, .l 7 c_1, .i c_2, .l 4 c_3, .i c_4, .i c_5, .i c_6, .i c_7], .l 1 runs] (post [.B] [] (fun b1 => (bif !b1 then Q (.t [.i 0, .i 1]) [] else ∃ (I1 : Int → Int → Prop) (f1 : Int → Int → Nat), I1 0 0 ∧ (∀ x2 : Int, ∀ x3 : Int, I1 x2 x3 → (bif decide (x3 < (List.length runs : Int)) then (bif decide (x3 < (List.length c_1 : Int)) then elL runs x3 (fun r1 => dI .i64 (ug r1 0) (fun x4 => (bif decide (x4 > 0) then elL c_1 x3 (fun r2 => dI .i64 (ug r2 0) (fun x5 => dI .i64 (ug r2 1) (fun x6 => dI .i64 (ug r2 2) (fun x7 => dL 2 (ug r2 3) (fun l1 => dI .i64 (ug r2 4) (fun x8 => dI .i64 (ug r2 5) (fun x9 => dI .i64 (ug r2 6) (fun x10 => elL runs x3 (fun r3 => dI .i64 (ug r3 0) (fun x11 => PRun Tryz.prog 40 [] [.a [.i x5, .i x6, .i x7, .l 2 l1, .i x8, .i x9, .i x10], .i level, .i x11] (post [.I, .I] [] (fun x12 x13 => (I1 (IntKind.wrap .i64 (x2 + x12)) (IntKind.wrap .i64 (x3 + 1)) ∧ f1 (IntKind.wrap .i64 (x2 + x12)) (IntKind.wrap .i64 (x3 + 1)) < f1 x2 x3 : Prop))))))))))))) else I1 x2 (IntKind.wrap .i64 (x3 + 1)) ∧ f1 x2 (IntKind.wrap .i64 (x3 + 1)) < f1 x2 x3))) else Q (.t [.i x2, .i 0]) []) else Q (.t [.i x2, .i 0]) [])) : Prop))) : Prop)))) : PRun Tryz.prog 13 [] [.a [.i c_0, .l 7 c_1, .i c_2, .l 4 c_3, .i c_4, .i c_5, .i c_6, .i c_7], .l 1 runs, .i level] Q :=
  funS2 mixT1 Tryz.func13 (by kernel_rfl) (H := ⟨[((13, 8, 1), ⟨[(9, .I), (10, .I)], []⟩)], [], [], [], [], false, 64⟩) (n := 2) (by kernel_rfl) hh

/- r15.Fits -/
theorem S15 {c_0 : Int} {c_1 : List (List U)} {c_2 : Int} {c_3 : List (List U)} {c_4 : Int} {c_5 : Int} {c_6 : Int} {c_7 : Int} {kind : Int} {n : Int} {level : Int} {raw : List (List U)} {runs : List (List U)} {Q : V → Mem → Prop} (hh : PRun Tryz.prog 26 [] [.a [.i c_0, .l 7 c_1, .i c_2, .l 4 c_3, .i c_4, .i c_5, .i c_6, .i c_7], .i kind, .i level, .l 2 raw] (post [.I] [] (fun x1 => (bif x1 != 0 then Q (.u (.b false)) [] else (bif decide (n < 1) then Q (.u (.b false)) [] else (bif decide (n > 1125899906842624) then Q (.u (.b false)) [] else PRun Tryz.prog 37 [] [.a [.i c_0, .l 7 c_1, .i c_2, .l 4 c_3, .i c_4, .i c_5, .i c_6, .i c_7], .l 1 runs] (post [.B] [] (fun b1 => (bif !b1 then Q (.u (.b false)) [] else ∃ (I1 : Int → Prop) (f1 : Int → Nat), I1 1 ∧ (∀ x2 : Int, I1 x2 → (bif decide (x2 ≤ c_0) then PRun Tryz.prog 28 [] [.l 2 raw, .i x2] (post [.I] [] (fun x3 => ∀ k1 : Int → Prop, (∀ x4 : Int, (∃ (I2 : Int → Int → Int → Prop) (f2 : Int → Int → Int → Nat), I2 x3 x4 0 ∧ (∀ x5 : Int, ∀ x6 : Int, ∀ x7 : Int, I2 x5 x6 x7 → (bif decide (x7 < (List.length runs : Int)) then (bif decide (x7 < (List.length c_1 : Int)) then elL runs x7 (fun r1 => dI .i64 (ug r1 0) (fun x8 => (bif x8 == 0 then I2 x5 x6 (IntKind.wrap .i64 (x7 + 1)) ∧ f2 x5 x6 (IntKind.wrap .i64 (x7 + 1)) < f2 x5 x6 x7 else ∀ k2 : Int → Prop, (∀ x9 : Int, (elL c_1 x7 (fun r2 => dI .i64 (ug r2 0) (fun x10 => dI .i64 (ug r2 1) (fun x11 => dI .i64 (ug r2 2) (fun x12 => dL 2 (ug r2 3) (fun l1 => dI .i64 (ug r2 4) (fun x13 => dI .i64 (ug r2 5) (fun x14 => dI .i64 (ug r2 6) (fun x15 => elL runs x7 (fun r3 => dI .i64 (ug r3 0) (fun x16 => PRun Tryz.prog 31 [] [.a [.i x10, .i x11, .i x12, .l 2 l1, .i x13, .i x14, .i x15], .i level, .i x16] (post [.L 2, .I] [] (fun l2 x17 => (bif x17 != 0 then Q (.u (.b false)) [] else PRun Tryz.prog 28 [] [.l 2 l2, .i x2] (post [.I] [] (fun x18 => (PRun Tryz.prog 44 [] [.i x6, .i x18] (post [.I, .I] [] (fun x19 x20 => (bif x20 != 0 then Q (.u (.b false)) [] else I2 x9 x19 (IntKind.wrap .i64 (x7 + 1)) ∧ f2 x9 x19 (IntKind.wrap .i64 (x7 + 1)) < f2 x5 x6 x7 : Prop))) : Prop))) : Prop)))))))))))))) → k2 x9) → elL c_1 x7 (fun r4 => dI .i64 (ug r4 0) (fun x21 => (bif x21 == x2 then elL runs x7 (fun r5 => dI .i64 (ug r5 0) (fun x22 => elL c_1 x7 (fun r6 => dI .i64 (ug r6 1) (fun x23 => k2 (IntKind.wrap .i64 (x5 + IntKind.wrap .i64 (x22 * x23))))))) else k2 x5)))))) else (bif decide (x5 < x6) then Q (.u (.b false)) [] else I1 (IntKind.wrap .i64 (x2 + 1)) ∧ f1 (IntKind.wrap .i64 (x2 + 1)) < f1 x2)) else (bif decide (x5 < x6) then Q (.u (.b false)) [] else I1 (IntKind.wrap .i64 (x2 + 1)) ∧ f1 (IntKind.wrap .i64 (x2 + 1)) < f1 x2)))) → k1 x4) → (bif x2 == kind then k1 n else k1 0))) else Q (.u (.b true)) [])) : Prop))))) : Prop)))) : PRun Tryz.prog 15 [] [.a [.i c_0, .l 7 c_1, .i c_2, .l 4 c_3, .i c_4, .i c_5, .i c_6, .i c_7], .i kind, .i n, .i level, .l 2 raw, .l 1 runs] Q :=
  funS2 mixT1 Tryz.func15 (by kernel_rfl) (H := ⟨[((15, 4, 1), ⟨[(13, .I)], []⟩), ((15, 10, 1), ⟨[(14, .I), (15, .I), (16, .I)], []⟩)], [((15, 9, 1), ⟨[(15, .I)], []⟩), ((15, 15, 1), ⟨[(14, .I)], []⟩)], [], [], [], false, 64⟩) (n := 2) (by kernel_rfl) hh

/- r15.may -/
theorem S26 {c_0 : Int} {c_1 : List (List U)} {c_2 : Int} {c_3 : List (List U)} {c_4 : Int} {c_5 : Int} {c_6 : Int} {c_7 : Int} {kind : Int} {level : Int} {l : List (List U)} {Q : V → Mem → Prop} (hh : PRun Tryz.prog 54 [] [.a [.i c_0, .l 7 c_1, .i c_2, .l 4 c_3, .i c_4, .i c_5, .i c_6, .i c_7]] (post [.I] [] (fun x1 => (bif x1 != 0 then Q (.i x1) [] else (bif decide (kind < 1) then Q (.i 1) [] else (bif decide (kind > c_0) then Q (.i 1) [] else (bif decide (level < 0) then Q (.i 1) [] else (bif decide (level > 10) then Q (.i 1) [] else PRun Tryz.prog 55 [] [.l 2 l, .i c_0] (post [.I] [] (fun x2 => (bif x2 != 0 then Q (.i 1) [] else Q (.i 0) [] : Prop))))))) : Prop)))) : PRun Tryz.prog 26 [] [.a [.i c_0, .l 7 c_1, .i c_2, .l 4 c_3, .i c_4, .i c_5, .i c_6, .i c_7], .i kind, .i level, .l 2 l] Q :=
  funS2 mixT1 Tryz.func26 (by kernel_rfl) (H := ⟨[], [], [], [], [], false, 64⟩) (n := 2) (by kernel_rfl) hh

/- r15.top -/
theorem S27 {c_0 : Int} {c_1 : List (List U)} {c_2 : Int} {c_3 : List (List U)} {c_4 : Int} {c_5 : Int} {c_6 : Int} {c_7 : Int} {Q : V → Mem → Prop} (hh : PRun Tryz.prog 57 [] [.a [.i c_0, .l 7 c_1, .i c_2, .l 4 c_3, .i c_4, .i c_5, .i c_6, .i c_7]] (post [.L 2] [] (fun l1 => (PRun Tryz.prog 56 [] [.i c_0, .l 2 l1] (post [.L 1, .I] [] (fun l2 x1 => ∃ (I1 : List (List U) → Int → Prop) (f1 : List (List U) → Int → Nat), I1 [] (IntKind.wrap .i64 ((List.length l2 : Int) - 1)) ∧ (∀ l3 : List (List U), ∀ x2 : Int, I1 l3 x2 → (bif decide (x2 ≥ 0) then elL l2 x2 (fun r1 => dI .i64 (ug r1 0) (fun x3 => apOk l3 [[.n x3]] ∧ (I1 (l3 ++ [[.n x3]]) (IntKind.wrap .i64 (x2 - 1)) ∧ f1 (l3 ++ [[.n x3]]) (IntKind.wrap .i64 (x2 - 1)) < f1 l3 x2))) else Q (.l 1 l3) [])))) : Prop)))) : PRun Tryz.prog 27 [] [.a [.i c_0, .l 7 c_1, .i c_2, .l 4 c_3, .i c_4, .i c_5, .i c_6, .i c_7]] Q :=
  funS2 mixT1 Tryz.func27 (by kernel_rfl) (H := ⟨[((27, 4, 1), ⟨[(5, .one (.ow 3 1)), (6, .I)], []⟩)], [], [], [], [], false, 64⟩) (n := 2) (by kernel_rfl) hh

/- r15.Runs -/
theorem S37 {c_0 : Int} {c_1 : List (List U)} {c_2 : Int} {c_3 : List (List U)} {c_4 : Int} {c_5 : Int} {c_6 : Int} {c_7 : Int} {l : List (List U)} {Q : V → Mem → Prop} (hh : ∃ (I1 : Int → Prop) (f1 : Int → Nat), I1 0 ∧ (∀ x1 : Int, I1 x1 → (bif decide (x1 < (List.length l : Int)) then elL l x1 (fun r1 => dI .i64 (ug r1 0) (fun x2 => (bif decide (x2 < 0) then Q (.u (.b false)) [] else elL l x1 (fun r2 => dI .i64 (ug r2 0) (fun x3 => (bif decide (x3 > 1000) then Q (.u (.b false)) [] else I1 (IntKind.wrap .i64 (x1 + 1)) ∧ f1 (IntKind.wrap .i64 (x1 + 1)) < f1 x1)))))) else Q (.u (.b ((List.length l : Int) == (List.length c_1 : Int)))) []))) : PRun Tryz.prog 37 [] [.a [.i c_0, .l 7 c_1, .i c_2, .l 4 c_3, .i c_4, .i c_5, .i c_6, .i c_7], .l 1 l] Q :=
  funS2 mixT1 Tryz.func37 (by kernel_rfl) (H := ⟨[((37, 2, 1), ⟨[(5, .I)], []⟩)], [], [], [], [], false, 64⟩) (n := 2) (by kernel_rfl) hh

/- r15.path -/
theorem S38 {c_0 : Int} {c_1 : List (List U)} {c_2 : Int} {c_3 : List (List U)} {c_4 : Int} {c_5 : Int} {c_6 : Int} {c_7 : Int} {kind : Int} {runs : List (List U)} {level : Int} {Q : V → Mem → Prop} (hh : PRun Tryz.prog 29 [] [.a [.i c_0, .l 7 c_1, .i c_2, .l 4 c_3, .i c_4, .i c_5, .i c_6, .i c_7], .i kind] (post [.I] [] (fun x1 => (bif x1 == 0 then Q (.i 0) [] else elL runs (IntKind.wrap .i64 (x1 - 1)) (fun r1 => dI .i64 (ug r1 0) (fun x2 => (bif x2 == 0 then Q (.i 0) [] else elL c_1 (IntKind.wrap .i64 (x1 - 1)) (fun r2 => dI .i64 (ug r2 0) (fun x3 => dI .i64 (ug r2 1) (fun x4 => dI .i64 (ug r2 2) (fun x5 => dL 2 (ug r2 3) (fun l1 => dI .i64 (ug r2 4) (fun x6 => dI .i64 (ug r2 5) (fun x7 => dI .i64 (ug r2 6) (fun x8 => ∃ (I1 : Int → Int → Prop) (f1 : Int → Int → Nat), I1 0 0 ∧ (∀ x9 : Int, ∀ x10 : Int, I1 x9 x10 → (bif decide (x10 < (List.length l1 : Int)) then elL l1 x10 (fun r3 => dI .i64 (ug r3 0) (fun x11 => PRun Tryz.prog 38 [] [.a [.i c_0, .l 7 c_1, .i c_2, .l 4 c_3, .i c_4, .i c_5, .i c_6, .i c_7], .i x11, .l 1 runs, .i level] (post [.I] [] (fun x12 => (I1 (if x12 > x9 then x12 else x9) (IntKind.wrap .i64 (x10 + 1)) ∧ f1 (if x12 > x9 then x12 else x9) (IntKind.wrap .i64 (x10 + 1)) < f1 x9 x10 : Prop))))) else elL runs (IntKind.wrap .i64 (x1 - 1)) (fun r4 => dI .i64 (ug r4 0) (fun x13 => PRun Tryz.prog 40 [] [.a [.i x3, .i x4, .i x5, .l 2 l1, .i x6, .i x7, .i x8], .i level, .i x13] (post [.I, .I] [] (fun x14 x15 => (Q (.i (IntKind.wrap .i64 (x14 + x9))) [] : Prop)))))))))))))))))) : Prop)))) : PRun Tryz.prog 38 [] [.a [.i c_0, .l 7 c_1, .i c_2, .l 4 c_3, .i c_4, .i c_5, .i c_6, .i c_7], .i kind, .l 1 runs, .i level] Q :=
  funS2 mixT1 Tryz.func38 (by kernel_rfl) (H := ⟨[((38, 7, 2), ⟨[(11, .I), (12, .I)], []⟩)], [], [], [], [], false, 64⟩) (n := 2) (by kernel_rfl) hh

/- bom.Path -/
theorem S10 {c_0 : Int} {c_1 : List (List U)} {c_2 : Int} {c_3 : List (List U)} {c_4 : Int} {c_5 : Int} {c_6 : Int} {c_7 : Int} {kind : Int} {runs : List (List U)} {level : Int} {Q : V → Mem → Prop} (hh : PRun Tryz.prog 35 [] [.a [.i c_0, .l 7 c_1, .i c_2, .l 4 c_3, .i c_4, .i c_5, .i c_6, .i c_7], .i kind, .l 1 runs, .i level] (post [.L 1, .I] [] (fun l1 x1 => (bif x1 != 0 then Q (.t [.i 0, .i x1]) [] else PRun Tryz.prog 20 [] [.a [.i c_0, .l 7 c_1, .i c_2, .l 4 c_3, .i c_4, .i c_5, .i c_6, .i c_7]] (post [.L 2] [] (fun l2 => (PRun Tryz.prog 19 [] [.i c_0, .l 2 l2] (post [.L 1, .I] [] (fun l3 x2 => ∃ (I1 : Int → List Int → Prop) (f1 : Int → List Int → Nat), I1 0 (List.replicate 33 0) ∧ (∀ x3 : Int, ∀ a1 : List Int, I1 x3 a1 → (bif decide (x3 < (List.length l3 : Int)) then elL l3 x3 (fun r1 => dI .i64 (ug r1 0) (fun x4 => PRun Tryz.prog 36 [] [.a [.i c_0, .l 7 c_1, .i c_2, .l 4 c_3, .i c_4, .i c_5, .i c_6, .i c_7], .i x4] (post [.I] [] (fun x5 => (bif x5 == 0 then I1 (IntKind.wrap .i64 (x3 + 1)) a1 ∧ f1 (IntKind.wrap .i64 (x3 + 1)) a1 < f1 x3 a1 else elL runs (IntKind.wrap .i64 (x5 - 1)) (fun r2 => dI .i64 (ug r2 0) (fun x6 => (bif x6 == 0 then I1 (IntKind.wrap .i64 (x3 + 1)) a1 ∧ f1 (IntKind.wrap .i64 (x3 + 1)) a1 < f1 x3 a1 else elL c_1 (IntKind.wrap .i64 (x5 - 1)) (fun r3 => dL 2 (ug r3 3) (fun l4 => ∃ (I2 : Int → List Int → Prop) (f2 : Int → List Int → Nat), I2 0 a1 ∧ (∀ x7 : Int, ∀ a2 : List Int, I2 x7 a2 → (bif decide (x7 < (List.length l4 : Int)) then elL l4 x7 (fun r4 => dI .i64 (ug r4 0) (fun x8 => dI .i64 (ug r4 1) (fun x9 => 0 ≤ x4 ∧ x4 < (33 : Int) ∧ (elL a2 x4 (fun x10 => 0 ≤ x8 ∧ x8 < (33 : Int) ∧ (elL a2 x8 (fun x11 => 0 ≤ x4 ∧ x4 < (33 : Int) ∧ (I2 (IntKind.wrap .i64 (x7 + 1)) (List.set a2 (Int.toNat x4) (if x11 > x10 then x11 else x10)) ∧ f2 (IntKind.wrap .i64 (x7 + 1)) (List.set a2 (Int.toNat x4) (if x11 > x10 then x11 else x10)) < f2 x7 a2)))))))) else 0 ≤ x4 ∧ x4 < (33 : Int) ∧ (elL a2 x4 (fun x12 => elL l1 (IntKind.wrap .i64 (x5 - 1)) (fun r5 => dI .i64 (ug r5 0) (fun x13 => 0 ≤ x4 ∧ x4 < (33 : Int) ∧ (I1 (IntKind.wrap .i64 (x3 + 1)) (List.set a2 (Int.toNat x4) (IntKind.wrap .i64 (x12 + x13))) ∧ f1 (IntKind.wrap .i64 (x3 + 1)) (List.set a2 (Int.toNat x4) (IntKind.wrap .i64 (x12 + x13))) < f1 x3 a1)))))))))))) : Prop))))) else 0 ≤ kind ∧ kind < (33 : Int) ∧ (elL a1 kind (fun x14 => Q (.t [.i x14, .i x2]) [])))))) : Prop))) : Prop)))) : PRun Tryz.prog 10 [] [.a [.i c_0, .l 7 c_1, .i c_2, .l 4 c_3, .i c_4, .i c_5, .i c_6, .i c_7], .i kind, .l 1 runs, .i level] Q :=
  funS2 mixT1 Tryz.func10 (by kernel_rfl) (H := ⟨[((10, 7, 2), ⟨[(40, .I)], [(1, .c [.n 33])]⟩), ((10, 12, 2), ⟨[(65, .I)], [(1, .c [.n 33])]⟩)], [], [], [], [], false, 64⟩) (n := 2) (by kernel_rfl) hh

/- bom.Whole -/
theorem S12 {c_0 : Int} {c_1 : List (List U)} {c_2 : Int} {c_3 : List (List U)} {c_4 : Int} {c_5 : Int} {c_6 : Int} {c_7 : Int} {runs : List (List U)} {level : Int} {Q : V → Mem → Prop} (hh : PRun Tryz.prog 35 [] [.a [.i c_0, .l 7 c_1, .i c_2, .l 4 c_3, .i c_4, .i c_5, .i c_6, .i c_7], .i 1, .l 1 runs, .i level] (post [.L 1, .I] [] (fun l1 x1 => (bif x1 != 0 then Q (.t [.i 0, .i x1]) [] else PRun Tryz.prog 39 [] [.l 1 l1] (post [.I, .I] [] (fun x2 x3 => (Q (.t [.i x2, .i x3]) [] : Prop))) : Prop)))) : PRun Tryz.prog 12 [] [.a [.i c_0, .l 7 c_1, .i c_2, .l 4 c_3, .i c_4, .i c_5, .i c_6, .i c_7], .l 1 runs, .i level] Q :=
  funS2 mixT1 Tryz.func12 (by kernel_rfl) (H := ⟨[], [], [], [], [], false, 64⟩) (n := 2) (by kernel_rfl) hh

/- bom.Fits -/
theorem S14 {c_0 : Int} {c_1 : List (List U)} {c_2 : Int} {c_3 : List (List U)} {c_4 : Int} {c_5 : Int} {c_6 : Int} {c_7 : Int} {kind : Int} {n : Int} {level : Int} {raw : List (List U)} {runs : List (List U)} {Q : V → Mem → Prop} (hh : PRun Tryz.prog 17 [] [.a [.i c_0, .l 7 c_1, .i c_2, .l 4 c_3, .i c_4, .i c_5, .i c_6, .i c_7], .i kind, .i level, .l 2 raw] (post [.I] [] (fun x1 => (bif x1 != 0 then Q (.u (.b false)) [] else PRun Tryz.prog 18 [] [.i n, .i 1, .i 1125899906842624] (post [.B] [] (fun b1 => (bif !b1 then Q (.u (.b false)) [] else PRun Tryz.prog 41 [] [.a [.i c_0, .l 7 c_1, .i c_2, .l 4 c_3, .i c_4, .i c_5, .i c_6, .i c_7], .l 1 runs] (post [.B] [] (fun b2 => (bif !b2 then Q (.u (.b false)) [] else 0 ≤ kind ∧ kind < (33 : Int) ∧ (∃ (I1 : Int → List Int → Prop) (f1 : Int → List Int → Nat), I1 0 (List.set (List.replicate 33 0) (Int.toNat kind) (IntKind.wrap .i64 (0 - n))) ∧ (∀ x2 : Int, ∀ a1 : List Int, I1 x2 a1 → (bif decide (x2 < (List.length raw : Int)) then elL raw x2 (fun r1 => dI .i64 (ug r1 0) (fun x3 => dI .i64 (ug r1 1) (fun x4 => 0 ≤ x3 ∧ x3 < (33 : Int) ∧ (elL a1 x3 (fun x5 => 0 ≤ x3 ∧ x3 < (33 : Int) ∧ (I1 (IntKind.wrap .i64 (x2 + 1)) (List.set a1 (Int.toNat x3) (IntKind.wrap .i64 (x5 + x4))) ∧ f1 (IntKind.wrap .i64 (x2 + 1)) (List.set a1 (Int.toNat x3) (IntKind.wrap .i64 (x5 + x4))) < f1 x2 a1)))))) else ∃ (I2 : Int → List Int → Prop) (f2 : Int → List Int → Nat), I2 0 a1 ∧ (∀ x6 : Int, ∀ a2 : List Int, I2 x6 a2 → (bif decide (x6 < (List.length runs : Int)) then elL runs x6 (fun r2 => dI .i64 (ug r2 0) (fun x7 => (bif x7 == 0 then I2 (IntKind.wrap .i64 (x6 + 1)) a2 ∧ f2 (IntKind.wrap .i64 (x6 + 1)) a2 < f2 x6 a2 else elL c_1 x6 (fun r3 => dI .i64 (ug r3 0) (fun x8 => dI .i64 (ug r3 1) (fun x9 => dI .i64 (ug r3 2) (fun x10 => dL 2 (ug r3 3) (fun l1 => dI .i64 (ug r3 4) (fun x11 => dI .i64 (ug r3 5) (fun x12 => dI .i64 (ug r3 6) (fun x13 => PRun Tryz.prog 42 [] [.a [.i x8, .i x9, .i x10, .l 2 l1, .i x11, .i x12, .i x13], .i level, .i x7] (post [.L 2, .I] [] (fun l2 x14 => (bif x14 != 0 then Q (.u (.b false)) [] else ∃ (I3 : Int → List Int → Prop) (f3 : Int → List Int → Nat), I3 0 a2 ∧ (∀ x15 : Int, ∀ a3 : List Int, I3 x15 a3 → (bif decide (x15 < (List.length l2 : Int)) then elL l2 x15 (fun r4 => dI .i64 (ug r4 0) (fun x16 => dI .i64 (ug r4 1) (fun x17 => 0 ≤ x16 ∧ x16 < (33 : Int) ∧ (elL a3 x16 (fun x18 => 0 ≤ x16 ∧ x16 < (33 : Int) ∧ (I3 (IntKind.wrap .i64 (x15 + 1)) (List.set a3 (Int.toNat x16) (IntKind.wrap .i64 (x18 - x17))) ∧ f3 (IntKind.wrap .i64 (x15 + 1)) (List.set a3 (Int.toNat x16) (IntKind.wrap .i64 (x18 - x17))) < f3 x15 a3)))))) else 0 ≤ x8 ∧ x8 < (33 : Int) ∧ (elL a3 x8 (fun x19 => 0 ≤ x8 ∧ x8 < (33 : Int) ∧ (I2 (IntKind.wrap .i64 (x6 + 1)) (List.set a3 (Int.toNat x8) (IntKind.wrap .i64 (x19 + IntKind.wrap .i64 (x9 * x7)))) ∧ f2 (IntKind.wrap .i64 (x6 + 1)) (List.set a3 (Int.toNat x8) (IntKind.wrap .i64 (x19 + IntKind.wrap .i64 (x9 * x7)))) < f2 x6 a2))))) : Prop)))))))))))))) else PRun Tryz.prog 43 [] [.l 1 (List.map numRow a2)] (post [.I] [] (fun x20 => (Q (.u (.b (decide (x20 ≥ 0)))) [] : Prop)))))))) : Prop))) : Prop))) : Prop)))) : PRun Tryz.prog 14 [] [.a [.i c_0, .l 7 c_1, .i c_2, .l 4 c_3, .i c_4, .i c_5, .i c_6, .i c_7], .i kind, .i n, .i level, .l 2 raw, .l 1 runs] Q :=
  funS2 mixT1 Tryz.func14 (by kernel_rfl) (H := ⟨[((14, 6, 2), ⟨[(46, .I)], [(1, .c [.n 33])]⟩), ((14, 11, 2), ⟨[(61, .I)], [(1, .c [.n 33])]⟩), ((14, 19, 3), ⟨[(84, .I)], [(1, .c [.n 33])]⟩)], [], [], [], [], false, 64⟩) (n := 2) (by kernel_rfl) hh

/- bom.checks -/
theorem S17 {c_0 : Int} {c_1 : List (List U)} {c_2 : Int} {c_3 : List (List U)} {c_4 : Int} {c_5 : Int} {c_6 : Int} {c_7 : Int} {kind : Int} {level : Int} {l : List (List U)} {Q : V → Mem → Prop} (hh : PRun Tryz.prog 45 [] [.a [.i c_0, .l 7 c_1, .i c_2, .l 4 c_3, .i c_4, .i c_5, .i c_6, .i c_7]] (post [.I] [] (fun x1 => (bif x1 != 0 then Q (.i x1) [] else PRun Tryz.prog 18 [] [.i kind, .i 1, .i c_0] (post [.B] [] (fun b1 => (bif !b1 then Q (.i 1) [] else PRun Tryz.prog 18 [] [.i level, .i 0, .i 10] (post [.B] [] (fun b2 => (bif !b2 then Q (.i 1) [] else PRun Tryz.prog 46 [] [.l 2 l, .i c_0] (post [.I] [] (fun x2 => (Q (.i x2) [] : Prop))) : Prop))) : Prop))) : Prop)))) : PRun Tryz.prog 17 [] [.a [.i c_0, .l 7 c_1, .i c_2, .l 4 c_3, .i c_4, .i c_5, .i c_6, .i c_7], .i kind, .i level, .l 2 l] Q :=
  funS2 mixT1 Tryz.func17 (by kernel_rfl) (H := ⟨[], [], [], [], [], false, 64⟩) (n := 2) (by kernel_rfl) hh

/- bom.plan.wants -/
theorem S51 {p_0 : Int} {p_1 : List (List U)} {p_2 : Int} {p_3 : List (List U)} {p_4 : Int} {p_5 : Int} {p_6 : Int} {p_7 : Int} {p_8 : Int} {p_9 : List Int} {p_10 : List (List U)} {p_11 : List (List U)} {p_12 : List (List U)} {s_0 : Int} {s_1 : Int} {Q : V → Mem → Prop} (hh : 0 ≤ s_0 ∧ s_0 < (33 : Int) ∧ (elL p_9 s_0 (fun x1 => PRun Tryz.prog 64 [] [.i x1, .i s_1] (post [.I, .I] [] (fun x2 x3 => (bif x3 != 0 then Q (.i 5) [.c [.i p_0, .l 7 p_1, .i p_2, .l 4 p_3, .i p_4, .i p_5, .i p_6, .i p_7, .i p_8, .n .i64 33 p_9, .l 2 p_10, .l 1 p_11, .l 2 p_12]] else (bif decide (x2 > 1125899906842624) then Q (.i 5) [.c [.i p_0, .l 7 p_1, .i p_2, .l 4 p_3, .i p_4, .i p_5, .i p_6, .i p_7, .i p_8, .n .i64 33 p_9, .l 2 p_10, .l 1 p_11, .l 2 p_12]] else 0 ≤ s_0 ∧ s_0 < (33 : Int) ∧ (Q (.i 0) [.c [.i p_0, .l 7 p_1, .i p_2, .l 4 p_3, .i p_4, .i p_5, .i p_6, .i p_7, .i p_8, .n .i64 33 (List.set p_9 (Int.toNat s_0) x2), .l 2 p_10, .l 1 p_11, .l 2 p_12]])) : Prop)))))) : PRun Tryz.prog 51 [.c [.i p_0, .l 7 p_1, .i p_2, .l 4 p_3, .i p_4, .i p_5, .i p_6, .i p_7, .i p_8, .n .i64 33 p_9, .l 2 p_10, .l 1 p_11, .l 2 p_12]] [.r 0 0, .a [.i s_0, .i s_1]] Q :=
  funS2 mixT1 Tryz.func51 (by kernel_rfl) (H := ⟨[], [], [], [], [], false, 64⟩) (n := 2) (by kernel_rfl) hh

/- bom.times -/
theorem S35 {c_0 : Int} {c_1 : List (List U)} {c_2 : Int} {c_3 : List (List U)} {c_4 : Int} {c_5 : Int} {c_6 : Int} {c_7 : Int} {kind : Int} {runs : List (List U)} {level : Int} {Q : V → Mem → Prop} (hh : PRun Tryz.prog 17 [] [.a [.i c_0, .l 7 c_1, .i c_2, .l 4 c_3, .i c_4, .i c_5, .i c_6, .i c_7], .i kind, .i level, .l 2 []] (post [.I] [] (fun x1 => (bif x1 != 0 then Q (.t [.l 1 [], .i x1]) [] else PRun Tryz.prog 41 [] [.a [.i c_0, .l 7 c_1, .i c_2, .l 4 c_3, .i c_4, .i c_5, .i c_6, .i c_7], .l 1 runs] (post [.B] [] (fun b1 => (bif !b1 then Q (.t [.l 1 [], .i 1]) [] else ∃ (I1 : List (List U) → Int → Prop) (f1 : List (List U) → Int → Nat), I1 [] 0 ∧ (∀ l1 : List (List U), ∀ x2 : Int, I1 l1 x2 → (bif decide (x2 < (List.length runs : Int)) then elL runs x2 (fun r1 => dI .i64 (ug r1 0) (fun x3 => (bif decide (x3 > 0) then elL c_1 x2 (fun r2 => dI .i64 (ug r2 0) (fun x4 => dI .i64 (ug r2 1) (fun x5 => dI .i64 (ug r2 2) (fun x6 => dL 2 (ug r2 3) (fun l2 => dI .i64 (ug r2 4) (fun x7 => dI .i64 (ug r2 5) (fun x8 => dI .i64 (ug r2 6) (fun x9 => PRun Tryz.prog 61 [] [.a [.i x4, .i x5, .i x6, .l 2 l2, .i x7, .i x8, .i x9], .i level, .i x3] (post [.I, .I] [] (fun x10 x11 => (apOk l1 [[.n x10]] ∧ (I1 (l1 ++ [[.n x10]]) (IntKind.wrap .i64 (x2 + 1)) ∧ f1 (l1 ++ [[.n x10]]) (IntKind.wrap .i64 (x2 + 1)) < f1 l1 x2) : Prop))))))))))) else apOk l1 [[.n 0]] ∧ (I1 (l1 ++ [[.n 0]]) (IntKind.wrap .i64 (x2 + 1)) ∧ f1 (l1 ++ [[.n 0]]) (IntKind.wrap .i64 (x2 + 1)) < f1 l1 x2)))) else Q (.t [.l 1 l1, .i 0]) [])) : Prop))) : Prop)))) : PRun Tryz.prog 35 [] [.a [.i c_0, .l 7 c_1, .i c_2, .l 4 c_3, .i c_4, .i c_5, .i c_6, .i c_7], .i kind, .l 1 runs, .i level] Q :=
  funS2 mixT1 Tryz.func35 (by kernel_rfl) (H := ⟨[((35, 8, 1), ⟨[(11, .one (.ow 3 1)), (28, .I)], []⟩)], [], [], [], [], false, 64⟩) (n := 2) (by kernel_rfl) hh

/- bom.areRuns -/
theorem S41 {c_0 : Int} {c_1 : List (List U)} {c_2 : Int} {c_3 : List (List U)} {c_4 : Int} {c_5 : Int} {c_6 : Int} {c_7 : Int} {l : List (List U)} {Q : V → Mem → Prop} (hh : bif (List.length l : Int) == (List.length c_1 : Int) then ∃ (I1 : Int → Prop) (f1 : Int → Nat), I1 0 ∧ (∀ x1 : Int, I1 x1 → (bif decide (x1 < (List.length l : Int)) then elL l x1 (fun r1 => dI .i64 (ug r1 0) (fun x2 => PRun Tryz.prog 18 [] [.i x2, .i 0, .i 1000] (post [.B] [] (fun b1 => (bif !b1 then Q (.u (.b (!(decide (x1 ≥ 0))))) [] else I1 (IntKind.wrap .i64 (x1 + 1)) ∧ f1 (IntKind.wrap .i64 (x1 + 1)) < f1 x1 : Prop))))) else Q (.u (.b true)) [])) else Q (.u (.b false)) []) : PRun Tryz.prog 41 [] [.a [.i c_0, .l 7 c_1, .i c_2, .l 4 c_3, .i c_4, .i c_5, .i c_6, .i c_7], .l 1 l] Q :=
  funS2 mixT1 Tryz.func41 (by kernel_rfl) (H := ⟨[((91, 2, 1), ⟨[(8, .I)], []⟩)], [], [65, 66, 91], [], [], false, 64⟩) (n := 5) (by kernel_rfl) hh

/- l15.plain -/
theorem S16 {Q : V → Mem → Prop} (hh : Q (.a [.i 3, .l 7 [[.n 2, .n 5, .n 10, .l 2 [[.n 1, .n 3]], .n 0, .n 0, .n 5], [.n 3, .n 1, .n 7, .l 2 [[.n 2, .n 2]], .n 0, .n 0, .n 5]], .i 1, .l 4 [], .i 1, .i 0, .i 0, .i 0]) []) : PRun Tryz.prog 16 [] [] Q :=
  funS2 mixT1 Tryz.func16 (by kernel_rfl) (H := ⟨[], [], [], [], [], false, 64⟩) (n := 2) (by kernel_rfl) hh

/- l15.BomExpands -/
theorem S3 {c_0 : Int} {c_1 : List (List U)} {c_2 : Int} {c_3 : List (List U)} {c_4 : Int} {c_5 : Int} {c_6 : Int} {c_7 : Int} {a_0 : Int} {a_1 : Int} {a_2 : Int} {have0 : List (List U)} {Q : V → Mem → Prop} (hh : PRun Tryz.prog 5 [] [.a [.i c_0, .l 7 c_1, .i c_2, .l 4 c_3, .i c_4, .i c_5, .i c_6, .i c_7]] (post [.B] [] (fun b1 => (bif !b1 then PRun Tryz.prog 6 [] [] (post [.B] [] (fun b2 => (Q (.u (.b b2)) [] : Prop))) else (bif decide ((List.length have0 : Int) > 12) then PRun Tryz.prog 6 [] [] (post [.B] [] (fun b3 => (Q (.u (.b b3)) [] : Prop))) else PRun Tryz.prog 7 [] [.a [.i c_0, .l 7 c_1, .i c_2, .l 4 c_3, .i c_4, .i c_5, .i c_6, .i c_7], .i a_0, .i a_1, .i a_2, .l 2 have0] (post [.agg [.l 2, .l 1, .l 2], .I] [] (fun l1 l2 l3 x1 => (PRun Tryz.prog 8 [] [.a [.i c_0, .l 7 c_1, .i c_2, .l 4 c_3, .i c_4, .i c_5, .i c_6, .i c_7], .i a_0, .i a_1, .i a_2, .l 2 have0] (post [.agg [.l 2, .l 1, .l 2], .I] [] (fun l4 l5 l6 x2 => (PRun Tryz.prog 9 [] [.a [.l 2 l1, .l 1 l2, .l 2 l3], .a [.l 2 l4, .l 1 l5, .l 2 l6]] (post [.B] [] (fun b4 => (bif b4 then (bif x1 == x2 then PRun Tryz.prog 6 [] [] (post [.B] [] (fun b5 => (Q (.u (.b b5)) [] : Prop))) else Q (.u (.b false)) []) else Q (.u (.b false)) [] : Prop))) : Prop))) : Prop)))) : Prop)))) : PRun Tryz.prog 3 [] [.a [.i c_0, .l 7 c_1, .i c_2, .l 4 c_3, .i c_4, .i c_5, .i c_6, .i c_7], .a [.i a_0, .i a_1, .i a_2], .l 2 have0] Q :=
  funS2 mixT1 Tryz.func3 (by kernel_rfl) (H := ⟨[], [], [], [], [], false, 64⟩) (n := 2) (by kernel_rfl) hh

/- l15.BomTakes -/
theorem S4 {c_0 : Int} {c_1 : List (List U)} {c_2 : Int} {c_3 : List (List U)} {c_4 : Int} {c_5 : Int} {c_6 : Int} {c_7 : Int} {a_0 : Int} {a_1 : Int} {a_2 : Int} {rest_0 : List (List U)} {rest_1 : List (List U)} {Q : V → Mem → Prop} (hh : PRun Tryz.prog 5 [] [.a [.i c_0, .l 7 c_1, .i c_2, .l 4 c_3, .i c_4, .i c_5, .i c_6, .i c_7]] (post [.B] [] (fun b1 => (bif !b1 then PRun Tryz.prog 6 [] [] (post [.B] [] (fun b2 => (Q (.u (.b b2)) [] : Prop))) else (bif decide ((List.length rest_0 : Int) > 20) then PRun Tryz.prog 6 [] [] (post [.B] [] (fun b3 => (Q (.u (.b b3)) [] : Prop))) else (bif decide ((List.length rest_1 : Int) > 12) then PRun Tryz.prog 6 [] [] (post [.B] [] (fun b4 => (Q (.u (.b b4)) [] : Prop))) else PRun Tryz.prog 10 [] [.a [.i c_0, .l 7 c_1, .i c_2, .l 4 c_3, .i c_4, .i c_5, .i c_6, .i c_7], .i a_0, .l 1 rest_0, .i a_2] (post [.I, .I] [] (fun x1 x2 => (PRun Tryz.prog 11 [] [.a [.i c_0, .l 7 c_1, .i c_2, .l 4 c_3, .i c_4, .i c_5, .i c_6, .i c_7], .i a_0, .l 1 rest_0, .i a_2] (post [.I, .I] [] (fun x3 x4 => (PRun Tryz.prog 12 [] [.a [.i c_0, .l 7 c_1, .i c_2, .l 4 c_3, .i c_4, .i c_5, .i c_6, .i c_7], .l 1 rest_0, .i a_2] (post [.I, .I] [] (fun x5 x6 => (PRun Tryz.prog 13 [] [.a [.i c_0, .l 7 c_1, .i c_2, .l 4 c_3, .i c_4, .i c_5, .i c_6, .i c_7], .l 1 rest_0, .i a_2] (post [.I, .I] [] (fun x7 x8 => (bif x1 == x3 then (bif x2 == x4 then (bif x5 == x7 then (bif x6 == x8 then PRun Tryz.prog 14 [] [.a [.i c_0, .l 7 c_1, .i c_2, .l 4 c_3, .i c_4, .i c_5, .i c_6, .i c_7], .i a_0, .i a_1, .i a_2, .l 2 rest_1, .l 1 rest_0] (post [.B] [] (fun b5 => (PRun Tryz.prog 15 [] [.a [.i c_0, .l 7 c_1, .i c_2, .l 4 c_3, .i c_4, .i c_5, .i c_6, .i c_7], .i a_0, .i a_1, .i a_2, .l 2 rest_1, .l 1 rest_0] (post [.B] [] (fun b6 => (bif b5 == b6 then PRun Tryz.prog 6 [] [] (post [.B] [] (fun b7 => (Q (.u (.b b7)) [] : Prop))) else Q (.u (.b false)) [] : Prop))) : Prop))) else Q (.u (.b false)) []) else Q (.u (.b false)) []) else Q (.u (.b false)) []) else Q (.u (.b false)) [] : Prop))) : Prop))) : Prop))) : Prop))))) : Prop)))) : PRun Tryz.prog 4 [] [.a [.i c_0, .l 7 c_1, .i c_2, .l 4 c_3, .i c_4, .i c_5, .i c_6, .i c_7], .a [.i a_0, .i a_1, .i a_2], .a [.l 1 rest_0, .l 2 rest_1]] Q :=
  funS2 mixT1 Tryz.func4 (by kernel_rfl) (H := ⟨[], [], [], [], [], false, 64⟩) (n := 2) (by kernel_rfl) hh

/- catalog.in -/
theorem S96 {n : Int} {from0 : Int} {to0 : Int} {Q : V → Mem → Prop} (hh : bif decide (n ≥ from0) then Q (.u (.b (decide (n ≤ to0)))) [] else Q (.u (.b false)) []) : PRun Tryz.prog 96 [] [.i n, .i from0, .i to0] Q :=
  funS2 mixT1 Tryz.func96 (by kernel_rfl) (H := ⟨[], [], [], [], [], false, 64⟩) (n := 2) (by kernel_rfl) hh

/- calc.Add -/
theorem S64 {a : Int} {b : Int} {Q : V → Mem → Prop} (hh : bif decide (a ≥ 0) == decide (b ≥ 0) then (bif !(decide (IntKind.wrap .i64 (a + b) ≥ 0) == decide (a ≥ 0)) then Q (.t [.i 0, .i 5]) [] else Q (.t [.i (IntKind.wrap .i64 (a + b)), .i 0]) []) else Q (.t [.i (IntKind.wrap .i64 (a + b)), .i 0]) []) : PRun Tryz.prog 64 [] [.i a, .i b] Q :=
  funS2 mixT1 Tryz.func64 (by kernel_rfl) (H := ⟨[], [], [], [], [], false, 64⟩) (n := 2) (by kernel_rfl) hh

/- recipe.fits -/
theorem S93 {l : List (List U)} {Q : V → Mem → Prop} (hh : ∃ (I1 : Int → Prop) (f1 : Int → Nat), I1 0 ∧ (∀ x1 : Int, I1 x1 → (bif decide (x1 < (List.length l : Int)) then elL l x1 (fun r1 => dI .i64 (ug r1 0) (fun x2 => dI .i64 (ug r1 1) (fun x3 => dI .i64 (ug r1 2) (fun x4 => (bif decide (x2 < x3) then Q (.u (.b false)) [] else (bif decide (x2 > x4) then Q (.u (.b false)) [] else I1 (IntKind.wrap .i64 (x1 + 1)) ∧ f1 (IntKind.wrap .i64 (x1 + 1)) < f1 x1)))))) else Q (.u (.b true)) []))) : PRun Tryz.prog 93 [] [.l 3 l] Q :=
  funS2 mixT1 Tryz.func93 (by kernel_rfl) (H := ⟨[((93, 2, 0), ⟨[(7, .I)], []⟩)], [], [], [], [], false, 64⟩) (n := 2) (by kernel_rfl) hh

/- recipe.Check -/
theorem S92 {b_0 : Int} {b_1 : Int} {b_2 : Int} {b_3 : List (List U)} {b_4 : Int} {b_5 : Int} {b_6 : Int} {types : Int} {Q : V → Mem → Prop} (hh : PRun Tryz.prog 93 [] [.l 3 [[.n types, .n 0, .n 32], [.n b_0, .n 1, .n types], [.n b_1, .n 1, .n 1048576], [.n b_2, .n 1, .n 1048576], [.n b_4, .n 0, .n 1048576], [.n b_5, .n 0, .n 1048576], [.n b_6, .n 1, .n 1000]]] (post [.B] [] (fun b1 => (bif !b1 then Q (.i 1) [] else PRun Tryz.prog 46 [] [.l 2 b_3, .i types] (post [.I] [] (fun x1 => (bif x1 != 0 then Q (.i 1) [] else PRun Tryz.prog 22 [] [.l 2 b_3, .i b_0] (post [.I] [] (fun x2 => (bif decide (x2 > 0) then Q (.i 1) [] else Q (.i 0) [] : Prop))) : Prop))) : Prop)))) : PRun Tryz.prog 92 [] [.a [.i b_0, .i b_1, .i b_2, .l 2 b_3, .i b_4, .i b_5, .i b_6], .i types] Q :=
  funS2 mixT1 Tryz.func92 (by kernel_rfl) (H := ⟨[], [], [], [], [], false, 64⟩) (n := 2) (by kernel_rfl) hh

/- r12.Check -/
theorem S58 {b_0 : Int} {b_1 : Int} {b_2 : Int} {b_3 : List (List U)} {b_4 : Int} {b_5 : Int} {b_6 : Int} {types : Int} {Q : V → Mem → Prop} (hh : PRun Tryz.prog 59 [] [.i types, .i 0, .i 32] (post [.B] [] (fun b1 => (bif !b1 then Q (.i 1) [] else PRun Tryz.prog 59 [] [.i b_0, .i 1, .i types] (post [.B] [] (fun b2 => (bif !b2 then Q (.i 1) [] else PRun Tryz.prog 59 [] [.i b_1, .i 1, .i 1048576] (post [.B] [] (fun b3 => (bif !b3 then Q (.i 1) [] else PRun Tryz.prog 59 [] [.i b_2, .i 1, .i 1048576] (post [.B] [] (fun b4 => (bif !b4 then Q (.i 1) [] else PRun Tryz.prog 59 [] [.i b_4, .i 0, .i 1048576] (post [.B] [] (fun b5 => (bif !b5 then Q (.i 1) [] else PRun Tryz.prog 59 [] [.i b_5, .i 0, .i 1048576] (post [.B] [] (fun b6 => (bif !b6 then Q (.i 1) [] else PRun Tryz.prog 59 [] [.i b_6, .i 1, .i 1000] (post [.B] [] (fun b7 => (bif !b7 then Q (.i 1) [] else PRun Tryz.prog 55 [] [.l 2 b_3, .i types] (post [.I] [] (fun x1 => (bif x1 != 0 then Q (.i 1) [] else PRun Tryz.prog 28 [] [.l 2 b_3, .i b_0] (post [.I] [] (fun x2 => (bif decide (x2 > 0) then Q (.i 1) [] else Q (.i 0) [] : Prop))) : Prop))) : Prop))) : Prop))) : Prop))) : Prop))) : Prop))) : Prop))) : Prop)))) : PRun Tryz.prog 58 [] [.a [.i b_0, .i b_1, .i b_2, .l 2 b_3, .i b_4, .i b_5, .i b_6], .i types] Q :=
  funS2 mixT1 Tryz.func58 (by kernel_rfl) (H := ⟨[], [], [], [], [], false, 64⟩) (n := 2) (by kernel_rfl) hh

/- catalog.Maker -/
theorem S36 {c_0 : Int} {c_1 : List (List U)} {c_2 : Int} {c_3 : List (List U)} {c_4 : Int} {c_5 : Int} {c_6 : Int} {c_7 : Int} {kind : Int} {Q : V → Mem → Prop} (hh : ∃ (I1 : Int → Prop) (f1 : Int → Nat), I1 0 ∧ (∀ x1 : Int, I1 x1 → (bif decide (x1 < (List.length c_1 : Int)) then elL c_1 x1 (fun r1 => dI .i64 (ug r1 0) (fun x2 => dI .i64 (ug r1 1) (fun x3 => dI .i64 (ug r1 2) (fun x4 => dL 2 (ug r1 3) (fun l1 => dI .i64 (ug r1 4) (fun x5 => dI .i64 (ug r1 5) (fun x6 => dI .i64 (ug r1 6) (fun x7 => (bif x2 == kind then Q (.i (IntKind.wrap .i64 (x1 + 1))) [] else I1 (IntKind.wrap .i64 (x1 + 1)) ∧ f1 (IntKind.wrap .i64 (x1 + 1)) < f1 x1))))))))) else Q (.i 0) []))) : PRun Tryz.prog 36 [] [.a [.i c_0, .l 7 c_1, .i c_2, .l 4 c_3, .i c_4, .i c_5, .i c_6, .i c_7], .i kind] Q :=
  funS2 mixT1 Tryz.func36 (by kernel_rfl) (H := ⟨[((62, 2, 2), ⟨[(8, .I)], []⟩)], [], [62, 63], [], [], false, 64⟩) (n := 4) (by kernel_rfl) hh

/- r14.Maker -/
theorem S29 {c_0 : Int} {c_1 : List (List U)} {c_2 : Int} {c_3 : List (List U)} {c_4 : Int} {c_5 : Int} {c_6 : Int} {c_7 : Int} {kind : Int} {Q : V → Mem → Prop} (hh : ∃ (I1 : Int → Prop) (f1 : Int → Nat), I1 0 ∧ (∀ x1 : Int, I1 x1 → (bif decide (x1 < (List.length c_1 : Int)) then elL c_1 x1 (fun r1 => dI .i64 (ug r1 0) (fun x2 => (bif x2 == kind then Q (.i (IntKind.wrap .i64 (x1 + 1))) [] else I1 (IntKind.wrap .i64 (x1 + 1)) ∧ f1 (IntKind.wrap .i64 (x1 + 1)) < f1 x1))) else Q (.i 0) []))) : PRun Tryz.prog 29 [] [.a [.i c_0, .l 7 c_1, .i c_2, .l 4 c_3, .i c_4, .i c_5, .i c_6, .i c_7], .i kind] Q :=
  funS2 mixT1 Tryz.func29 (by kernel_rfl) (H := ⟨[((29, 2, 1), ⟨[(5, .I)], []⟩)], [], [], [], [], false, 64⟩) (n := 2) (by kernel_rfl) hh

/- r12.up -/
theorem S60 {n : Int} {by0 : Int} {Q : V → Mem → Prop} (hh : by0 ≠ 0 ∧ (Q (.i (IntKind.wrap .i64 (Int.tdiv (IntKind.wrap .i64 (IntKind.wrap .i64 (n + by0) - 1)) by0))) [])) : PRun Tryz.prog 60 [] [.i n, .i by0] Q :=
  funS2 mixT1 Tryz.func60 (by kernel_rfl) (H := ⟨[], [], [], [], [], false, 64⟩) (n := 2) (by kernel_rfl) hh

end Go.Proofs.YtljgfkiiikcaaaaGreat

/- Stacks and blueprints, by the symbolic engine: checks, counts. -/
set_option linter.unusedVariables false
namespace Go.Proofs.YtljgfkiiikcaaaaGreat
open Go Go.Proofs
variable {Q : V → Mem → Prop}

def eS (x : Stk) : List U := [.n x.1, .n x.2]
abbrev Bd := Int × Int × Int
def eF (x : Bd) : List U := [.n x.1, .n x.2.1, .n x.2.2]
def inn (n a b : Int) : Bool := decide (a ≤ n ∧ n ≤ b)
theorem inn_iff {n a b : Int} : inn n a b = true ↔ a ≤ n ∧ n ≤ b := by simp [inn]
theorem inn_c {n a b : Int} (k : Q (.u (.b (inn n a b))) []) : bif decide (n ≥ a) then Q (.u (.b (decide (n ≤ b)))) [] else Q (.u (.b false)) [] := by
  refine cIf (fun h1 => ?_) fun h1 => ?_
  · have : inn n a b = decide (n ≤ b) := by unfold inn; simp [show a ≤ n from h1]
    rwa [← this]
  · have : inn n a b = false := by unfold inn; simp [show ¬ a ≤ n from h1]
    rwa [← this]
section
variable {n a b : Int}
theorem in1_S (k : Q (.u (.b (inn n a b))) []) : PRun Tryz.prog 18 [] [.i n, .i a, .i b] Q := S18 (inn_c k)
theorem in2_S (k : Q (.u (.b (inn n a b))) []) : PRun Tryz.prog 96 [] [.i n, .i a, .i b] Q := S96 (inn_c k)
theorem in3_S (k : Q (.u (.b (inn n a b))) []) : PRun Tryz.prog 59 [] [.i n, .i a, .i b] Q := S59 (inn_c k)
theorem in4_S (k : Q (.u (.b (inn n a b))) []) : PRun Tryz.prog 86 [] [.i n, .i a, .i b] Q := S86 (inn_c k)
end
def inAll (l : List Bd) : Bool := l.all fun x => inn x.1 x.2.1 x.2.2
theorem fits_S {L : List Bd} (hL : L.length ≤ 1000000) (k : Q (.u (.b (inAll L))) []) : PRun Tryz.prog 93 [] [.l 3 (L.map eF)] Q := by
  refine S93 ⟨SufI L fun l => Q (.u (.b (inAll l))) [], SufM L, .zero (by omega) k, ?_⟩
  rintro x ⟨_ | ⟨a, l⟩, s, k⟩
  · rw [s.d0]; exact k
  · simp only [s.d1, s.el, eF, ug0, ugs, dI_n, cond_true]
    rw [show inAll (a :: l) = (inn a.1 a.2.1 a.2.2 && inAll l) from rfl] at k
    refine cIf (fun h1 => ?_) fun h1 => cIf (fun h2 => ?_) fun h2 => s.step ?_
    iterate 2 rwa [show inn a.1 a.2.1 a.2.2 = false from decide_eq_false (by omega)] at k
    rwa [show inn a.1 a.2.1 a.2.2 = true from decide_eq_true (by omega)] at k
/-- May stacks be those of a list? -/
def chkL (types : Int) : Int → List Stk → Bool
  | _, [] => true
  | last, s :: l => decide (last < s.1 ∧ s.1 ≤ types ∧ 1 ≤ s.2 ∧ s.2 ≤ 1125899906842624) && chkL types s.1 l
def chkE (l : List Stk) (types : Int) : Int := if chkL types 0 l = true ∧ l.length ≤ 8 then 0 else 1
theorem pCheck_S {L : List Stk} {types : Int} (hL : L.length ≤ 1000000) (k : Q (.i (chkE L types)) []) : PRun Tryz.prog 46 [] [.l 2 (L.map eS), .i types] Q := by
  refine S46 ⟨fun last x => SufI L (fun l => chkL types 0 L = chkL types last l) x, fun _ => SufM L, .zero (by omega) rfl, ?_⟩
  rintro last x ⟨_ | ⟨a, l⟩, s, k2⟩
  · rw [s.d0, List.length_map]
    refine cIf (fun h => ?_) fun h => ?_
    · simpa [chkE, show ¬ L.length ≤ 8 by omega] using k
    · simpa [chkE, k2, chkL, show L.length ≤ 8 by omega] using k
  · simp only [s.d1, s.el, eS, ug0, ugs, dI_n, cond_true]
    have bad : chkL types last (a :: l) = false → Q (.i 1) [] := fun h => by simpa [chkE, k2, h] using k
    refine cIf (fun h => ?_) fun h1 => cIf (fun h => ?_) fun h2 => cIf (fun h => ?_) fun h3 => cIf (fun h => ?_) fun h4 => s.step ?_
    iterate 4 exact bad (by simp only [chkL, Bool.and_eq_false_iff, decide_eq_false_iff_not]; omega)
    rw [k2, chkL, decide_eq_true (by omega), Bool.true_and]
end Go.Proofs.YtljgfkiiikcaaaaGreat

/- Stacks: the document's Norm, Same, Count, Check, by the symbolic engine. -/
set_option linter.unusedVariables false
namespace Go.Proofs.YtljgfkiiikcaaaaGreat
open Go Go.Proofs
variable {Q : V → Mem → Prop}

theorem apOk_l {a b : List (List U)} (h : a.length + b.length ≤ 1000000) : apOk a b := h
theorem refNorm_S {L : List Stk} (hr : rng L) (hL : L.length ≤ 100000) (k : ∀ r e, NormP L e r → Q (.t [.l 2 (r.map eS), .i e]) []) : PRun Tryz.prog 32 [] [.l 2 (L.map eS)] Q := by
  refine S32 ⟨AtI L fun t _ => good t, SufM L, .zero (by omega) (by intro s hs; cases hs), ?_⟩
  rintro x ⟨t, _ | ⟨a, l⟩, s, hg⟩
  case cons =>
    simp only [s.d1, s.el, eS, ug0, ugs, dI_n, cond_true]
    have bad : ¬ good L → Q (.t [.l 2 [], .i 1]) [] := fun h => k [] 1 ⟨(errN_bad h).symm, by simp, fun _ => rfl⟩
    have ha : a ∈ L := by rw [s.e]; simp
    refine cIf (fun h => bad fun hgl => ?_) fun h1 => cIf (fun h => bad fun hgl => ?_) fun h2 => s.step ?_
    iterate 2 have := hgl a ha; omega
    exact good_append.2 ⟨hg, fun u hu => by simp at hu; subst hu; omega⟩
  have hg : good L := by rwa [s.all] at hg
  rw [s.d0]
  refine ⟨fun q x => ∃ r, q = r.map eS ∧ RefN L r x, fun _ x => (L.filter (fun s => decide (x < s.1))).length, ⟨[], rfl, .start hg⟩, ?_⟩
  rintro _ x ⟨r, rfl, inv⟩
  have hlen := inv.len
  have hpos := inv.pos
  refine ⟨fun y z => AtI L (fun t _ => LeastT t x y) z, fun _ => SufM L, .zero (by omega) (.start x), ?_⟩
  rintro y z ⟨t, _ | ⟨a, l⟩, s, hy⟩
  case cons =>
    simp only [s.d1, s.el, eS, ug0, ugs, dI_n, cond_true]
    refine cIf (fun hb => cEq (fun h0 => s.step ?_) fun h0 => cIf (fun hb2 => s.step (hy.less h0 hb hb2)) fun hb2 => s.step (hy.more h0 (by omega))) fun hb => s.step (hy.low (by omega))
    subst h0; exact hy.first hpos hb
  rw [s.all] at hy
  rw [s.d0]
  refine cEq (fun h0 => ?_) (fun h0 => ?_)
  · subst h0
    obtain ⟨h1, h2⟩ := inv.stop hy
    exact k r 0 ⟨(errN_ok hg h2).symm, fun _ => h1, fun h => absurd rfl h⟩
  have hM : MaxQ = 1125899906842624 := rfl
  refine ⟨fun q z => AtI L (fun t _ => q = tot t y ∧ q ≤ MaxQ) z, fun _ => SufM L, .zero (by omega) ⟨rfl, by decide⟩, ?_⟩
  rintro _ z ⟨t, _ | ⟨a, l⟩, s, rfl, ht⟩
  case cons =>
    have hgt : good t := fun u hu => hg u (by rw [s.e]; simp [hu])
    have ht0 := tot_nonneg hgt y
    have ha : a ∈ L := by rw [s.e]; simp
    have hga := hg a ha
    have hra := hr a ha
    simp only [s.d1, s.el, eS, ug0, ugs, dI_n, cond_true]
    have hsn : tot (t ++ [a]) y = tot t y + if a.1 = y then a.2 else 0 := tot_snoc ..
    rw [w64 (x := 1125899906842624 - tot t y) (by omega) (by omega)]
    refine cEq (fun he => ?_) (fun he => ?_)
    · rw [if_pos he] at hsn
      refine cIf (fun ho => ?_) (fun ho => ?_)
      · refine k [] 5 ⟨(errN_over hg ⟨a, ha, ?_⟩).symm, by simp, fun _ => rfl⟩
        rw [he, s.e, show t ++ a :: l = (t ++ [a]) ++ l by simp, tot_append, hsn]
        have := tot_nonneg (l := l) (fun u hu => hg u (by rw [s.e]; simp [hu])) y
        omega
      · rw [w64 (x := tot t y + a.2) (by omega) (by omega)]
        exact s.step ⟨hsn.symm, by omega⟩
    · rw [if_neg he, Int.add_zero] at hsn
      exact s.step ⟨hsn.symm, ht⟩
  rw [s.all] at ht ⊢
  rw [s.d0]
  have hstep := inv.step hg h0 hy ht
  have hdec : (L.filter (fun s => decide (y < s.1))).length < (L.filter (fun s => decide (x < s.1))).length := by
    rcases hy with ⟨h, -⟩ | ⟨ha, hb, -⟩
    · exact absurd h h0
    · exact filter_lt ha hb
  refine cIf (fun hp => ?_) (fun hp => ?_)
  · rw [if_pos hp] at hstep
    exact ⟨apOk_l (by simp; omega), ⟨_, by rw [List.map_append]; rfl, hstep⟩, hdec⟩
  · rw [if_neg hp] at hstep
    exact ⟨⟨r, rfl, hstep⟩, hdec⟩
theorem eS_inj {a b : Stk} : eS a = eS b ↔ a = b := by
  obtain ⟨a1, a2⟩ := a; obtain ⟨b1, b2⟩ := b
  simp [eS]
end Go.Proofs.YtljgfkiiikcaaaaGreat

/- How many there are of a type: goods.Count, from the old reading to the symbolic engine's. -/
set_option linter.unusedVariables false
namespace Go.Proofs.YtljgfkiiikcaaaaGreat
open Go Go.Proofs
attribute [local irreducible] appK copyK delK updK lookK makeK rangeK nextM entryM mapEntryK entryStK lenMapK
def CountR (h : Heap) (l : List Stk) (k : Int) (v : Value) (h' : Heap) : Prop := ∃ x : Int, v = .int .i64 x ∧ Keep h h' ∧ x = if errN l = 0 then tot l k else 0
theorem count_spec {h : Heap} {a : Option Addr} {n c : Nat} {l : List Stk} (s : Sl h a n c l) (hr : rng l) (hn : n ≤ 1000) (k : Int) : Run Tryz.prog 22 [.slice a n c, .int .i64 k] h (CountR h l k) := by
  refine V22 _ _ _ _ _ _ ?_
  unfold VC22
  refine (counts_spec s hr hn).mono ?_
  rintro v h1 ⟨r, m, e, rfl, hm, k1, -, he, h0, h1'⟩
  refine ⟨_, _, rfl, ?_⟩
  refine cNe (fun hz => ⟨0, rfl, k1, by rw [if_neg (he ▸ hz)]⟩) fun hz => ?_
  obtain ⟨hcm, -⟩ := h0 hz
  refine lookM hm fun _ => ⟨_, rfl, _, rfl, k1, ?_⟩
  rw [if_pos (he ▸ hz), hcm.tots]
noncomputable def cntN (l : List Stk) (k : Int) : Int := if errN l = 0 then tot l k else 0
/-- A run that only lays new blocks. -/
theorem PRun.keep {P : Program} {g : FuncId} {args : List V} {Q : V → Mem → Prop}
    (hh : ∀ (D : Fz) (C : List Chunk) (h : Heap) (vs : List Value), St D C h → RpL D [] vs args → Run P g vs h fun v h' => Keep h h' ∧ ∃ x, Rp D [] v x ∧ Q x []) : PRun P g [] args Q := by
  intro D ρ chs C h vs M F
  have h1 : ρ = [] := List.eq_nil_of_length_eq_zero M.len
  have h2 : chs = [] := List.eq_nil_of_length_eq_zero M.lch
  subst h1; subst h2
  refine (hh D C h vs (by simpa using M.st) F).mono ?_
  rintro v h' ⟨k, x, hx, hQ⟩
  exact ⟨D, [], [], x, [], .refl _, ⟨rfl, rfl, fun i L ab ch h => (by simp at h), by simpa using (show St D C h by simpa using M.st).keep k⟩, hx, hQ⟩
theorem RpL.one {D : Fz} {ρ : List Loc} {vs : List Value} {x : V} (h : RpL D ρ vs [x]) : ∃ v, vs = [v] ∧ Rp D ρ v x := by
  cases h with | cons a b => cases b; exact ⟨_, rfl, a⟩
theorem RpL.two {D : Fz} {ρ : List Loc} {vs : List Value} {x y : V} (h : RpL D ρ vs [x, y]) : ∃ v w, vs = [v, w] ∧ Rp D ρ v x ∧ Rp D ρ w y := by
  cases h with | cons a b => cases b with | cons b c => cases c; exact ⟨_, _, rfl, a, b⟩
theorem Rp.u_inv {D : Fz} {ρ : List Loc} {v : Value} {x : U} (h : Rp D ρ v (.u x)) : Rd D v x := by cases h; assumption
theorem Rd.sl {D : Fz} {C : List Chunk} {h : Heap} {v : Value} {L : List Stk} (hx : Rd D v (.l 2 (L.map eS))) (S : St D C h) : ∃ a c, v = .slice a L.length c ∧ Sl h a L.length c L := by
  obtain ⟨a, c, rfl, hle, -⟩ := hx.shape
  have hs := (hx.src S).2
  rw [List.length_map] at hle ⊢
  refine ⟨a, c, rfl, rfl, hle, fun i x hi => ?_⟩
  have hr : (L.map eS)[i]? = some (eS x) := by simp [hi]
  rcases hs with h0 | ⟨b, o, w, rfl, hc⟩
  · rw [h0] at hr; simp at hr
  refine ⟨b, o, rfl, fun j v hv => ?_⟩
  match j, hv with
  | 0, hv => simp [encS] at hv; subst hv; obtain ⟨h1, h2⟩ := hc i 0 _ _ hr rfl; rw [Rd.int_iff.1 h2] at h1; exact h1
  | 1, hv => simp [encS] at hv; subst hv; obtain ⟨h1, h2⟩ := hc i 1 _ _ hr rfl; rw [Rd.int_iff.1 h2] at h1; exact h1
theorem pCount_S {Q : V → Mem → Prop} {L : List Stk} {x : Int} (hr : rng L) (hL : L.length ≤ 1000) (k : Q (.i (cntN L x)) []) : PRun Tryz.prog 22 [] [.l 2 (L.map eS), .i x] Q := by
  refine .keep fun D C h vs S F => ?_
  obtain ⟨v, w, rfl, h1, h2⟩ := F.two
  obtain ⟨a, c, rfl, s⟩ := h1.u_inv.sl S
  rw [Rd.int_iff.1 h2.u_inv]
  refine (count_spec s hr hL x).mono ?_
  rintro v h' ⟨y, rfl, hk, rfl⟩
  exact ⟨hk, _, .u (.int .i64 _), k⟩
end Go.Proofs.YtljgfkiiikcaaaaGreat

/- Stacks: the document's Same, Count, Check. Blueprints: may one be; what runs need. -/
set_option linter.unusedVariables false
namespace Go.Proofs.YtljgfkiiikcaaaaGreat
open Go Go.Proofs
variable {Q : V → Mem → Prop}

theorem same_S {A B : List Stk} (hA : A.length ≤ 1000000) (hB : B.length ≤ 1000000) (k : Q (.u (.b (decide (A = B)))) []) : PRun Tryz.prog 33 [] [.l 2 (A.map eS), .l 2 (B.map eS)] Q := by
  refine S33 (cNe (fun h => ?_) fun h => ⟨fun x => ∃ t la lb, At A x t la ∧ At B x t lb, SufM A, ⟨[], A, B, .zero (by omega), .zero (by omega)⟩, ?_⟩)
  · have : A ≠ B := by rintro rfl; exact h rfl
    rwa [decide_eq_false this] at k
  simp only [List.length_map] at h
  rintro x ⟨t, _ | ⟨a, la⟩, lb, s1, s2⟩
  · have h1 := congrArg List.length s1.e
    have h2 := congrArg List.length s2.e
    simp at h1 h2
    have : lb = [] := List.eq_nil_of_length_eq_zero (by omega)
    subst this
    rw [s1.d0, decide_eq_true (s1.all.symm.trans s2.all)] at *
    exact k
  · have h1 := congrArg List.length s1.e
    have h2 := congrArg List.length s2.e
    simp at h1 h2
    rcases lb with _ | ⟨b, lb⟩
    · simp at h2; omega
    simp only [s1.d1, s2.d1, s1.el, s2.el, eS, ug0, ugs, dI_n, cond_true, Bool.and_true]
    obtain ⟨a1, a2⟩ := a
    obtain ⟨b1, b2⟩ := b
    refine cNot (cB (fun he => ?_) fun he => ?_)
    · simp at he
      obtain ⟨rfl, rfl⟩ := he
      rw [s1.suf.wr]
      exact ⟨⟨_, _, _, s1.succ, s2.succ⟩, s1.suf.me⟩
    · have : A ≠ B := by
        rw [s1.e, s2.e]
        intro e
        simp at e
        simp [e] at he
      rwa [decide_eq_false this] at k
theorem SN.len {l r : List Stk} (h : SN l r) : r.length ≤ l.length := by
  have hnd : (r.map (·.1)).Nodup := List.pairwise_map.2 (h.1.imp fun hh => by omega)
  have : ∀ x ∈ r.map (·.1), x ∈ l.map (·.1) := fun x hx => by
    obtain ⟨p, hp, rfl⟩ := List.mem_map.1 hx
    obtain ⟨s, hs, e⟩ := tot_pos (l := l) (k := p.1) (by have := (h.2 p.1 p.2).1 hp; omega)
    exact List.mem_map.2 ⟨s, hs, e⟩
  have := hnd.length_le_of_subset this
  simpa using this
theorem NormP.len {l r : List Stk} {e : Int} (h : NormP l e r) : r.length ≤ l.length := by
  by_cases h0 : e = 0
  · exact (h.2.1 h0).len
  · rw [h.2.2 h0]; simp
theorem rCount_S {L : List Stk} {x : Int} (hr : rng L) (hL : L.length ≤ 1000) (k : Q (.i (cntN L x)) []) : PRun Tryz.prog 28 [] [.l 2 (L.map eS), .i x] Q := by
  refine S28 (refNorm_S hr (by omega) fun r e hN => ?_)
  rw [post_LI]
  have hlen := hN.len
  have hc : (∀ u ∈ r, u.1 ≠ x) → cntN L x = 0 := fun h => by
    unfold cntN
    split
    · rename_i he
      have hsn := hN.2.1 (hN.1.trans he)
      refine Decidable.byContradiction fun hne => ?_
      have hg := tot_nonneg (errN_zero.1 he).1 x
      exact h _ ((hsn.2 x (tot L x)).2 ⟨rfl, by omega⟩) rfl
    · rfl
  refine ⟨AtI r fun t _ => ∀ u ∈ t, u.1 ≠ x, SufM r, .zero (by omega) (by simp), ?_⟩
  rintro z ⟨t, _ | ⟨a, l⟩, s, ht⟩
  · rw [s.all] at ht
    rw [s.d0]
    rwa [hc ht] at k
  · simp only [s.d1, s.el, eS, ug0, ugs, dI_n, cond_true]
    refine cEq (fun h => ?_) fun h => s.step ?_
    · have he : e = 0 := Decidable.byContradiction fun he => by rw [hN.2.2 he] at s; have := s.e; simp at this
      have hsn := hN.2.1 he
      have := ((hsn.2 a.1 a.2).1 (by rw [s.e]; simp)).1
      rw [show cntN L x = a.2 by unfold cntN; rw [if_pos (hN.1 ▸ he), this, h]] at k
      exact k
    · intro u hu
      rcases List.mem_append.1 hu with hu | hu
      · exact ht u hu
      · simp at hu; subst hu; exact h
/-- Stacks that may be those of a list. -/
structure CheckOK (l : List Stk) (types : Int) : Prop where
  len : l.length ≤ 8
  rise : l.Pairwise (fun a b => a.1 < b.1)
  el : ∀ s ∈ l, 1 ≤ s.1 ∧ s.1 ≤ types ∧ 1 ≤ s.2 ∧ s.2 ≤ MaxQ
theorem chkL_iff {types : Int} : ∀ {l : List Stk} {last : Int}, chkL types last l = true ↔ l.Pairwise (fun a b => a.1 < b.1) ∧ ∀ s ∈ l, last < s.1 ∧ s.1 ≤ types ∧ 1 ≤ s.2 ∧ s.2 ≤ MaxQ
  | [], last => by simp [chkL]
  | a :: l, last => by
    simp only [chkL, Bool.and_eq_true, decide_eq_true_eq, chkL_iff (l := l), List.pairwise_cons, List.mem_cons]
    have hM : MaxQ = 1125899906842624 := rfl
    constructor
    · rintro ⟨h1, h2, h3⟩
      refine ⟨⟨fun b hb => (h3 b hb).1, h2⟩, ?_⟩
      rintro s (rfl | hs)
      · omega
      · have := h3 s hs; omega
    · rintro ⟨⟨h1, h2⟩, h3⟩
      refine ⟨by have := h3 a (.inl rfl); omega, h2, fun s hs => ?_⟩
      have := h3 s (.inr hs)
      have := h1 s hs
      omega
theorem chkE_iff {l : List Stk} {types : Int} : chkE l types = 0 ↔ CheckOK l types := by
  unfold chkE
  constructor
  · intro h
    split at h
    · rename_i hh
      have := chkL_iff.1 hh.1
      exact ⟨hh.2, this.1, fun s hs => by have := this.2 s hs; omega⟩
    · cases h
  · intro h
    rw [if_pos]
    exact ⟨chkL_iff.2 ⟨h.rise, fun s hs => by have := h.el s hs; omega⟩, h.len⟩
theorem chkE_01 (l : List Stk) (types : Int) : chkE l types = 0 ∨ chkE l types = 1 := by unfold chkE; split <;> simp
theorem chkE_one {l : List Stk} {types : Int} (h : ¬ CheckOK l types) : chkE l types = 1 := (chkE_01 l types).resolve_left fun h0 => h (chkE_iff.1 h0)
theorem rise_keys {r : List Stk} (h : r.Pairwise (fun a b => a.1 < b.1)) : (r.map (·.1)).Nodup := List.pairwise_map.2 (h.imp fun hh => by omega)
theorem CheckOK.sn {l : List Stk} {types : Int} (h : CheckOK l types) : errN l = 0 ∧ SN l l := by
  have hnd := rise_keys h.rise
  have hg : good l := fun s hs => by have := h.el s hs; omega
  refine ⟨errN_ok hg ?_, h.rise, fun k n => ?_⟩
  · rintro ⟨s, hs, ho⟩
    rw [tot_mem hnd hs] at ho
    have := (h.el s hs).2.2.2; omega
  · constructor
    · intro hm
      have := (h.el _ hm).2.2.1
      exact ⟨(tot_mem hnd hm).symm, by show 0 < n; simp only at this; omega⟩
    · rintro ⟨h1, h2⟩
      obtain ⟨p, hp, he⟩ := tot_pos (l := l) (k := k) (by omega)
      have := tot_mem hnd hp
      rw [he] at this
      have hpe : p = (k, n) := by obtain ⟨p1, p2⟩ := p; simp only at he this; subst he; rw [h1, this]
      subst hpe; exact hp
theorem rCheck_S {L : List Stk} {types : Int} (hr : rng L) (hL : L.length ≤ 1000) (k : Q (.i (chkE L types)) []) : PRun Tryz.prog 55 [] [.l 2 (L.map eS), .i types] Q := by
  have bad : ¬ CheckOK L types → Q (.i 1) [] := fun h => by rwa [chkE_one h] at k
  refine S55 (cIf (fun h1 => bad fun h => ?_) fun h1 => refNorm_S hr (by omega) fun r e hN => ?_)
  · have := h.len; simp at h1; omega
  rw [post_LI]
  simp only [List.length_map] at h1 ⊢
  have hlen := hN.len
  refine cNe (fun hz => bad fun h => hz (hN.1.trans h.sn.1)) fun hz => same_S (by omega) (by omega) ?_
  rw [post_B]
  have hsn := hN.2.1 hz
  refine cNot (cIf (fun he => ?_) fun he => bad fun h => he (hsn.unique h.sn.2))
  subst he
  have hg := errN_zero.1 (hN.1 ▸ hz)
  have hel : ∀ u ∈ r, 1 ≤ u.1 ∧ 1 ≤ u.2 ∧ u.2 ≤ MaxQ := fun u hu => by
    have h1 := (hsn.2 u.1 u.2).1 hu
    have h2 := not_over hg.1 hg.2 u.1
    have h3 := (hg.1 u hu).1
    omega
  refine cIf (fun h4 => ?_) fun h4 => ?_
  · have hw : IntKind.wrap .i64 ((r.length : Int) - 1) = r.length - 1 := w64 (by omega) (by omega)
    have hl : r[r.length - 1]? = some r[r.length - 1] := List.getElem?_eq_getElem (by omega)
    rw [hw, elL_of (r := eS r[r.length - 1]) (by omega) (by rw [List.getElem?_map, show ((r.length : Int) - 1).toNat = r.length - 1 by omega, hl]; rfl)]
    simp only [eS, ug0, dI_n]
    refine cIf (fun h5 => bad fun h => ?_) fun h5 => ?_
    · have := (h.el r[r.length - 1] (by simp)).2.1; omega
    · rwa [chkE_iff.2 ⟨by omega, hsn.1, fun u hu => ?_⟩] at k
      have h6 := hel u hu
      refine ⟨h6.1, ?_, h6.2⟩
      obtain ⟨i, hi, rfl⟩ := List.getElem_of_mem hu
      by_cases hin : i = r.length - 1
      · subst hin; omega
      · have := List.pairwise_iff_getElem.1 hsn.1 i (r.length - 1) hi (by omega) (by omega)
        omega
  · have : r = [] := List.eq_nil_of_length_eq_zero (by omega)
    subst this
    rwa [chkE_iff.2 ⟨by simp, .nil, by simp⟩] at k
end Go.Proofs.YtljgfkiiikcaaaaGreat

/- What the functions do, written by program (psv.py) and held against the program by the kernel. -/
set_option linter.unusedVariables false
set_option maxRecDepth 100000
namespace Go.Proofs.YtljgfkiiikcaaaaGreat
open Go Go.Proofs
theorem mixTb : Tryz.prog.follows .mixedOrders = true := by kernel_rfl
/- math/bits.Div64 -/
theorem S95 {hi : Int} {lo : Int} {y : Int} {Q : V → Mem → Prop} (hh : bif y == 0 then False else (bif decide (y ≤ hi) then False else (bif hi == 0 then y ≠ 0 ∧ (y ≠ 0 ∧ (Q (.t [.u (.i .u64 (IntKind.wrap .u64 (Int.tdiv lo y))), .u (.i .u64 (Int.tmod lo y))]) [])) else PRun Tryz.prog 111 [] [.u (.i .u64 y)] (post [.I] [] (fun x1 => (0 ≤ IntKind.wrap .u64 x1 ∧ (0 ≤ (32 : Int) ∧ (0 ≤ IntKind.wrap .u64 x1 ∧ (0 ≤ IntKind.wrap .u64 (64 - IntKind.wrap .u64 x1) ∧ (0 ≤ IntKind.wrap .u64 x1 ∧ (0 ≤ (32 : Int) ∧ (Int.fdiv (IntKind.wrap .u64 (y * 2 ^ (min (Int.toNat (IntKind.wrap .u64 x1)) 64))) (2 ^ (32)) ≠ 0 ∧ (∀ k1 : Int → Prop, (∀ x2 : Int, (Int.fdiv (IntKind.wrap .u64 (y * 2 ^ (min (Int.toNat (IntKind.wrap .u64 x1)) 64))) (2 ^ (32)) ≠ 0 ∧ (∃ (I1 : Int → Int → Prop) (f1 : Int → Int → Nat), I1 (IntKind.wrap .u64 (IntKind.wrap .u64 (IntKind.wrap .u64 (IntKind.wrap .u64 (IntKind.wrap .u64 (BitVec.toNat (BitVec.ofInt 64 (IntKind.wrap .u64 (hi * 2 ^ (min (Int.toNat (IntKind.wrap .u64 x1)) 64))) ||| (BitVec.ofInt 64 (Int.fdiv lo (2 ^ (min (Int.toNat (IntKind.wrap .u64 (64 - IntKind.wrap .u64 x1))) 64))))) : Int) * 4294967296) + Int.fdiv (IntKind.wrap .u64 (lo * 2 ^ (min (Int.toNat (IntKind.wrap .u64 x1)) 64))) (2 ^ (32))) - IntKind.wrap .u64 (x2 * IntKind.wrap .u64 (y * 2 ^ (min (Int.toNat (IntKind.wrap .u64 x1)) 64)))) - IntKind.wrap .u64 (IntKind.wrap .u64 (Int.tdiv (IntKind.wrap .u64 (IntKind.wrap .u64 (IntKind.wrap .u64 (IntKind.wrap .u64 (BitVec.toNat (BitVec.ofInt 64 (IntKind.wrap .u64 (hi * 2 ^ (min (Int.toNat (IntKind.wrap .u64 x1)) 64))) ||| (BitVec.ofInt 64 (Int.fdiv lo (2 ^ (min (Int.toNat (IntKind.wrap .u64 (64 - IntKind.wrap .u64 x1))) 64))))) : Int) * 4294967296) + Int.fdiv (IntKind.wrap .u64 (lo * 2 ^ (min (Int.toNat (IntKind.wrap .u64 x1)) 64))) (2 ^ (32))) - IntKind.wrap .u64 (x2 * IntKind.wrap .u64 (y * 2 ^ (min (Int.toNat (IntKind.wrap .u64 x1)) 64))))) (Int.fdiv (IntKind.wrap .u64 (y * 2 ^ (min (Int.toNat (IntKind.wrap .u64 x1)) 64))) (2 ^ (32)))) * Int.fdiv (IntKind.wrap .u64 (y * 2 ^ (min (Int.toNat (IntKind.wrap .u64 x1)) 64))) (2 ^ (32))))) (IntKind.wrap .u64 (Int.tdiv (IntKind.wrap .u64 (IntKind.wrap .u64 (IntKind.wrap .u64 (IntKind.wrap .u64 (BitVec.toNat (BitVec.ofInt 64 (IntKind.wrap .u64 (hi * 2 ^ (min (Int.toNat (IntKind.wrap .u64 x1)) 64))) ||| (BitVec.ofInt 64 (Int.fdiv lo (2 ^ (min (Int.toNat (IntKind.wrap .u64 (64 - IntKind.wrap .u64 x1))) 64))))) : Int) * 4294967296) + Int.fdiv (IntKind.wrap .u64 (lo * 2 ^ (min (Int.toNat (IntKind.wrap .u64 x1)) 64))) (2 ^ (32))) - IntKind.wrap .u64 (x2 * IntKind.wrap .u64 (y * 2 ^ (min (Int.toNat (IntKind.wrap .u64 x1)) 64))))) (Int.fdiv (IntKind.wrap .u64 (y * 2 ^ (min (Int.toNat (IntKind.wrap .u64 x1)) 64))) (2 ^ (32))))) ∧ (∀ x3 : Int, ∀ x4 : Int, I1 x3 x4 → (bif decide (x4 ≥ 4294967296) then (bif decide (IntKind.wrap .u64 (x3 + Int.fdiv (IntKind.wrap .u64 (y * 2 ^ (min (Int.toNat (IntKind.wrap .u64 x1)) 64))) (2 ^ (32))) ≥ 4294967296) then 0 ≤ IntKind.wrap .u64 x1 ∧ (Q (.t [.u (.i .u64 (IntKind.wrap .u64 (IntKind.wrap .u64 (x2 * 4294967296) + IntKind.wrap .u64 (x4 - 1)))), .u (.i .u64 (Int.fdiv (IntKind.wrap .u64 (IntKind.wrap .u64 (IntKind.wrap .u64 (IntKind.wrap .u64 (IntKind.wrap .u64 (IntKind.wrap .u64 (IntKind.wrap .u64 (BitVec.toNat (BitVec.ofInt 64 (IntKind.wrap .u64 (hi * 2 ^ (min (Int.toNat (IntKind.wrap .u64 x1)) 64))) ||| (BitVec.ofInt 64 (Int.fdiv lo (2 ^ (min (Int.toNat (IntKind.wrap .u64 (64 - IntKind.wrap .u64 x1))) 64))))) : Int) * 4294967296) + Int.fdiv (IntKind.wrap .u64 (lo * 2 ^ (min (Int.toNat (IntKind.wrap .u64 x1)) 64))) (2 ^ (32))) - IntKind.wrap .u64 (x2 * IntKind.wrap .u64 (y * 2 ^ (min (Int.toNat (IntKind.wrap .u64 x1)) 64)))) * 4294967296) + IntKind.wrap .u64 (BitVec.toNat (BitVec.ofInt 64 (IntKind.wrap .u64 (lo * 2 ^ (min (Int.toNat (IntKind.wrap .u64 x1)) 64))) &&& (BitVec.ofInt 64 4294967295)) : Int)) - IntKind.wrap .u64 (IntKind.wrap .u64 (x4 - 1) * IntKind.wrap .u64 (y * 2 ^ (min (Int.toNat (IntKind.wrap .u64 x1)) 64))))) (2 ^ (min (Int.toNat (IntKind.wrap .u64 x1)) 64))))]) []) else I1 (IntKind.wrap .u64 (x3 + Int.fdiv (IntKind.wrap .u64 (y * 2 ^ (min (Int.toNat (IntKind.wrap .u64 x1)) 64))) (2 ^ (32)))) (IntKind.wrap .u64 (x4 - 1)) ∧ f1 (IntKind.wrap .u64 (x3 + Int.fdiv (IntKind.wrap .u64 (y * 2 ^ (min (Int.toNat (IntKind.wrap .u64 x1)) 64))) (2 ^ (32)))) (IntKind.wrap .u64 (x4 - 1)) < f1 x3 x4) else (bif decide (IntKind.wrap .u64 (x4 * IntKind.wrap .u64 (BitVec.toNat (BitVec.ofInt 64 (IntKind.wrap .u64 (y * 2 ^ (min (Int.toNat (IntKind.wrap .u64 x1)) 64))) &&& (BitVec.ofInt 64 4294967295)) : Int)) > IntKind.wrap .u64 (IntKind.wrap .u64 (4294967296 * x3) + IntKind.wrap .u64 (BitVec.toNat (BitVec.ofInt 64 (IntKind.wrap .u64 (lo * 2 ^ (min (Int.toNat (IntKind.wrap .u64 x1)) 64))) &&& (BitVec.ofInt 64 4294967295)) : Int))) then (bif decide (IntKind.wrap .u64 (x3 + Int.fdiv (IntKind.wrap .u64 (y * 2 ^ (min (Int.toNat (IntKind.wrap .u64 x1)) 64))) (2 ^ (32))) ≥ 4294967296) then 0 ≤ IntKind.wrap .u64 x1 ∧ (Q (.t [.u (.i .u64 (IntKind.wrap .u64 (IntKind.wrap .u64 (x2 * 4294967296) + IntKind.wrap .u64 (x4 - 1)))), .u (.i .u64 (Int.fdiv (IntKind.wrap .u64 (IntKind.wrap .u64 (IntKind.wrap .u64 (IntKind.wrap .u64 (IntKind.wrap .u64 (IntKind.wrap .u64 (IntKind.wrap .u64 (BitVec.toNat (BitVec.ofInt 64 (IntKind.wrap .u64 (hi * 2 ^ (min (Int.toNat (IntKind.wrap .u64 x1)) 64))) ||| (BitVec.ofInt 64 (Int.fdiv lo (2 ^ (min (Int.toNat (IntKind.wrap .u64 (64 - IntKind.wrap .u64 x1))) 64))))) : Int) * 4294967296) + Int.fdiv (IntKind.wrap .u64 (lo * 2 ^ (min (Int.toNat (IntKind.wrap .u64 x1)) 64))) (2 ^ (32))) - IntKind.wrap .u64 (x2 * IntKind.wrap .u64 (y * 2 ^ (min (Int.toNat (IntKind.wrap .u64 x1)) 64)))) * 4294967296) + IntKind.wrap .u64 (BitVec.toNat (BitVec.ofInt 64 (IntKind.wrap .u64 (lo * 2 ^ (min (Int.toNat (IntKind.wrap .u64 x1)) 64))) &&& (BitVec.ofInt 64 4294967295)) : Int)) - IntKind.wrap .u64 (IntKind.wrap .u64 (x4 - 1) * IntKind.wrap .u64 (y * 2 ^ (min (Int.toNat (IntKind.wrap .u64 x1)) 64))))) (2 ^ (min (Int.toNat (IntKind.wrap .u64 x1)) 64))))]) []) else I1 (IntKind.wrap .u64 (x3 + Int.fdiv (IntKind.wrap .u64 (y * 2 ^ (min (Int.toNat (IntKind.wrap .u64 x1)) 64))) (2 ^ (32)))) (IntKind.wrap .u64 (x4 - 1)) ∧ f1 (IntKind.wrap .u64 (x3 + Int.fdiv (IntKind.wrap .u64 (y * 2 ^ (min (Int.toNat (IntKind.wrap .u64 x1)) 64))) (2 ^ (32)))) (IntKind.wrap .u64 (x4 - 1)) < f1 x3 x4) else 0 ≤ IntKind.wrap .u64 x1 ∧ (Q (.t [.u (.i .u64 (IntKind.wrap .u64 (IntKind.wrap .u64 (x2 * 4294967296) + x4))), .u (.i .u64 (Int.fdiv (IntKind.wrap .u64 (IntKind.wrap .u64 (IntKind.wrap .u64 (IntKind.wrap .u64 (IntKind.wrap .u64 (IntKind.wrap .u64 (IntKind.wrap .u64 (BitVec.toNat (BitVec.ofInt 64 (IntKind.wrap .u64 (hi * 2 ^ (min (Int.toNat (IntKind.wrap .u64 x1)) 64))) ||| (BitVec.ofInt 64 (Int.fdiv lo (2 ^ (min (Int.toNat (IntKind.wrap .u64 (64 - IntKind.wrap .u64 x1))) 64))))) : Int) * 4294967296) + Int.fdiv (IntKind.wrap .u64 (lo * 2 ^ (min (Int.toNat (IntKind.wrap .u64 x1)) 64))) (2 ^ (32))) - IntKind.wrap .u64 (x2 * IntKind.wrap .u64 (y * 2 ^ (min (Int.toNat (IntKind.wrap .u64 x1)) 64)))) * 4294967296) + IntKind.wrap .u64 (BitVec.toNat (BitVec.ofInt 64 (IntKind.wrap .u64 (lo * 2 ^ (min (Int.toNat (IntKind.wrap .u64 x1)) 64))) &&& (BitVec.ofInt 64 4294967295)) : Int)) - IntKind.wrap .u64 (x4 * IntKind.wrap .u64 (y * 2 ^ (min (Int.toNat (IntKind.wrap .u64 x1)) 64))))) (2 ^ (min (Int.toNat (IntKind.wrap .u64 x1)) 64))))]) [])))))) → k1 x2) → ∃ (I2 : Int → Int → Prop) (f2 : Int → Int → Nat), I2 (IntKind.wrap .u64 (Int.tdiv (IntKind.wrap .u64 (BitVec.toNat (BitVec.ofInt 64 (IntKind.wrap .u64 (hi * 2 ^ (min (Int.toNat (IntKind.wrap .u64 x1)) 64))) ||| (BitVec.ofInt 64 (Int.fdiv lo (2 ^ (min (Int.toNat (IntKind.wrap .u64 (64 - IntKind.wrap .u64 x1))) 64))))) : Int)) (Int.fdiv (IntKind.wrap .u64 (y * 2 ^ (min (Int.toNat (IntKind.wrap .u64 x1)) 64))) (2 ^ (32))))) (IntKind.wrap .u64 (IntKind.wrap .u64 (BitVec.toNat (BitVec.ofInt 64 (IntKind.wrap .u64 (hi * 2 ^ (min (Int.toNat (IntKind.wrap .u64 x1)) 64))) ||| (BitVec.ofInt 64 (Int.fdiv lo (2 ^ (min (Int.toNat (IntKind.wrap .u64 (64 - IntKind.wrap .u64 x1))) 64))))) : Int) - IntKind.wrap .u64 (IntKind.wrap .u64 (Int.tdiv (IntKind.wrap .u64 (BitVec.toNat (BitVec.ofInt 64 (IntKind.wrap .u64 (hi * 2 ^ (min (Int.toNat (IntKind.wrap .u64 x1)) 64))) ||| (BitVec.ofInt 64 (Int.fdiv lo (2 ^ (min (Int.toNat (IntKind.wrap .u64 (64 - IntKind.wrap .u64 x1))) 64))))) : Int)) (Int.fdiv (IntKind.wrap .u64 (y * 2 ^ (min (Int.toNat (IntKind.wrap .u64 x1)) 64))) (2 ^ (32)))) * Int.fdiv (IntKind.wrap .u64 (y * 2 ^ (min (Int.toNat (IntKind.wrap .u64 x1)) 64))) (2 ^ (32))))) ∧ (∀ x5 : Int, ∀ x6 : Int, I2 x5 x6 → (bif decide (x5 ≥ 4294967296) then (bif decide (IntKind.wrap .u64 (x6 + Int.fdiv (IntKind.wrap .u64 (y * 2 ^ (min (Int.toNat (IntKind.wrap .u64 x1)) 64))) (2 ^ (32))) ≥ 4294967296) then k1 (IntKind.wrap .u64 (x5 - 1)) else I2 (IntKind.wrap .u64 (x5 - 1)) (IntKind.wrap .u64 (x6 + Int.fdiv (IntKind.wrap .u64 (y * 2 ^ (min (Int.toNat (IntKind.wrap .u64 x1)) 64))) (2 ^ (32)))) ∧ f2 (IntKind.wrap .u64 (x5 - 1)) (IntKind.wrap .u64 (x6 + Int.fdiv (IntKind.wrap .u64 (y * 2 ^ (min (Int.toNat (IntKind.wrap .u64 x1)) 64))) (2 ^ (32)))) < f2 x5 x6) else (bif decide (IntKind.wrap .u64 (x5 * IntKind.wrap .u64 (BitVec.toNat (BitVec.ofInt 64 (IntKind.wrap .u64 (y * 2 ^ (min (Int.toNat (IntKind.wrap .u64 x1)) 64))) &&& (BitVec.ofInt 64 4294967295)) : Int)) > IntKind.wrap .u64 (IntKind.wrap .u64 (4294967296 * x6) + Int.fdiv (IntKind.wrap .u64 (lo * 2 ^ (min (Int.toNat (IntKind.wrap .u64 x1)) 64))) (2 ^ (32)))) then (bif decide (IntKind.wrap .u64 (x6 + Int.fdiv (IntKind.wrap .u64 (y * 2 ^ (min (Int.toNat (IntKind.wrap .u64 x1)) 64))) (2 ^ (32))) ≥ 4294967296) then k1 (IntKind.wrap .u64 (x5 - 1)) else I2 (IntKind.wrap .u64 (x5 - 1)) (IntKind.wrap .u64 (x6 + Int.fdiv (IntKind.wrap .u64 (y * 2 ^ (min (Int.toNat (IntKind.wrap .u64 x1)) 64))) (2 ^ (32)))) ∧ f2 (IntKind.wrap .u64 (x5 - 1)) (IntKind.wrap .u64 (x6 + Int.fdiv (IntKind.wrap .u64 (y * 2 ^ (min (Int.toNat (IntKind.wrap .u64 x1)) 64))) (2 ^ (32)))) < f2 x5 x6) else k1 x5)))))))))) : Prop)))))) : PRun Tryz.prog 95 [] [.u (.i .u64 hi), .u (.i .u64 lo), .u (.i .u64 y)] Q :=
  funS2 mixTb Tryz.func95 (by kernel_rfl) (H := ⟨[((95, 17, 0), ⟨[(15, .one (.i .u64)), (16, .one (.i .u64))], []⟩), ((95, 24, 0), ⟨[(16, .one (.i .u64)), (18, .one (.i .u64))], []⟩)], [((95, 21, 0), ⟨[(15, .one (.i .u64))], []⟩)], [], [], [], false, 64⟩) (n := 2) (by kernel_rfl) hh

/- math/bits.LeadingZeros64 -/
theorem S111 {x : Int} {Q : V → Mem → Prop} (hh : PRun Tryz.prog 85 [] [.u (.i .u64 x)] (post [.I] [] (fun x1 => (Q (.i (IntKind.wrap .i64 (64 - x1))) [] : Prop)))) : PRun Tryz.prog 111 [] [.u (.i .u64 x)] Q :=
  funS2 mixTb Tryz.func111 (by kernel_rfl) (H := ⟨[], [], [], [], [], false, 64⟩) (n := 2) (by kernel_rfl) hh

/- math/bits.Len64 -/
theorem S85 {x : Int} {Q : V → Mem → Prop} (hh : ∀ k1 : Int → Int → Prop, (∀ x1 : Int, ∀ x2 : Int, (∀ k2 : Int → Int → Prop, (∀ x3 : Int, ∀ x4 : Int, (∀ k3 : Int → Int → Prop, (∀ x5 : Int, ∀ x6 : Int, (0 ≤ IntKind.wrap .u8 x5 ∧ IntKind.wrap .u8 x5 < (ByteArray.size (ByteArray.mk #[0, 1, 2, 2, 3, 3, 3, 3, 4, 4, 4, 4, 4, 4, 4, 4, 5, 5, 5, 5, 5, 5, 5, 5, 5, 5, 5, 5, 5, 5, 5, 5, 6, 6, 6, 6, 6, 6, 6, 6, 6, 6, 6, 6, 6, 6, 6, 6, 6, 6, 6, 6, 6, 6, 6, 6, 6, 6, 6, 6, 6, 6, 6, 6, 7, 7, 7, 7, 7, 7, 7, 7, 7, 7, 7, 7, 7, 7, 7, 7, 7, 7, 7, 7, 7, 7, 7, 7, 7, 7, 7, 7, 7, 7, 7, 7, 7, 7, 7, 7, 7, 7, 7, 7, 7, 7, 7, 7, 7, 7, 7, 7, 7, 7, 7, 7, 7, 7, 7, 7, 7, 7, 7, 7, 7, 7, 7, 7, 8, 8, 8, 8, 8, 8, 8, 8, 8, 8, 8, 8, 8, 8, 8, 8, 8, 8, 8, 8, 8, 8, 8, 8, 8, 8, 8, 8, 8, 8, 8, 8, 8, 8, 8, 8, 8, 8, 8, 8, 8, 8, 8, 8, 8, 8, 8, 8, 8, 8, 8, 8, 8, 8, 8, 8, 8, 8, 8, 8, 8, 8, 8, 8, 8, 8, 8, 8, 8, 8, 8, 8, 8, 8, 8, 8, 8, 8, 8, 8, 8, 8, 8, 8, 8, 8, 8, 8, 8, 8, 8, 8, 8, 8, 8, 8, 8, 8, 8, 8, 8, 8, 8, 8, 8, 8, 8, 8, 8, 8, 8, 8, 8, 8, 8, 8, 8, 8, 8, 8, 8, 8, 8, 8, 8, 8, 8, 8]) : Int) ∧ (Q (.i (IntKind.wrap .i64 (x6 + IntKind.wrap .i64 (UInt8.toNat (Array.getD (ByteArray.mk #[0, 1, 2, 2, 3, 3, 3, 3, 4, 4, 4, 4, 4, 4, 4, 4, 5, 5, 5, 5, 5, 5, 5, 5, 5, 5, 5, 5, 5, 5, 5, 5, 6, 6, 6, 6, 6, 6, 6, 6, 6, 6, 6, 6, 6, 6, 6, 6, 6, 6, 6, 6, 6, 6, 6, 6, 6, 6, 6, 6, 6, 6, 6, 6, 7, 7, 7, 7, 7, 7, 7, 7, 7, 7, 7, 7, 7, 7, 7, 7, 7, 7, 7, 7, 7, 7, 7, 7, 7, 7, 7, 7, 7, 7, 7, 7, 7, 7, 7, 7, 7, 7, 7, 7, 7, 7, 7, 7, 7, 7, 7, 7, 7, 7, 7, 7, 7, 7, 7, 7, 7, 7, 7, 7, 7, 7, 7, 7, 8, 8, 8, 8, 8, 8, 8, 8, 8, 8, 8, 8, 8, 8, 8, 8, 8, 8, 8, 8, 8, 8, 8, 8, 8, 8, 8, 8, 8, 8, 8, 8, 8, 8, 8, 8, 8, 8, 8, 8, 8, 8, 8, 8, 8, 8, 8, 8, 8, 8, 8, 8, 8, 8, 8, 8, 8, 8, 8, 8, 8, 8, 8, 8, 8, 8, 8, 8, 8, 8, 8, 8, 8, 8, 8, 8, 8, 8, 8, 8, 8, 8, 8, 8, 8, 8, 8, 8, 8, 8, 8, 8, 8, 8, 8, 8, 8, 8, 8, 8, 8, 8, 8, 8, 8, 8, 8, 8, 8, 8, 8, 8, 8, 8, 8, 8, 8, 8, 8, 8, 8, 8, 8, 8, 8, 8, 8, 8]).data (Int.toNat (IntKind.wrap .u8 x5)) 0) : Int)))) [])) → k3 x5 x6) → (bif decide (x3 ≥ 256) then 0 ≤ (8 : Int) ∧ (k3 (Int.fdiv x3 (2 ^ (8))) (IntKind.wrap .i64 (x4 + 8))) else k3 x3 x4)) → k2 x3 x4) → (bif decide (x1 ≥ 65536) then 0 ≤ (16 : Int) ∧ (k2 (Int.fdiv x1 (2 ^ (16))) (IntKind.wrap .i64 (x2 + 16))) else k2 x1 x2)) → k1 x1 x2) → (bif decide (x ≥ 4294967296) then 0 ≤ (32 : Int) ∧ (k1 (Int.fdiv x (2 ^ (32))) 32) else k1 x 0)) : PRun Tryz.prog 85 [] [.u (.i .u64 x)] Q :=
  funS2 mixTb Tryz.func85 (by kernel_rfl) (H := ⟨[], [((85, 4, 0), ⟨[(0, .one (.i .u64)), (2, .I)], []⟩), ((85, 7, 0), ⟨[(0, .one (.i .u64)), (2, .I)], []⟩), ((85, 10, 0), ⟨[(0, .one (.i .u64)), (2, .I)], []⟩)], [], [], [], false, 64⟩) (n := 2) (by kernel_rfl) hh

end Go.Proofs.YtljgfkiiikcaaaaGreat

/- Library: math/bits: Len64, LeadingZeros64, Div64, by the symbolic engine. -/
set_option linter.unusedVariables false
namespace Go.Proofs.YtljgfkiiikcaaaaGreat
open Go Go.Proofs

/- ## Plain -/
theorem fdiv_nat (a b : Nat) : Int.fdiv (a : Int) (b : Int) = ((a / b : Nat) : Int) := by
  rw [Int.fdiv_eq_ediv_of_nonneg _ (Int.natCast_nonneg b)]; rfl
theorem tdiv_nat (a b : Nat) : Int.tdiv (a : Int) (b : Int) = ((a / b : Nat) : Int) := by
  rw [Int.tdiv_eq_ediv_of_nonneg (Int.natCast_nonneg a)]; rfl
theorem u64_id {x : Int} (h : 0 ≤ x) (h2 : x < 18446744073709551616) : IntKind.wrap .u64 x = x := by rw [IntKind.wrap_u64]; omega
theorem or_sum (a b s : Nat) (hb : b < 2 ^ s) : a * 2 ^ s ||| b = a * 2 ^ s + b := by
  have := Nat.shiftLeft_add_eq_or_of_lt hb a
  rw [Nat.shiftLeft_eq] at this
  exact this.symm
theorem bv_or (a b s : Nat) (hb : b < 2 ^ s) (h : a * 2 ^ s + b < 18446744073709551616) : ((BitVec.toNat (BitVec.ofInt 64 ((a * 2 ^ s : Nat) : Int) ||| (BitVec.ofInt 64 (b : Int))) : Nat) : Int) = ((a * 2 ^ s + b : Nat) : Int) := by
  rw [BitVec.toNat_or, BitVec.toNat_ofInt, BitVec.toNat_ofInt]
  have e1 : (((a * 2 ^ s : Nat) : Int) % ((2 ^ 64 : Nat) : Int)).toNat = a * 2 ^ s := by
    rw [← Int.natCast_emod, Int.toNat_natCast, Nat.mod_eq_of_lt (by omega)]
  have e2 : ((b : Int) % ((2 ^ 64 : Nat) : Int)).toNat = b := by
    rw [← Int.natCast_emod, Int.toNat_natCast, Nat.mod_eq_of_lt (by omega)]
  rw [e1, e2, or_sum _ _ _ hb]
theorem bv_mask (a : Nat) (h : a < 18446744073709551616) : ((BitVec.toNat (BitVec.ofInt 64 (a : Int) &&& (BitVec.ofInt 64 4294967295)) : Nat) : Int) = ((a % 4294967296 : Nat) : Int) := by
  rw [BitVec.toNat_and, BitVec.toNat_ofInt, BitVec.toNat_ofInt]
  have e1 : ((a : Int) % ((2 ^ 64 : Nat) : Int)).toNat = a := by
    rw [← Int.natCast_emod, Int.toNat_natCast, Nat.mod_eq_of_lt (by omega)]
  rw [e1]
  exact congrArg Nat.cast (Nat.and_two_pow_sub_one_eq_mod a 32)

/- ## One step of a division by two halves -/
structure DInv (Y1 Y0 u d q r : Int) : Prop where
  e : r = u - q * Y1
  r0 : 0 ≤ r
  rb : r < 4294967296
  q0 : 0 ≤ q
  qb : q ≤ 4294967297
  up : u * 4294967296 + d < q * Y1 * 4294967296 + q * Y0 + Y1 * 4294967296 + Y0
structure DFin (Y1 Y0 u d q : Int) : Prop where
  q0 : 0 ≤ q
  qb : q < 4294967296
  lo : q * Y1 * 4294967296 + q * Y0 ≤ u * 4294967296 + d
  up : u * 4294967296 + d < q * Y1 * 4294967296 + q * Y0 + Y1 * 4294967296 + Y0
structure DSet (Y1 Y0 u d : Int) : Prop where
  u0 : 0 ≤ u
  uY : u < Y1 * 4294967296 + Y0
  y1 : 2147483648 ≤ Y1
  y1b : Y1 < 4294967296
  y0 : 0 ≤ Y0
  y0b : Y0 < 4294967296
  d0 : 0 ≤ d
  db : d < 4294967296
theorem DSet.init {Y1 Y0 u d : Int} (s : DSet Y1 Y0 u d) : DInv Y1 Y0 u d (u / Y1) (u - (u / Y1) * Y1) := by
  obtain ⟨h1, h2, h3, h4, h5, h6, h7, h8⟩ := s
  have e := Int.mul_ediv_add_emod u Y1
  have m0 := Int.emod_nonneg u (show Y1 ≠ 0 by omega)
  have m1 := Int.emod_lt_of_pos u (show 0 < Y1 by omega)
  have q0 : 0 ≤ u / Y1 := Int.ediv_nonneg h1 (by omega)
  generalize u / Y1 = q at *
  generalize u % Y1 = r at *
  rw [Int.mul_comm] at e
  have p0 : 0 ≤ q * Y0 := Int.mul_nonneg q0 h5
  have qb : q ≤ 4294967297 := by
    refine Int.not_lt.1 fun hq => ?_
    have := Int.mul_le_mul_of_nonneg_right (show (4294967298 : Int) ≤ q by omega) (show 0 ≤ Y1 by omega)
    omega
  exact ⟨rfl, by omega, by omega, q0, qb, by omega⟩
theorem DInv.less {Y1 Y0 u d q r : Int} (s : DSet Y1 Y0 u d) (i : DInv Y1 Y0 u d q r) (hc : 4294967296 ≤ q ∨ 4294967296 * r + d < q * Y0) :
    1 ≤ q ∧ u * 4294967296 + d < q * Y1 * 4294967296 + q * Y0 := by
  obtain ⟨h1, h2, h3, h4, h5, h6, h7, h8⟩ := s
  obtain ⟨e, r0, rb, q0, qb, up⟩ := i
  have main : u * 4294967296 + d < q * Y1 * 4294967296 + q * Y0 := by
    rcases hc with hc | hc
    · have a1 := Int.mul_le_mul_of_nonneg_right hc (show 0 ≤ Y1 by omega)
      have a2 := Int.mul_le_mul_of_nonneg_right hc h5
      omega
    · omega
  refine ⟨?_, main⟩
  refine Int.not_lt.1 fun hq => ?_
  have hq0 : q = 0 := by omega
  subst hq0
  omega
theorem DInv.next {Y1 Y0 u d q r : Int} (s : DSet Y1 Y0 u d) (i : DInv Y1 Y0 u d q r) (hc : 4294967296 ≤ q ∨ 4294967296 * r + d < q * Y0) (hr : r + Y1 < 4294967296) : DInv Y1 Y0 u d (q - 1) (r + Y1) := by
  obtain ⟨a, b⟩ := i.less s hc
  obtain ⟨h1, h2, h3, h4, h5, h6, h7, h8⟩ := s
  obtain ⟨e, r0, rb, q0, qb, up⟩ := i
  have e1 : (q - 1) * Y1 = q * Y1 - Y1 := by rw [Int.sub_mul, Int.one_mul]
  have e0 : (q - 1) * Y0 = q * Y0 - Y0 := by rw [Int.sub_mul, Int.one_mul]
  exact ⟨by omega, by omega, by omega, by omega, by omega, by omega⟩
theorem DFin.qlt {Y1 Y0 u d q : Int} (s : DSet Y1 Y0 u d) (lo : q * Y1 * 4294967296 + q * Y0 ≤ u * 4294967296 + d) : q < 4294967296 := by
  obtain ⟨h1, h2, h3, h4, h5, h6, h7, h8⟩ := s
  apply Int.lt_of_not_ge; intro hq
  have a1 := Int.mul_le_mul_of_nonneg_right hq (show 0 ≤ Y1 by omega)
  have a2 := Int.mul_le_mul_of_nonneg_right hq h5
  omega
theorem DInv.stop {Y1 Y0 u d q r : Int} (s : DSet Y1 Y0 u d) (i : DInv Y1 Y0 u d q r) (hc : 4294967296 ≤ q ∨ 4294967296 * r + d < q * Y0) (hr : 4294967296 ≤ r + Y1) : DFin Y1 Y0 u d (q - 1) := by
  obtain ⟨a, b⟩ := i.less s hc
  have s' := s
  obtain ⟨h1, h2, h3, h4, h5, h6, h7, h8⟩ := s
  obtain ⟨e, r0, rb, q0, qb, up⟩ := i
  have e1 : (q - 1) * Y1 = q * Y1 - Y1 := by rw [Int.sub_mul, Int.one_mul]
  have e0 : (q - 1) * Y0 = q * Y0 - Y0 := by rw [Int.sub_mul, Int.one_mul]
  have a2 := Int.mul_le_mul_of_nonneg_right (show q - 1 ≤ 4294967296 by omega) h5
  have lo : (q - 1) * Y1 * 4294967296 + (q - 1) * Y0 ≤ u * 4294967296 + d := by omega
  exact ⟨by omega, DFin.qlt s' lo, lo, by omega⟩
theorem DInv.fin {Y1 Y0 u d q r : Int} (s : DSet Y1 Y0 u d) (i : DInv Y1 Y0 u d q r) (hq : q < 4294967296) (hc : q * Y0 ≤ 4294967296 * r + d) : DFin Y1 Y0 u d q :=
  ⟨i.q0, hq, by have := i.e; omega, i.up⟩

/- ## Len64 -/
def tab8 : ByteArray := ByteArray.mk #[0, 1, 2, 2, 3, 3, 3, 3, 4, 4, 4, 4, 4, 4, 4, 4, 5, 5, 5, 5, 5, 5, 5, 5, 5, 5, 5, 5, 5, 5, 5, 5, 6, 6, 6, 6, 6, 6, 6, 6, 6, 6, 6, 6, 6, 6, 6, 6, 6, 6, 6, 6, 6, 6, 6, 6, 6, 6, 6, 6, 6, 6, 6, 6, 7, 7, 7, 7, 7, 7, 7, 7, 7, 7, 7, 7, 7, 7, 7, 7, 7, 7, 7, 7, 7, 7, 7, 7, 7, 7, 7, 7, 7, 7, 7, 7, 7, 7, 7, 7, 7, 7, 7, 7, 7, 7, 7, 7, 7, 7, 7, 7, 7, 7, 7, 7, 7, 7, 7, 7, 7, 7, 7, 7, 7, 7, 7, 7, 8, 8, 8, 8, 8, 8, 8, 8, 8, 8, 8, 8, 8, 8, 8, 8, 8, 8, 8, 8, 8, 8, 8, 8, 8, 8, 8, 8, 8, 8, 8, 8, 8, 8, 8, 8, 8, 8, 8, 8, 8, 8, 8, 8, 8, 8, 8, 8, 8, 8, 8, 8, 8, 8, 8, 8, 8, 8, 8, 8, 8, 8, 8, 8, 8, 8, 8, 8, 8, 8, 8, 8, 8, 8, 8, 8, 8, 8, 8, 8, 8, 8, 8, 8, 8, 8, 8, 8, 8, 8, 8, 8, 8, 8, 8, 8, 8, 8, 8, 8, 8, 8, 8, 8, 8, 8, 8, 8, 8, 8, 8, 8, 8, 8, 8, 8, 8, 8, 8, 8, 8, 8, 8, 8, 8, 8, 8, 8]
theorem tab8_spec : ∀ n : Fin 256, 1 ≤ n.1 → 1 ≤ (Array.getD tab8.data n.1 0).toNat ∧ (Array.getD tab8.data n.1 0).toNat ≤ 8 ∧ 2 ^ ((Array.getD tab8.data n.1 0).toNat - 1) ≤ n.1 ∧ n.1 < 2 ^ (Array.getD tab8.data n.1 0).toNat := by decide +kernel
theorem tab8_size : tab8.size = 256 := by decide +kernel
theorem div_range {x m y : Nat} (h : x / 2 ^ m = y) {L : Nat} (h1 : 2 ^ (L - 1) ≤ y) (h2 : y < 2 ^ L) (hL : 1 ≤ L) : 2 ^ (m + L - 1) ≤ x ∧ x < 2 ^ (m + L) := by
  have hp := Nat.two_pow_pos m
  subst h
  constructor
  · rw [show m + L - 1 = (L - 1) + m by omega, Nat.pow_add]
    exact (Nat.le_div_iff_mul_le hp).1 h1
  · rw [Nat.add_comm, Nat.pow_add]
    exact (Nat.div_lt_iff_lt_mul hp).1 h2
theorem len64_S {x : Nat} (hx : x < 18446744073709551616) (h1 : 1 ≤ x) {R : V → Mem → Prop}
    (k : ∀ n : Nat, 1 ≤ n → n ≤ 64 → 2 ^ (n - 1) ≤ x → x < 2 ^ n → R (.i (n : Int)) []) : PRun Tryz.prog 85 [] [.u (.i .u64 (x : Int))] R := by
  refine S85 ?_
  intro k1 hk1
  have H1 : ∀ (m y : Nat), x / 2 ^ m = y → 1 ≤ y → y < 4294967296 → m ≤ 32 → k1 (y : Int) (m : Int) := by
    intro m y hy y1 yb hm
    refine hk1 _ _ fun k2 hk2 => ?_
    have H2 : ∀ (m y : Nat), x / 2 ^ m = y → 1 ≤ y → y < 65536 → m ≤ 48 → k2 (y : Int) (m : Int) := by
      intro m y hy y1 yb hm
      refine hk2 _ _ fun k3 hk3 => ?_
      have H3 : ∀ (m y : Nat), x / 2 ^ m = y → 1 ≤ y → y < 256 → m ≤ 56 → k3 (y : Int) (m : Int) := by
        intro m y hy y1 yb hm
        refine hk3 _ _ ?_
        have ey : IntKind.wrap .u8 (y : Int) = (y : Int) := by
          simp [IntKind.wrap, IntKind.bits, IntKind.signed]; omega
        obtain ⟨t1, t2, t3, t4⟩ := tab8_spec ⟨y, yb⟩ y1
        change 0 ≤ IntKind.wrap .u8 (y : Int) ∧ IntKind.wrap .u8 (y : Int) < ((ByteArray.size tab8 : Nat) : Int) ∧ R (.i (IntKind.wrap .i64 ((m : Int) + IntKind.wrap .i64 (((Array.getD tab8.data (Int.toNat (IntKind.wrap .u8 (y : Int))) 0).toNat : Nat) : Int)))) []
        rw [ey, Int.toNat_natCast]
        generalize (Array.getD tab8.data y 0).toNat = L at *
        refine ⟨by omega, by rw [tab8_size]; omega, ?_⟩
        rw [w64 (x := (L : Int)) (by omega) (by omega), w64 (by omega) (by omega), ← Int.natCast_add]
        obtain ⟨r1, r2⟩ := div_range hy t3 t4 t1
        exact k _ (by omega) (by omega) r1 r2
      refine cIf (fun hc => ?_) fun hc => H3 m y hy y1 (by omega) (by omega)
      refine ⟨by decide, ?_⟩
      rw [show (2 : Int) ^ 8 = ((256 : Nat) : Int) from rfl, fdiv_nat, w64 (by omega) (by omega), show (m : Int) + 8 = ((m + 8 : Nat) : Int) by omega]
      exact H3 _ _ (by rw [Nat.pow_add, ← Nat.div_div_eq_div_mul, hy]) (by omega) (by omega) (by omega)
    refine cIf (fun hc => ?_) fun hc => H2 m y hy y1 (by omega) (by omega)
    refine ⟨by decide, ?_⟩
    rw [show (2 : Int) ^ 16 = ((65536 : Nat) : Int) from rfl, fdiv_nat, w64 (by omega) (by omega), show (m : Int) + 16 = ((m + 16 : Nat) : Int) by omega]
    exact H2 _ _ (by rw [Nat.pow_add, ← Nat.div_div_eq_div_mul, hy]) (by omega) (by omega) (by omega)
  refine cIf (fun hc => ?_) fun hc => H1 0 x (by simp) h1 (by omega) (by omega)
  refine ⟨by decide, ?_⟩
  rw [show (2 : Int) ^ 32 = ((4294967296 : Nat) : Int) from rfl, fdiv_nat]
  exact H1 32 _ rfl (by omega) (by omega) (by omega)
theorem lead64_S {x : Nat} (hx : x < 18446744073709551616) (h1 : 1 ≤ x) {R : V → Mem → Prop}
    (k : ∀ s : Nat, s ≤ 63 → 9223372036854775808 ≤ x * 2 ^ s → x * 2 ^ s < 18446744073709551616 → R (.i (s : Int)) []) : PRun Tryz.prog 111 [] [.u (.i .u64 (x : Int))] R := by
  refine S111 ?_
  refine len64_S hx h1 fun n n1 n2 a b => ?_
  rw [post_I, w64 (by omega) (by omega), show 64 - (n : Int) = ((64 - n : Nat) : Int) by omega]
  have hp := Nat.two_pow_pos (64 - n)
  refine k _ (by omega) ?_ ?_
  · have := Nat.mul_le_mul_right (2 ^ (64 - n)) a
    rw [← Nat.pow_add, show n - 1 + (64 - n) = 63 by omega] at this
    exact this
  · have := Nat.mul_lt_mul_of_pos_right b hp
    rw [← Nat.pow_add, show n + (64 - n) = 64 by omega] at this
    exact this
theorem div64_shift {hi lo y s : Nat} (hs : s ≤ 63) (hlo : lo < 18446744073709551616) (hh : hi < y) (b : y * 2 ^ s < 18446744073709551616) :
    ∃ c L : Nat, lo / 2 ^ (64 - s) = c ∧ c < 2 ^ s ∧ lo * 2 ^ s % 18446744073709551616 = L ∧ hi * 2 ^ s + c < y * 2 ^ s ∧ (hi * 2 ^ s + c) * 18446744073709551616 + L = (hi * 18446744073709551616 + lo) * 2 ^ s := by
  refine ⟨_, _, rfl, ?_, rfl, ?_, ?_⟩
  all_goals have hp := Nat.two_pow_pos s
  all_goals have e64 : 2 ^ (64 - s) * 2 ^ s = 18446744073709551616 := by rw [← Nat.pow_add, show 64 - s + s = 64 by omega]
  all_goals have hc : lo / 2 ^ (64 - s) < 2 ^ s := Nat.div_lt_of_lt_mul (by rw [e64]; exact hlo)
  · exact hc
  · have := Nat.mul_le_mul_right (2 ^ s) (show hi + 1 ≤ y by omega)
    rw [Nat.succ_mul] at this
    omega
  · have e1 : lo / 2 ^ (64 - s) = lo * 2 ^ s / 18446744073709551616 := by rw [← e64, Nat.mul_div_mul_right _ _ hp]
    have e2 := Nat.div_add_mod (lo * 2 ^ s) 18446744073709551616
    rw [e1, Nat.add_mul, Nat.add_mul (hi * 18446744073709551616), Nat.mul_right_comm hi 18446744073709551616]
    omega

theorem wsub {X p r : Int} (h : X - p = r) (h0 : 0 ≤ r) (h1 : r < 18446744073709551616) {A P : Int} (hA : A % 18446744073709551616 = X % 18446744073709551616) (hP : P % 18446744073709551616 = p % 18446744073709551616) : IntKind.wrap .u64 (A - P) = r := by
  rw [IntKind.wrap_u64, Int.sub_emod, hA, hP, ← Int.sub_emod, h]; omega

set_option maxRecDepth 20000 in
theorem div64_S {hi lo y : Nat} (hy : y < 18446744073709551616) (hlo : lo < 18446744073709551616) (hh : hi < y) {R : V → Mem → Prop}
    (k : ∀ Q r : Nat, Q < 18446744073709551616 → r < y → Q * y + r = hi * 18446744073709551616 + lo → R (.t [.u (.i .u64 (Q : Int)), .u (.i .u64 (r : Int))]) []) :
    PRun Tryz.prog 95 [] [.u (.i .u64 (hi : Int)), .u (.i .u64 (lo : Int)), .u (.i .u64 (y : Int))] R := by
  refine S95 ?_
  refine cB (fun e => by simp at e; omega) (fun _ => ?_)
  refine cIf (fun hc => by omega) (fun _ => ?_)
  refine cB (fun e => ?_) (fun _ => ?_)
  · have e0 : hi = 0 := by simpa using e
    subst e0
    refine ⟨by omega, by omega, ?_⟩
    rw [tdiv_nat, u64_id (Int.natCast_nonneg _) (Int.ofNat_lt.2 (Nat.lt_of_le_of_lt (Nat.div_le_self lo y) hlo))]
    have := k (lo / y) (lo % y) (by have := Nat.div_le_self lo y; omega) (Nat.mod_lt _ hh) (by rw [Nat.mul_comm, Nat.div_add_mod]; omega)
    rw [Int.natCast_emod] at this
    rw [Int.tmod_eq_emod_of_nonneg (by omega)]
    exact this
  refine lead64_S hy (by omega) fun s hs a b => ?_
  rw [post_I]
  obtain ⟨c, L, ec, hc, eL, hU, eN⟩ := div64_shift hs hlo hh b
  have es : IntKind.wrap .u64 (s : Int) = (s : Int) := u64_id (by omega) (by omega)
  have em : min (Int.toNat (s : Int)) 64 = s := by omega
  have es2 : IntKind.wrap .u64 (64 - (s : Int)) = ((64 - s : Nat) : Int) := by rw [u64_id (by omega) (by omega)]; omega
  have em2 : min (Int.toNat ((64 - s : Nat) : Int)) 64 = 64 - s := by omega
  have eY : (y : Int) * 2 ^ s = ((y * 2 ^ s : Nat) : Int) := by push_cast; rfl
  have eY2 : IntKind.wrap .u64 ((y * 2 ^ s : Nat) : Int) = ((y * 2 ^ s : Nat) : Int) := u64_id (by omega) (by omega)
  have eH : (hi : Int) * 2 ^ s = ((hi * 2 ^ s : Nat) : Int) := by push_cast; rfl
  have eH2 : IntKind.wrap .u64 ((hi * 2 ^ s : Nat) : Int) = ((hi * 2 ^ s : Nat) : Int) := u64_id (by omega) (by omega)
  have eC : Int.fdiv (lo : Int) (2 ^ (64 - s)) = (c : Int) := by
    have := fdiv_nat lo (2 ^ (64 - s)); rw [ec] at this; rw [← this]; push_cast; rfl
  have eO := bv_or hi c s hc (by omega)
  have eO2 : IntKind.wrap .u64 ((hi * 2 ^ s + c : Nat) : Int) = ((hi * 2 ^ s + c : Nat) : Int) := u64_id (by omega) (by omega)
  have eL2 : IntKind.wrap .u64 ((lo : Int) * 2 ^ s) = (L : Int) := by
    rw [IntKind.wrap_u64, ← eL, Int.natCast_emod, Int.natCast_mul, Int.natCast_pow]; rfl
  have hL : L < 18446744073709551616 := by omega
  have ek : ∀ x : Nat, Int.fdiv (x : Int) (2 ^ 32) = ((x / 4294967296 : Nat) : Int) := fun x => fdiv_nat x 4294967296
  simp only [es, em, es2, em2, eY, eY2, eH, eH2, eC, eO, eO2, eL2, ek]
  have hY := b
  have eY1 := bv_mask (y * 2 ^ s) b
  have eL1 := bv_mask L hL
  have eY3 : IntKind.wrap .u64 ((y * 2 ^ s % 4294967296 : Nat) : Int) = ((y * 2 ^ s % 4294967296 : Nat) : Int) := u64_id (by omega) (by omega)
  have eL3 : IntKind.wrap .u64 ((L % 4294967296 : Nat) : Int) = ((L % 4294967296 : Nat) : Int) := u64_id (by omega) (by omega)
  simp only [eY1, eL1, eY3, eL3]
  generalize hi * 2 ^ s + c = U at *
  generalize eYY : y * 2 ^ s = Y at *
  have fY1 : (Y : Int) = ((Y / 4294967296 : Nat) : Int) * 4294967296 + ((Y % 4294967296 : Nat) : Int) := by omega
  have fL1 : (L : Int) = ((L / 4294967296 : Nat) : Int) * 4294967296 + ((L % 4294967296 : Nat) : Int) := by omega
  have fY2 : (2147483648 : Int) ≤ ((Y / 4294967296 : Nat) : Int) := by omega
  have fY3 : ((Y / 4294967296 : Nat) : Int) < 4294967296 := by omega
  have fY4 : (0 : Int) ≤ ((Y % 4294967296 : Nat) : Int) := by omega
  have fY5 : ((Y % 4294967296 : Nat) : Int) < 4294967296 := by omega
  have fL2 : (0 : Int) ≤ ((L / 4294967296 : Nat) : Int) := by omega
  have fL3 : ((L / 4294967296 : Nat) : Int) < 4294967296 := by omega
  have fL4 : (0 : Int) ≤ ((L % 4294967296 : Nat) : Int) := by omega
  have fL5 : ((L % 4294967296 : Nat) : Int) < 4294967296 := by omega
  have eNi : (U : Int) * 18446744073709551616 + L = ((hi : Int) * 18446744073709551616 + lo) * ((2 ^ s : Nat) : Int) := by
    have := congrArg (Nat.cast : Nat → Int) eN
    rw [Int.natCast_add, Int.natCast_mul, Int.natCast_mul, Int.natCast_add, Int.natCast_mul] at this
    exact this
  have eYi : (Y : Int) = (y : Int) * ((2 ^ s : Nat) : Int) := by rw [← eYY]; push_cast; rfl
  have ps : (0 : Int) < ((2 ^ s : Nat) : Int) := Int.natCast_pos.2 (Nat.two_pow_pos s)
  have u0 : (0 : Int) ≤ (U : Int) := Int.natCast_nonneg _
  have uY : (U : Int) < (Y : Int) := Int.ofNat_lt.2 hU
  clear eY1 eL1 eY eYY eN eO eL2 eC eH eH2 em em2 es2 ec hc eL ek a
  have e2s : (2 : Int) ^ s = ((2 ^ s : Nat) : Int) := by push_cast; rfl
  simp only [e2s]
  clear e2s
  have hYb : (Y : Int) < 18446744073709551616 := by omega
  generalize ((2 ^ s : Nat) : Int) = S at *
  generalize ((Y / 4294967296 : Nat) : Int) = Y1 at *
  generalize ((Y % 4294967296 : Nat) : Int) = Y0 at *
  generalize ((L / 4294967296 : Nat) : Int) = L1 at *
  generalize ((L % 4294967296 : Nat) : Int) = L0 at *
  generalize (U : Int) = u at *
  refine ⟨by omega, by decide, by omega, by omega, by omega, by decide, by omega, fun k1 hk1 => ?_⟩
  have qY : ∀ q : Int, q * (Y : Int) = q * Y1 * 4294967296 + q * Y0 := fun q => by rw [fY1, Int.mul_add, Int.mul_assoc]
  have D1 : DSet Y1 Y0 u L1 := ⟨u0, by omega, fY2, fY3, fY4, fY5, fL2, fL3⟩
  have qp : ∀ {q : Int}, 0 ≤ q → q ≤ 4294967297 → 0 ≤ q * Y0 ∧ q * Y0 < 18446744073709551616 := by
    intro q a b
    have h1 := Int.mul_nonneg a fY4
    have h2 := Int.mul_le_mul b (show Y0 ≤ 4294967295 by omega) fY4 (by omega)
    exact ⟨h1, by omega⟩
  have ini : ∀ {v d : Int}, DSet Y1 Y0 v d → IntKind.wrap .u64 (Int.tdiv v Y1) = v / Y1 ∧ IntKind.wrap .u64 (v - IntKind.wrap .u64 (v / Y1 * Y1)) = v - v / Y1 * Y1 := by
    intro v d D
    have I := D.init
    have a := Int.mul_ediv_add_emod v Y1
    have m0 := Int.emod_nonneg v (show Y1 ≠ 0 by omega)
    rw [Int.mul_comm] at a
    have hv := D.u0
    have hv2 := D.uY
    have q0 := I.q0
    have qb := I.qb
    have r0 := I.r0
    have rb := I.rb
    have tq : Int.tdiv v Y1 = v / Y1 := Int.tdiv_eq_ediv_of_nonneg hv
    rw [tq]
    have p0 := Int.mul_nonneg q0 (show 0 ≤ Y1 by omega)
    generalize v / Y1 = q at *
    refine ⟨u64_id q0 (by omega), ?_⟩
    rw [u64_id (x := q * Y1) p0 (by omega)]
    exact u64_id r0 (by omega)
  have H1 : ∀ q : Int, DFin Y1 Y0 u L1 q → k1 q := by
    intro q F
    refine hk1 q ⟨by omega, ?_⟩
    have Flo := F.lo
    have Fup := F.up
    have Fq0 := F.q0
    have Fqb := F.qb
    rw [← qY] at Flo Fup
    obtain ⟨u2, eu2⟩ : ∃ u2 : Int, u2 = u * 4294967296 + L1 - q * (Y : Int) := ⟨_, rfl⟩
    have eu : IntKind.wrap .u64 (IntKind.wrap .u64 (IntKind.wrap .u64 (u * 4294967296) + L1) - IntKind.wrap .u64 (q * (Y : Int))) = u2 :=
      wsub (X := u * 4294967296 + L1) (p := q * (Y : Int)) eu2.symm (by omega) (by omega) (by rw [IntKind.wrap_u64, IntKind.wrap_u64]; omega) (by rw [IntKind.wrap_u64]; omega)
    have D2 : DSet Y1 Y0 u2 L0 := ⟨by omega, by omega, fY2, fY3, fY4, fY5, fL4, fL5⟩
    obtain ⟨i1, i2⟩ := ini D2
    have hfin : ∀ q2 : Int, DFin Y1 Y0 u2 L0 q2 → R (.t [.u (.i .u64 (IntKind.wrap .u64 (IntKind.wrap .u64 (q * 4294967296) + q2))), .u (.i .u64 (Int.fdiv (IntKind.wrap .u64 (IntKind.wrap .u64 (IntKind.wrap .u64 (u2 * 4294967296) + L0) - IntKind.wrap .u64 (q2 * (Y : Int)))) S))]) [] := by
      intro q2 F2
      have Glo := F2.lo
      have Gup := F2.up
      have Gq0 := F2.q0
      have Gqb := F2.qb
      rw [← qY] at Glo Gup
      obtain ⟨r2, er2⟩ : ∃ r2 : Int, r2 = u2 * 4294967296 + L0 - q2 * (Y : Int) := ⟨_, rfl⟩
      rw [wsub (r := r2) (X := u2 * 4294967296 + L0) (p := q2 * (Y : Int)) er2.symm (by omega) (by omega) (by rw [IntKind.wrap_u64, IntKind.wrap_u64]; omega) (by rw [IntKind.wrap_u64]; omega)]
      rw [u64_id (x := q * 4294967296) (by omega) (by omega), u64_id (by omega) (by omega)]
      have er : r2 = ((hi : Int) * 18446744073709551616 + lo - (q * 4294967296 + q2) * y) * S := by
        rw [Int.sub_mul, ← eNi, Int.mul_assoc, ← eYi, Int.add_mul, Int.mul_right_comm q]
        omega
      have hr0 : 0 ≤ r2 := by omega
      have hr1 : r2 < (Y : Int) := by omega
      rw [er, Int.fdiv_eq_ediv_of_nonneg _ (by omega), Int.mul_ediv_cancel _ (by omega)]
      rw [er, eYi] at hr1
      rw [er] at hr0
      have t0 := Int.nonneg_of_mul_nonneg_left hr0 ps
      have t1 := Int.lt_of_mul_lt_mul_right hr1 (Int.le_of_lt ps)
      obtain ⟨Q, eQ⟩ := Int.eq_ofNat_of_zero_le (show 0 ≤ q * 4294967296 + q2 by omega)
      rw [eQ] at t0 t1 ⊢
      obtain ⟨r, er'⟩ := Int.eq_ofNat_of_zero_le t0
      rw [er'] at t1 ⊢
      refine k Q r (by omega) (by omega) ?_
      have : (Q : Int) * y + r = (hi : Int) * 18446744073709551616 + lo := by omega
      refine Int.ofNat_inj.1 ?_
      rw [Int.natCast_add, Int.natCast_mul, Int.natCast_add, Int.natCast_mul]
      exact this
    simp only [eu, i1, i2]
    refine ⟨fun r q => DInv Y1 Y0 u2 L0 q r, fun r q => q.toNat, D2.init, ?_⟩
    rintro r q2 I
    have i1 := I.r0
    have i2 := I.rb
    have i3 := I.q0
    have i4 := I.qb
    obtain ⟨i5, i6⟩ := qp i3 i4
    rw [u64_id (x := q2 * Y0) i5 i6, u64_id (x := r + Y1) (by omega) (by omega), u64_id (x := 4294967296 * r) (by omega) (by omega), u64_id (x := 4294967296 * r + L0) (by omega) (by omega)]
    have go : 4294967296 ≤ q2 ∨ 4294967296 * r + L0 < q2 * Y0 → cond (decide (r + Y1 ≥ 4294967296)) (0 ≤ (s : Int) ∧ R (.t [.u (.i .u64 (IntKind.wrap .u64 (IntKind.wrap .u64 (q * 4294967296) + IntKind.wrap .u64 (q2 - 1)))), .u (.i .u64 (Int.fdiv (IntKind.wrap .u64 (IntKind.wrap .u64 (IntKind.wrap .u64 (u2 * 4294967296) + L0) - IntKind.wrap .u64 (IntKind.wrap .u64 (q2 - 1) * (Y : Int)))) S))]) []) (DInv Y1 Y0 u2 L0 (IntKind.wrap .u64 (q2 - 1)) (r + Y1) ∧ (IntKind.wrap .u64 (q2 - 1)).toNat < q2.toNat) := by
      intro hc
      have l1 := (I.less D2 hc).1
      rw [u64_id (x := q2 - 1) (by omega) (by omega)]
      exact cIf (fun hr => ⟨by omega, hfin _ (I.stop D2 hc hr)⟩) fun hr => ⟨I.next D2 hc (by omega), by omega⟩
    refine cIf (fun hc => go (.inl hc)) fun hc => cIf (fun hd => go (.inr hd)) fun hd => ?_
    exact ⟨by omega, hfin _ (I.fin D2 (by omega) (by omega))⟩
  obtain ⟨i1, i2⟩ := ini D1
  simp only [i1, i2]
  refine ⟨fun q r => DInv Y1 Y0 u L1 q r, fun q r => q.toNat, D1.init, ?_⟩
  rintro q r I
  have i1 := I.r0
  have i2 := I.rb
  have i3 := I.q0
  have i4 := I.qb
  obtain ⟨i5, i6⟩ := qp i3 i4
  rw [u64_id (x := q * Y0) i5 i6, u64_id (x := r + Y1) (by omega) (by omega), u64_id (x := 4294967296 * r) (by omega) (by omega), u64_id (x := 4294967296 * r + L1) (by omega) (by omega)]
  have go : 4294967296 ≤ q ∨ 4294967296 * r + L1 < q * Y0 → cond (decide (r + Y1 ≥ 4294967296)) (k1 (IntKind.wrap .u64 (q - 1))) (DInv Y1 Y0 u L1 (IntKind.wrap .u64 (q - 1)) (r + Y1) ∧ (IntKind.wrap .u64 (q - 1)).toNat < q.toNat) := by
    intro hc
    have l1 := (I.less D1 hc).1
    rw [u64_id (x := q - 1) (by omega) (by omega)]
    exact cIf (fun hr => H1 _ (I.stop D1 hc hr)) fun hr => ⟨I.next D1 hc (by omega), by omega⟩
  refine cIf (fun hc => go (.inl hc)) fun hc => cIf (fun hd => go (.inr hd)) fun hd => ?_
  exact H1 _ (I.fin D1 (by omega) (by omega))
end Go.Proofs.YtljgfkiiikcaaaaGreat

/- Lists of numbers that are owned: the least one; the first one with something; in the style of heaps. -/
set_option linter.unusedVariables false
namespace Go.Proofs.YtljgfkiiikcaaaaGreat
open Go Go.Proofs
attribute [local irreducible] appK copyK delK updK lookK makeK rangeK nextM entryM mapEntryK entryStK lenMapK
variable {P : Program} {D D' : Fz} {C : List Chunk} {h h' : Heap}
section
variable {α : Type} {e : α → List U} {T E sz : Nat}
theorem rows_len (he : ∀ x, (e x).length = sz) (l : List α) : ∀ r ∈ l.map e, r.length = sz := by
  intro r hr; obtain ⟨t, -, rfl⟩ := List.mem_map.1 hr; exact he t
theorem app_e {a a2 : Option Addr} {c m n cx : Nat} {r r2 : List α} {ch : Chunk} {K : Value → Heap → Prop} (ty : ElTy P T E sz) (own : Own D E sz a c (r.map e) ch) (S : St D (ch :: C) h) (src : Src D h sz a2 (r2.map e)) (hn : n = r.length) (hm : m = r2.length) (hb : r.length + r2.length ≤ 1000000)
    (hK : ∀ a' c' ch' h', Own D E sz a' c' ((r ++ r2).map e) ch' → St D (ch' :: C) h' → K (.slice a' (r ++ r2).length c') h') : appK P #[T, T] T (.slice a n c) (.slice a2 m cx) h K := by
  obtain ⟨hT, i, z, hi, hsz, hby, hby2, hz, hzs⟩ := ty
  subst hm hn
  by_cases hr2 : r2 = []
  · subst hr2
    refine app_nil (E := E) hT hi (by simpa using own.len) ?_
    simpa using hK a c ch h (by simpa using own) S
  subst hsz
  have hl : r.length = (r.map e).length := by simp
  rw [hl]
  have hbd : (2 * ((r.map e).length + (r2.map e).length) + 512) * i.bytes ≤ 281474976710656 := by
    simp only [List.length_map]
    have := Nat.mul_le_mul (show 2 * (r.length + r2.length) + 512 ≤ 2000512 by omega) hby2
    omega
  refine Own.app own S hT hi hz hzs hby src (by simp) hbd (by simpa using hr2) fun a' c' ch' h' own' S' => ?_
  rw [← List.map_append] at own'
  rw [← List.map_append, List.length_map]
  exact hK a' c' ch' h' own' S'
theorem src_one {b : Nat} {T' : TypeId} {f : Nat × Nat} {vs : List Value} {c0 : Chunk} {x : α} (S : St D (c0 :: [(b, Obj.cells ⟨vs⟩ T' f)] :: C) h) (he : ∀ x, (e x).length = sz) (hv : RdL D vs (e x)) : Src D h sz (some ⟨b, 0, none⟩) ([x].map e) :=
  Src.one (c := []) S (List.mem_cons_of_mem _ List.mem_cons_self) hv (he x)
end
def fstI {α : Type} (p : α → Bool) : List α → Nat → Int
  | [], _ => -1
  | x :: l, k => if p x = true then k else fstI p l (k + 1)
theorem callV_1 {P : Program} {g : FuncId} {args : List Value} {c : Value} {h : Heap} {R : Value → Heap → Prop} (hr : Run P g (args ++ [c]) h R) : CallV P (.func (.func g) #[] #[c]) args h R := by
  unfold CallV
  simpa using hr
theorem callV_mono {P : Program} {f : Value} {args : List Value} {h : Heap} {R R' : Value → Heap → Prop} (hh : CallV P f args h R) (k : ∀ v h', R v h' → R' v h') : CallV P f args h R' := by
  unfold CallV at hh ⊢
  split at hh
  · exact hh.mono k
  · exact hh.elim
theorem fstI_bd {α : Type} (p : α → Bool) : ∀ (l : List α) (k : Nat), -1 ≤ fstI p l k ∧ fstI p l k < k + l.length
  | [], k => by simp [fstI]; omega
  | x :: l, k => by
    have := fstI_bd p l (k + 1)
    simp only [fstI, List.length_cons]
    split <;> omega

def eI (x : Int) : List U := [.n x]
theorem eI1 (x : Int) : (eI x).length = 1 := rfl
theorem rd_I {vs : List Value} {x : Int} : RdL D vs (eI x) ↔ vs = [.int .i64 x] := by
  simp only [eI, RdL.cons_iff, RdL.nil_iff, Rd.int_iff]
  constructor
  · rintro ⟨_, _, rfl, rfl, rfl⟩; rfl
  · rintro rfl; exact ⟨_, _, rfl, rfl, rfl⟩
theorem own_I {T : TypeId} {a : Option Addr} {c : Nat} {L : List Int} {ch : Chunk} (hx : Own D T 1 a c (L.map eI) ch) (S : St D (ch :: C) h) {z : Int} {i : Nat} (hz : z = i) {t : Int} (hi : L[i]? = some t) {K : Nat → Nat → Prop}
    (hK : ∀ b o, hcell h ⟨b, o + z.toNat * 1, none⟩ = some (.int .i64 t) → K b o) : onPtr a K :=
  hx.at S hz (r := eI t) (by simp [hi]) fun b o vs hv hc => by
    rw [rd_I] at hv; subst hv
    exact hK b o (hc 0 (by omega))
theorem eyI : ElTy Tryz.prog 33 3 1 := .of (by kernel_rfl)
/-- The least of numbers, and one. -/
def minI : Int → List Int → Int
  | m, [] => m
  | m, x :: l => minI (if x < m then x else m) l
theorem minI_mem : ∀ (l : List Int) (m : Int), minI m l = m ∨ minI m l ∈ l
  | [], m => .inl rfl
  | x :: l, m => by
    simp only [minI, List.mem_cons]
    rcases minI_mem l (if x < m then x else m) with h | h
    · rw [h]; split <;> simp
    · exact .inr (.inr h)
theorem minI_le : ∀ (l : List Int) (m : Int), minI m l ≤ m ∧ ∀ y ∈ l, minI m l ≤ y
  | [], m => ⟨Int.le_refl _, by simp⟩
  | x :: l, m => by
    have := minI_le l (if x < m then x else m)
    simp only [minI, List.mem_cons, forall_eq_or_imp]
    refine ⟨?_, ?_, this.2⟩
    · have h := this.1; split at h <;> omega
    · have h := this.1; split at h <;> omega
theorem min_spec {T : TypeId} {a : Option Addr} {c : Nat} {x : Int} {l : List Int} {ch : Chunk} (own : Own D T 1 a c ((x :: l).map eI) ch) (S : St D (ch :: C) h) (hn : l.length ≤ 1000) :
    Run Tryz.prog 43 [.slice a (l.length + 1) c] h fun v h' => v = .int .i64 (minI x l) ∧ h' = h := by
  refine V43 _ _ _ _ _ ?_
  unfold VC43
  refine cIf (fun h => by omega) fun _ => ?_
  refine own_I own S (z := 0) (i := 0) rfl rfl fun b o c0 => ⟨by decide, by omega, _, c0, ?_⟩
  refine ⟨fun m z h' => ∃ i : Nat, z = i ∧ 1 ≤ i ∧ i ≤ l.length + 1 ∧ minI x l = minI m (l.drop (i - 1)) ∧ h' = h, fun _ z _ => l.length + 1 - z.toNat, ⟨1, rfl, by omega, by omega, rfl, rfl⟩, ?_⟩
  rintro - h1 m z ⟨i, rfl, h1i, hi, he, eh⟩
  obtain rfl : h = h1 := eh.symm
  refine cIf (fun hlt => ?_) fun hge => ?_
  · obtain ⟨j, rfl⟩ : ∃ j, i = j + 1 := ⟨i - 1, by omega⟩
    have hjl : j < l.length := by omega
    rw [Nat.add_sub_cancel, List.drop_eq_getElem_cons hjl] at he
    refine own_I own S rfl (t := l[j]) (by rw [List.getElem?_cons_succ]; exact List.getElem?_eq_getElem hjl) fun b o c0 => ⟨by omega, by omega, _, c0, ?_⟩
    rw [w64n (by omega)]
    exact ⟨⟨j + 2, rfl, by omega, by omega, he, rfl⟩, by simp only [Int.toNat_natCast]; omega⟩
  · have : i = l.length + 1 := by omega
    subst this
    exact ⟨by rw [he]; simp [minI], rfl⟩
end Go.Proofs.YtljgfkiiikcaaaaGreat

/- Numbers without those that a predicate takes (slices.DeleteFunc). -/
set_option linter.unusedVariables false
namespace Go.Proofs.YtljgfkiiikcaaaaGreat
open Go Go.Proofs
attribute [local irreducible] appK copyK delK updK lookK makeK rangeK nextM entryM mapEntryK entryStK lenMapK
variable {P : Program} {D D' : Fz} {C : List Chunk} {h h' : Heap}
/-- The first k with p, from k on; -1: none (slices.IndexFunc of numbers). -/
theorem indexI_spec {T : TypeId} {a : Option Addr} {c : Nat} {l : List Int} {ch : Chunk} (own : Own D T 1 a c (l.map eI) ch) (S : St D (ch :: C) h) (hn : l.length ≤ 1000) (p : Int → Bool) (f : Value)
    (hf : ∀ x ∈ l, ∀ h, St D (ch :: C) h → CallV Tryz.prog f [.int .i64 x] h fun v h' => v = .bool (p x) ∧ St D (ch :: C) h') :
    Run Tryz.prog 91 [.slice a l.length c, f] h fun v h' => v = .int .i64 (fstI p l 0) ∧ St D (ch :: C) h' := by
  refine V91 _ _ _ _ _ _ ?_
  unfold VC91
  refine ⟨fun z h' => ∃ i : Nat, z = i ∧ i ≤ l.length ∧ fstI p l 0 = fstI p (l.drop i) i ∧ St D (ch :: C) h', fun z _ => l.length - z.toNat, ⟨0, rfl, by omega, rfl, S⟩, ?_⟩
  rintro - h1 z ⟨i, rfl, hi, he, S⟩
  refine cIf (fun hlt => ?_) fun hge => ?_
  · have hil : i < l.length := by omega
    rw [List.drop_eq_getElem_cons hil] at he
    refine own_I own S rfl (List.getElem?_eq_getElem hil) fun b o c0 => ⟨by omega, by omega, _, c0, ?_⟩
    refine callV_mono (hf _ (List.getElem_mem hil) h1 S) ?_
    rintro v h2 ⟨rfl, S⟩
    refine ⟨_, rfl, cB (fun hp => ?_) fun hp => ?_⟩
    · exact ⟨by rw [he]; simp [fstI, hp], S⟩
    · rw [w64n (by omega)]
      exact ⟨⟨i + 1, rfl, by omega, by rw [he]; simp [fstI, hp], S⟩, by simp only [Int.toNat_natCast]; omega⟩
  · have : i = l.length := by omega
    subst this
    exact ⟨by rw [he]; simp [fstI], S⟩
theorem clearI {P : Program} {T E : TypeId} {i : TypeInfo} {z : Value} {b o n c : Nat} {l : List Value} {e : TypeId} {h : Heap} {K : Value → Heap → Prop} (hu : P.underlying T = some (.slice E)) (hi : P.info? E = some i) (hz : i.zero = some z) (hzs : z.cells = #[z]) (hs : single z = true)
    (hb : h[b]? = some (.cells l.toArray e (0, 0))) (hl : o + n ≤ l.length)
    (hK : ∀ h', h'[b]? = some (.cells (splice l o (List.replicate n z)).toArray e (0, 0)) → KB [b] h h' → h'.size = h.size → K (.tuple #[]) h') : clearK P #[T] 0 (.slice (some ⟨b, o, none⟩) n c) h K := by
  unfold clearK
  show SWp P (underlying T >>= _) h K
  refine SWp_bind (SWp_underlying hu ?_)
  cases n with
  | zero =>
    show SWp P (pure (Value.tuple #[])) h K
    exact hK h (by simpa [splice] using hb) (.refl _ _) rfl
  | succ n =>
    refine SWp_bind (SWp_zero hi hz ?_)
    have hzc : (Builtin.zeroCells z.cells (n + 1)).toList = List.replicate (n + 1) z := by
      rw [hzs]
      simp [Builtin.zeroCells]
      apply List.ext_getElem
      · simp
      · intro i h1 h2
        simp [Nat.mod_one]
    rw [hzc]
    refine SWp_bind (SWp_storeCells_blk hb (by simpa using hl) (fun v hv => by rw [List.eq_of_mem_replicate hv]; exact hs) fun h' h1 k s => ?_)
    exact hK h' h1 k s
/-- One number of an own row is written anew. -/
theorem put_I {T : TypeId} {a : Option Addr} {c i : Nat} {L : List Int} {ch : Chunk} (own : Own D T 1 a c (L.map eI) ch) (S : St D (ch :: C) h) {z : Int} (hz : z = i) (hi : i < L.length) (x : Int) {K : Nat → Nat → Prop}
    (hK : ∀ b o, (∀ K' : Heap → Prop, (∀ ch' h', Own D T 1 a c ((L.set i x).map eI) ch' → St D (ch' :: C) h' → K' h') → stK h ⟨b, o + z.toNat * 1, none⟩ (.int .i64 x) K') → K b o) : onPtr a K := by
  refine own.put S hz (by simpa using hi) (r' := eI x) (vs := [.int .i64 x]) (rd_I.2 rfl) rfl fun b o f => hK b o fun K' k => ?_
  have := f K' fun ch' h' o' S' => k ch' h' (by rw [List.map_set]; exact o') S'
  simp only [storeS, addO_eq, Nat.add_zero] at this
  exact this
attribute [local irreducible] clearK
/-- The tail of an own row of numbers is cleared. -/
theorem clear_I {a : Option Addr} {c i : Nat} {L : List Int} {ch : Chunk} (own : Own D 3 1 a c (L.map eI) ch) (S : St D (ch :: C) h) (hi : i ≤ L.length) (h0 : L ≠ []) {K : Value → Heap → Prop}
    (hK : ∀ ch' h', Own D 3 1 a c ((L.take i).map eI) ch' → St D (ch' :: C) h' → K (.tuple #[]) h') : clearK Tryz.prog #[33] 0 (.slice (slA a c i 1) (subN L.length i) (subN c i)) h K := by
  obtain ⟨hT, y, z, hy, hsz, hby, hby2, hz, hzs⟩ := eyI
  have hz0 : z = .int .i64 0 := by
    have : (Tryz.prog.info? 3).map (·.zero) = some (some (.int .i64 0)) := by kernel_rfl
    rw [hy, Option.map_some, hz] at this
    simpa using this
  subst hz0
  generalize hr : L.map eI = rows at own
  cases own with
  | nil => simp at hr; exact absurd hr h0
  | row b c arr rows v h1 h2 h3 h4 h5 =>
    obtain ⟨l⟩ := arr
    subst hr
    have h1' : l.length = c := by simpa using h1
    rw [List.length_map] at h2
    obtain ⟨o, ho, hoi⟩ : ∃ o, slA (some ⟨b, 0, none⟩) c i 1 = some ⟨b, o, none⟩ ∧ o + (L.length - i) ≤ c ∧ (o = i ∨ L.length - i = 0) := by
      unfold slA
      cases i with
      | zero => exact ⟨0, rfl, by omega, .inl rfl⟩
      | succ i =>
        simp only [Nat.beq, cond_false]
        by_cases hc : c = i + 1
        · rw [if_pos hc]; exact ⟨0, rfl, by omega, .inr (by omega)⟩
        · rw [if_neg hc]; exact ⟨i + 1, by simp, by omega, .inl rfl⟩
    rw [ho, subN_eq, subN_eq]
    refine clearI hT hy hz rfl rfl (S.get (List.mem_singleton_self _)) (by omega) fun h' hb k s => ?_
    have S' : St D ([(b, .cells ⟨splice l o (List.replicate (L.length - i) (.int .i64 0))⟩ 3 (0, 0))] :: C) h' := S.upd (by simpa using k) (by simpa using hb) (by simp) (by simp)
    refine hK _ h' (.row b c _ _ v (by simp [splice_length, h1']) (by rw [List.length_map, List.length_take]; omega) (rows_len eI1 _) (fun p q r u hp hq => ?_) fun p q r u hp hq => ?_) S'
    all_goals
      have hpi : p < i := by have := (List.getElem?_eq_some_iff.1 hp).1; rw [List.length_map, List.length_take] at this; omega
      have hp' : (L.map eI)[p]? = some r := by
        rw [List.getElem?_map, List.getElem?_take_of_lt hpi, ← List.getElem?_map] at hp; exact hp
    · have hq1 : q < 1 := by have := (List.getElem?_eq_some_iff.1 hq).1; rwa [h3 r (List.mem_of_getElem? hp')] at this
      have := h4 p q r u hp' hq
      simp only [List.getElem?_toArray] at this ⊢
      rw [splice_get _ _ _ _ (by simp; omega)]
      rw [List.length_replicate]
      rcases hoi.2 with e | e
      · rw [if_pos (by omega)]; exact this
      · by_cases hpo : p * 1 + q < o
        · rw [if_pos hpo]; exact this
        · rw [if_neg hpo, if_neg (by omega)]; exact this
    · exact h5 p q r u hp' hq
theorem fstI_cases {α : Type} (p : α → Bool) : ∀ (l : List α) (k : Nat), (fstI p l k = -1 ∧ ∀ x ∈ l, p x = false) ∨ ∃ d : Nat, fstI p l k = ((k + d : Nat) : Int) ∧ d < l.length ∧ (∀ x, l[d]? = some x → p x = true) ∧ ∀ x ∈ l.take d, p x = false
  | [], k => .inl ⟨rfl, by simp⟩
  | x :: l, k => by
    simp only [fstI]
    by_cases hp : p x = true
    · rw [if_pos hp]; exact .inr ⟨0, by simp, by simp, by simp [hp], by simp⟩
    · rw [if_neg hp]
      have hp' : p x = false := by simpa using hp
      rcases fstI_cases p l (k + 1) with ⟨h1, h2⟩ | ⟨d, h1, h2, h3, h4⟩
      · exact .inl ⟨h1, by simpa [hp'] using h2⟩
      · exact .inr ⟨d + 1, by rw [h1]; congr 1; omega, by simpa using h2, by simpa using h3, by simpa [hp'] using h4⟩
def keepI (p : Int → Bool) (l : List Int) : List Int := l.filter fun x => !p x
theorem keepI_all {p : Int → Bool} {l : List Int} (h : ∀ x ∈ l, p x = false) : keepI p l = l := by
  unfold keepI; rw [List.filter_eq_self]; intro x hx; simp [h x hx]
theorem keepI_snoc {p : Int → Bool} {l : List Int} {j : Nat} {x : Int} (h : l[j]? = some x) : keepI p (l.take (j + 1)) = if p x = true then keepI p (l.take j) else keepI p (l.take j) ++ [x] := by
  unfold keepI
  rw [List.take_add_one, h, List.filter_append]
  split <;> simp_all
theorem deleteI_spec {a : Option Addr} {c : Nat} {l : List Int} {ch : Chunk} (own : Own D 3 1 a c (l.map eI) ch) (S : St D (ch :: C) h) (hn : l.length ≤ 1000) (p : Int → Bool) (f : Value)
    (hf : ∀ x ∈ l, ∀ ch h, St D (ch :: C) h → CallV Tryz.prog f [.int .i64 x] h fun v h' => v = .bool (p x) ∧ St D (ch :: C) h') :
    Run Tryz.prog 103 [.slice a l.length c, f] h fun v h' => ∃ ch', v = .slice a (keepI p l).length c ∧ Own D 3 1 a c ((keepI p l).map eI) ch' ∧ St D (ch' :: C) h' := by
  refine V103 _ _ _ _ _ _ ?_
  unfold VC103
  refine (indexI_spec own S hn p f fun x hx h S => hf x hx ch h S).mono ?_
  rintro v h1 ⟨rfl, S⟩
  refine ⟨_, rfl, ?_⟩
  rcases fstI_cases p l 0 with ⟨e, hall⟩ | ⟨d, e, hd, hpd, hall⟩
  · rw [e]
    refine cEq (fun _ => ?_) fun h => absurd rfl h
    have hk := keepI_all hall
    exact ⟨ch, by rw [hk], by rw [hk]; exact own, S⟩
  rw [e, Nat.zero_add]
  refine cEq (fun h => by omega) fun _ => ?_
  rw [w64n (by omega)]
  have hlc : l.length ≤ c := by simpa using own.len
  refine ⟨fun x y h' => ∃ (i j : Nat) (r : List Int) (ch : Chunk), x = i ∧ y = j ∧ i < j ∧ j ≤ l.length ∧ r.length = l.length ∧ r.take i = keepI p (l.take j) ∧ r.drop j = l.drop j ∧ Own D 3 1 a c (r.map eI) ch ∧ St D (ch :: C) h',
    fun _ y _ => l.length - y.toNat, ⟨d, d + 1, l, ch, rfl, rfl, by omega, by omega, rfl, ?_, rfl, own, S⟩, ?_⟩
  · rw [keepI_snoc (List.getElem?_eq_getElem hd), if_pos (hpd _ (List.getElem?_eq_getElem hd)), keepI_all hall]
  rintro - h2 x y ⟨i, j, r, ch, rfl, rfl, hij, hj, hr, htk, hdr, own, S⟩
  refine cIf (fun hlt => ?_) fun hge => ?_
  · have hjl : j < l.length := by omega
    have hgj : r[j]? = some l[j] := by
      have : (r.drop j)[0]? = (l.drop j)[0]? := by rw [hdr]
      rw [← List.getElem?_eq_getElem hjl]
      simpa using this
    refine own_I own S rfl hgj fun b o c0 => ⟨by omega, by omega, _, c0, ?_⟩
    refine callV_mono (hf _ (List.getElem_mem hjl) ch h2 S) ?_
    rintro v h3 ⟨rfl, S⟩
    have hsn := keepI_snoc (p := p) (List.getElem?_eq_getElem hjl)
    have hdr1 : r.drop (j + 1) = l.drop (j + 1) := by
      have := congrArg (List.drop 1) hdr
      simpa [List.drop_drop] using this
    refine ⟨_, rfl, cNot (cB (fun hp => ?_) fun hp => ?_)⟩
    · rw [w64n (by omega)]
      exact ⟨⟨i, j + 1, r, ch, rfl, rfl, by omega, by omega, hr, by rw [hsn, if_pos hp]; exact htk, hdr1, own, S⟩, by simp only [Int.toNat_natCast]; omega⟩
    · refine put_I own S rfl (i := i) (by omega) l[j] fun b o k => ⟨by omega, by omega, k _ fun ch' h' own S => ?_⟩
      rw [w64n (by omega), w64n (by omega)]
      refine ⟨⟨i + 1, j + 1, r.set i l[j], ch', rfl, rfl, by omega, by omega, by simpa using hr, ?_, ?_, own, S⟩, by simp only [Int.toNat_natCast]; omega⟩
      · rw [hsn, if_neg (by simp [hp]), ← htk, List.take_add_one, List.getElem?_set_self (by omega), List.take_set_of_le (by omega)]; rfl
      · rw [List.drop_set_of_lt (by omega)]; exact hdr1
  · have : j = l.length := by omega
    subst this
    refine ⟨by omega, by omega, by omega, ?_⟩
    rw [List.take_length] at htk
    simp only [Int.toNat_natCast]
    rw [← hr]
    refine clear_I own S (by omega) (by intro h0; subst h0; simp at hr; omega) fun ch' h' own S => ?_
    rw [htk] at own
    have hi : i = (keepI p l).length := by rw [← htk, List.length_take]; omega
    exact ⟨by omega, by omega, ch', by rw [← hi], own, S⟩
end Go.Proofs.YtljgfkiiikcaaaaGreat

/- Slots: a row of chunks, one of which is taken and put back; the cells of a web. -/
set_option linter.unusedVariables false
namespace Go.Proofs.YtljgfkiiikcaaaaGreat
open Go Go.Proofs
attribute [local irreducible] appK copyK delK updK lookK makeK rangeK nextM entryM mapEntryK entryStK lenMapK
variable {P : Program} {D D' : Fz} {C : List Chunk} {h h' : Heap}

def updF {α : Type} (f : Nat → α) (k : Nat) (x : α) : Nat → α := fun j => if j = k then x else f j
theorem updF_self {α : Type} (f : Nat → α) (k : Nat) (x : α) : updF f k x k = x := by simp [updF]
theorem updF_ne {α : Type} (f : Nat → α) {k j : Nat} (x : α) (h : j ≠ k) : updF f k x j = f j := by simp [updF, h]
theorem updF_id {α : Type} (f : Nat → α) (k : Nat) : updF f k (f k) = f := by funext j; unfold updF; split <;> simp_all
theorem updF_updF {α : Type} (f : Nat → α) (k : Nat) (x y : α) : updF (updF f k x) k y = updF f k y := by funext j; unfold updF; split <;> simp_all
abbrev row (N : Nat) (g : Nat → Chunk) : List Chunk := (List.range N).map g
theorem row_perm (g : Nat → Chunk) (k : Nat) (ch : Chunk) : ∀ N, k < N → (row N (updF g k ch)).flatten.Perm (ch ++ (row N (updF g k [])).flatten)
  | 0, h => by omega
  | N + 1, h => by
    have hs : ∀ x, (row (N + 1) (updF g k x)).flatten = (row N (updF g k x)).flatten ++ updF g k x N := fun x => by simp [row, List.range_succ]
    rw [hs, hs]
    by_cases hk : k = N
    · subst hk
      have he : ∀ x y, row k (updF g k x) = row k (updF g k y) := fun x y => List.map_congr_left fun j hj => by
        have := List.mem_range.1 hj
        rw [updF_ne _ _ (by omega), updF_ne _ _ (by omega)]
      rw [updF_self, updF_self, he ch [], List.append_nil]
      exact List.perm_append_comm
    · rw [updF_ne _ _ (by omega), updF_ne _ _ (by omega), ← List.append_assoc]
      exact (row_perm g k ch N (by omega)).append_right _
theorem St.take {N k : Nat} {g : Nat → Chunk} {B : Chunk} (S : St D (B :: (row N g ++ C)) h) (hk : k < N) : St D (g k :: B :: (row N (updF g k []) ++ C)) h := by
  refine S.perm ?_
  have := row_perm g k (g k) N hk
  rw [updF_id] at this
  simp only [List.flatten_cons, List.flatten_append]
  refine ((this.append_right C.flatten).append_left B).trans ?_
  rw [List.append_assoc, ← List.append_assoc, ← List.append_assoc (g k)]
  exact List.perm_append_comm.append_right _
theorem St.give {N k : Nat} {g : Nat → Chunk} {B ch : Chunk} (S : St D (ch :: B :: (row N (updF g k []) ++ C)) h) (hk : k < N) : St D (B :: (row N (updF g k ch) ++ C)) h := by
  refine S.perm ?_
  have := (row_perm g k ch N hk).symm
  simp only [List.flatten_cons, List.flatten_append]
  refine List.Perm.trans ?_ ((this.append_right C.flatten).append_left B)
  rw [List.append_assoc, ← List.append_assoc, ← List.append_assoc B]
  exact List.perm_append_comm.append_right _

def needsOf (P : List Stk) (k : Nat) : List Int := (P.filter fun p => p.1 == (k : Int)).map (·.2)
def usersOf (P : List Stk) (k : Nat) : List Int := (P.filter fun p => p.2 == (k : Int)).map (·.1)
theorem needsOf_snoc (P : List Stk) (p : Stk) (h : 0 ≤ p.1) : needsOf (P ++ [p]) = updF (needsOf P) p.1.toNat (needsOf P p.1.toNat ++ [p.2]) := by
  funext k
  unfold needsOf updF
  rw [List.filter_append, List.map_append]
  by_cases hk : k = p.1.toNat
  · subst hk
    rw [if_pos rfl]
    have : (p.1 == ((p.1.toNat : Nat) : Int)) = true := by simp; omega
    rw [List.filter_cons, if_pos this]; rfl
  · rw [if_neg hk]
    have : (p.1 == (k : Int)) = false := by simp; omega
    simp [List.filter_cons, this]
theorem usersOf_snoc (P : List Stk) (p : Stk) (h : 0 ≤ p.2) : usersOf (P ++ [p]) = updF (usersOf P) p.2.toNat (usersOf P p.2.toNat ++ [p.1]) := by
  funext k
  unfold usersOf updF
  rw [List.filter_append, List.map_append]
  by_cases hk : k = p.2.toNat
  · subst hk
    rw [if_pos rfl]
    have : (p.2 == ((p.2.toNat : Nat) : Int)) = true := by simp; omega
    rw [List.filter_cons, if_pos this]; rfl
  · rw [if_neg hk]
    have : (p.2 == (k : Int)) = false := by simp; omega
    simp [List.filter_cons, this]

/- ## Cells -/
def tab (N : Nat) (f : Nat → Value) : List Value := (List.range N).map f
theorem tab_len (N : Nat) (f : Nat → Value) : (tab N f).length = N := by simp [tab]
theorem tab_get {N k : Nat} (f : Nat → Value) (h : k < N) : (tab N f)[k]? = some (f k) := by simp [tab, h]
theorem tab_set {N k : Nat} (f : Nat → Value) (v : Value) : (tab N f).set k v = tab N (updF f k v) := by
  apply List.ext_getElem?
  intro j
  unfold tab
  by_cases hj : j < N
  · rw [List.getElem?_set]
    by_cases hk : k = j
    · subst hk; simp [hj, updF]
    · rw [if_neg hk]; simp [hj, updF, Ne.symm hk]
  · rw [List.getElem?_eq_none (by simp; omega), List.getElem?_eq_none (by simp; omega)]
def cellsW (n : Int) (A B : Nat → Value) (O : Nat → Int) : List Value := .int .i64 n :: (tab 65 A ++ (tab 65 (fun k => .int .i64 (O k)) ++ tab 65 B))
section
variable {n : Int} {A B : Nat → Value} {O : Nat → Int} {k : Nat}
theorem W_len : (cellsW n A B O).length = 196 := by simp [cellsW, tab_len]
theorem W_A (h : k < 65) : (cellsW n A B O)[1 + k]? = some (A k) := by
  unfold cellsW
  rw [Nat.add_comm, List.getElem?_cons_succ, List.getElem?_append_left (by rw [tab_len]; exact h), tab_get _ h]
theorem W_O (h : k < 65) : (cellsW n A B O)[66 + k]? = some (.int .i64 (O k)) := by
  unfold cellsW
  rw [show 66 + k = (65 + k) + 1 by omega, List.getElem?_cons_succ, List.getElem?_append_right (by rw [tab_len]; omega), tab_len, Nat.add_sub_cancel_left, List.getElem?_append_left (by rw [tab_len]; exact h), tab_get _ h]
theorem W_B (h : k < 65) : (cellsW n A B O)[131 + k]? = some (B k) := by
  unfold cellsW
  rw [show 131 + k = (65 + (65 + k)) + 1 by omega, List.getElem?_cons_succ, List.getElem?_append_right (by rw [tab_len]; omega), tab_len, Nat.add_sub_cancel_left, List.getElem?_append_right (by rw [tab_len]; omega), tab_len, Nat.add_sub_cancel_left, tab_get _ h]
theorem W_setA (h : k < 65) (v : Value) : (cellsW n A B O).set (1 + k) v = cellsW n (updF A k v) B O := by
  unfold cellsW
  rw [Nat.add_comm, List.set_cons_succ, List.set_append_left _ _ (by rw [tab_len]; exact h), tab_set]
theorem W_setO (h : k < 65) (x : Int) : (cellsW n A B O).set (66 + k) (.int .i64 x) = cellsW n A B (updF O k x) := by
  unfold cellsW
  rw [show 66 + k = (65 + k) + 1 by omega, List.set_cons_succ, List.set_append_right _ _ (by rw [tab_len]; omega), tab_len, Nat.add_sub_cancel_left, List.set_append_left _ _ (by rw [tab_len]; exact h), tab_set]
  congr 4
  funext j; unfold updF; split <;> rfl
theorem W_setB (h : k < 65) (v : Value) : (cellsW n A B O).set (131 + k) v = cellsW n A (updF B k v) O := by
  unfold cellsW
  rw [show 131 + k = (65 + (65 + k)) + 1 by omega, List.set_cons_succ, List.set_append_right _ _ (by rw [tab_len]; omega), tab_len, Nat.add_sub_cancel_left, List.set_append_right _ _ (by rw [tab_len]; omega), tab_len, Nat.add_sub_cancel_left, tab_set]
end
abbrev webB (m : Nat) (n : Int) (A B : Nat → Value) (O : Nat → Int) : Chunk := [(m, .cells ⟨cellsW n A B O⟩ 142 (0, 0))]
def Slots (D : Fz) (A : Nat → Value) (f : Nat → List Int) (g : Nat → Chunk) : Prop := ∀ k, k < 65 → ∃ a c, A k = .slice a (f k).length c ∧ Own D 3 1 a c ((f k).map eI) (g k)
theorem Slots.upd {A : Nat → Value} {f : Nat → List Int} {g : Nat → Chunk} (s : Slots D A f g) (k : Nat) {a : Option Addr} {c : Nat} {r : List Int} {ch : Chunk} (o : Own D 3 1 a c (r.map eI) ch) :
    Slots D (updF A k (.slice a r.length c)) (updF f k r) (updF g k ch) := by
  intro j hj
  unfold updF
  split
  · exact ⟨a, c, rfl, o⟩
  · exact s j hj
def RdW (D : Fz) (A : Nat → Value) (f : Nat → List Int) : Prop := ∀ k, k < 65 → ∃ a c, A k = .slice a (f k).length c ∧ Rd D (.slice a (f k).length c) (.l 1 ((f k).map eI))
theorem RdW.mono {A : Nat → Value} {f : Nat → List Int} (r : RdW D A f) (l : Le D D') : RdW D' A f := fun k hk => let ⟨a, c, e, x⟩ := r k hk; ⟨a, c, e, x.mono l⟩
theorem Own.rd {T : TypeId} {sz c : Nat} {a : Option Addr} {rows : List (List U)} {ch : Chunk} (o : Own D T sz a c rows ch) (l : Le D D') (g : ∀ p ∈ ch, D' p.1 = some p.2) : Rd D' (.slice a rows.length c) (.l sz rows) := by
  cases o with
  | nil => exact .nil _ _ _
  | row b c arr rows v h1 h2 h3 h4 h5 =>
    exact .row b 0 c arr T (0, 0) rows sz v (g (b, _) (by simp)) h2 h3 (fun i j r u a b => by rw [Nat.zero_add]; exact h4 i j r u a b) fun i j r u a b => (h5 i j r u a b).mono l
theorem Slots.rd {A : Nat → Value} {f : Nat → List Int} {g : Nat → Chunk} (s : Slots D A f g) (l : Le D D') (hg : ∀ p ∈ (row 65 g).flatten, D' p.1 = some p.2) : RdW D' A f := by
  intro k hk
  obtain ⟨a, c, e, o⟩ := s k hk
  refine ⟨a, c, e, ?_⟩
  have := o.rd l fun p hp => hg p (List.mem_flatten.2 ⟨g k, List.mem_map.2 ⟨k, List.mem_range.2 hk, rfl⟩, hp⟩)
  rwa [List.length_map] at this
theorem St.swapR {B : Chunk} {X Y : List Chunk} (S : St D (B :: (X ++ (Y ++ C))) h) : St D (B :: (Y ++ (X ++ C))) h := by
  refine S.perm ?_
  simp only [List.flatten_cons, List.flatten_append]
  refine List.Perm.append_left B ?_
  rw [← List.append_assoc, ← List.append_assoc]
  exact List.perm_append_comm.append_right _
end Go.Proofs.YtljgfkiiikcaaaaGreat

/- A web in memory: its cells, its slots; how it is made. -/
set_option linter.unusedVariables false
namespace Go.Proofs.YtljgfkiiikcaaaaGreat
open Go Go.Proofs
attribute [local irreducible] appK copyK delK updK lookK makeK rangeK nextM entryM mapEntryK entryStK lenMapK
variable {D D' : Fz} {C : List Chunk} {h h' : Heap} {x W : Chunk} {X Y : List Chunk}

theorem St.inn (S : St D (x :: W :: (X ++ (Y ++ C))) h) : St D (W :: (X ++ (Y ++ (x :: C)))) h := by
  refine S.perm ?_
  simp only [List.flatten_cons, List.flatten_append]
  refine List.perm_append_comm_assoc .. |>.trans (List.Perm.append_left W ?_)
  refine List.perm_append_comm_assoc .. |>.trans (List.Perm.append_left _ ?_)
  exact List.perm_append_comm_assoc ..
theorem St.out (S : St D (W :: (X ++ (Y ++ (x :: C)))) h) : St D (x :: W :: (X ++ (Y ++ C))) h := by
  refine S.perm (List.Perm.symm ?_)
  simp only [List.flatten_cons, List.flatten_append]
  refine List.perm_append_comm_assoc .. |>.trans (List.Perm.append_left W ?_)
  refine List.perm_append_comm_assoc .. |>.trans (List.Perm.append_left _ ?_)
  exact List.perm_append_comm_assoc ..
abbrev webC (n : Int) (A B : Nat → Value) (O : Nat → Int) (w : Nat) : Chunk := [(w, .cells ⟨cellsW n A B O⟩ 142 (0, 0))]
/-- A web at w. -/
def WS (D : Fz) (n : Int) (A B : Nat → Value) (fA fB : Nat → List Int) (O : Nat → Int) (w : Nat) (C : List Chunk) (h : Heap) : Prop :=
  ∃ gA gB, Slots D A fA gA ∧ Slots D B fB gB ∧ St D (webC n A B O w :: (row 65 gA ++ (row 65 gB ++ C))) h
section
variable {n : Int} {A B : Nat → Value} {fA fB : Nat → List Int} {O : Nat → Int} {w k : Nat}
theorem St.behind : ∀ (X : List Chunk) {C : List Chunk}, St D (X ++ C) h → St D C h
  | [], _, S => S
  | _ :: X, _, S => St.behind X S.drop
theorem WS.cc (s : WS D n A B fA fB O w C h) : St D C h := by
  obtain ⟨gA, gB, -, -, S⟩ := s
  exact St.behind (_ :: (row 65 gA ++ row 65 gB)) (by simpa using S)
theorem WS.new {o : Obj} {K : Nat → Heap → Prop} (s : WS D n A B fA fB O w C h) (hK : ∀ b h1, WS D n A B fA fB O w ([(b, o)] :: C) h1 → K b h1) : newB h o K := by
  obtain ⟨gA, gB, a, b, S⟩ := s
  exact S.new fun m h1 S => hK m h1 ⟨gA, gB, a, b, S.inn⟩
theorem WS.store {m i o : Nat} {l vs : List Value} {T : TypeId} {K : Heap → Prop} (s : WS D n A B fA fB O w ([(m, .cells ⟨l⟩ T (0, 0))] :: C) h) (hl : Nat.ble (o + i + vs.length) l.length = true) (hv : vs.all single = true)
    (hK : ∀ h', WS D n A B fA fB O w ([(m, .cells ⟨splice l (o + i) vs⟩ T (0, 0))] :: C) h' → K h') : storeS m o vs i h K := by
  obtain ⟨gA, gB, a, b, S⟩ := s
  exact S.out.st0 hl hv fun h' S => hK h' ⟨gA, gB, a, b, S.inn⟩
theorem WS.drop {x : Chunk} (s : WS D n A B fA fB O w (x :: C) h) : WS D n A B fA fB O w C h := by
  obtain ⟨gA, gB, a, b, S⟩ := s
  exact ⟨gA, gB, a, b, S.out.drop⟩
theorem WS.cell (s : WS D n A B fA fB O w C h) (o : Nat) : hcell h ⟨w, o, none⟩ = (cellsW n A B O)[o]? := by
  obtain ⟨gA, gB, a, b, S⟩ := s
  rw [S.ld0]; simp
theorem WS.nn (s : WS D n A B fA fB O w C h) : hcell h ⟨w, 0, none⟩ = some (.int .i64 n) := s.cell 0
theorem WS.a (s : WS D n A B fA fB O w C h) (hk : k < 65) : hcell h ⟨w, 1 + k, none⟩ = some (A k) := by rw [s.cell, W_A hk]
theorem WS.o (s : WS D n A B fA fB O w C h) (hk : k < 65) : hcell h ⟨w, 66 + k, none⟩ = some (.int .i64 (O k)) := by rw [s.cell, W_O hk]
theorem WS.b (s : WS D n A B fA fB O w C h) (hk : k < 65) : hcell h ⟨w, 131 + k, none⟩ = some (B k) := by rw [s.cell, W_B hk]
theorem WS.sl (s : WS D n A B fA fB O w C h) (hk : k < 65) : (∃ a c, A k = .slice a (fA k).length c) ∧ ∃ a c, B k = .slice a (fB k).length c := by
  obtain ⟨gA, gB, a, b, S⟩ := s
  obtain ⟨a1, c1, e1, -⟩ := a k hk
  obtain ⟨a2, c2, e2, -⟩ := b k hk
  exact ⟨⟨a1, c1, e1⟩, a2, c2, e2⟩
theorem WS.setO {y : Int} {K : Heap → Prop} (s : WS D n A B fA fB O w C h) (hk : k < 65) (hK : ∀ h', WS D n A B fA fB (updF O k y) w C h' → K h') : stK h ⟨w, 66 + k, none⟩ (.int .i64 y) K := by
  obtain ⟨gA, gB, a, b, S⟩ := s
  refine S.sk0 (Nat.ble_eq_true_of_le (by rw [W_len]; omega)) rfl fun h' S => hK h' ⟨gA, gB, a, b, ?_⟩
  rwa [W_setO hk] at S
/-- One is laid behind a slot's. -/
theorem WS.appA {m : Nat} {y : Int} {T : TypeId} {K : Value → Heap → Prop} (s : WS D n A B fA fB O w ([(m, .cells ⟨[.int .i64 y]⟩ T (0, 0))] :: C) h) (hk : k < 65) (hb : (fA k).length ≤ 1000)
    (hK : ∀ a' n' c' h', St D C h' → (∀ K' : Heap → Prop, (∀ h'', WS D n (updF A k (.slice a' n' c')) B (updF fA k (fA k ++ [y])) fB O w C h'' → K' h'') → stK h' ⟨w, 1 + k, none⟩ (.slice a' n' c') K') → K (.slice a' n' c') h') :
    appK Tryz.prog #[33, 33] 33 (A k) (.slice (some ⟨m, 0, none⟩) 1 1) h K := by
  obtain ⟨gA, gB, sa, sb, S⟩ := s
  obtain ⟨a, c, e, own⟩ := sa k hk
  rw [e]
  have S2 := St.take S hk
  have src : Src D h 1 (some ⟨m, 0, none⟩) ([y].map eI) := Src.one (T := T) (f := (0, 0)) (c := []) S2 (by simp) (rd_I.2 rfl) rfl
  refine app_e (r := fA k) (r2 := [y]) eyI own S2 src rfl rfl (by simp; omega) fun a' c' ch' h' o' S' => hK a' _ c' h' ?_ fun K' hK' => ?_
  · exact St.behind (ch' :: webC n A B O w :: (row 65 (updF gA k []) ++ (row 65 gB ++ [[(m, .cells ⟨[.int .i64 y]⟩ T (0, 0))]]))) (by simpa using S')
  · refine S'.sk1 (Nat.ble_eq_true_of_le (by rw [W_len]; omega)) rfl fun h'' S'' => hK' h'' (WS.drop (x := [(m, .cells ⟨[.int .i64 y]⟩ T (0, 0))]) ⟨updF gA k ch', gB, ?_, sb, ?_⟩)
    · exact sa.upd k o'
    · rw [W_setA hk] at S''
      exact St.give S'' hk
theorem WS.appB {m : Nat} {y : Int} {T : TypeId} {K : Value → Heap → Prop} (s : WS D n A B fA fB O w ([(m, .cells ⟨[.int .i64 y]⟩ T (0, 0))] :: C) h) (hk : k < 65) (hb : (fB k).length ≤ 1000)
    (hK : ∀ a' n' c' h', St D C h' → (∀ K' : Heap → Prop, (∀ h'', WS D n A (updF B k (.slice a' n' c')) fA (updF fB k (fB k ++ [y])) O w C h'' → K' h'') → stK h' ⟨w, 131 + k, none⟩ (.slice a' n' c') K') → K (.slice a' n' c') h') :
    appK Tryz.prog #[33, 33] 33 (B k) (.slice (some ⟨m, 0, none⟩) 1 1) h K := by
  obtain ⟨gA, gB, sa, sb, S⟩ := s
  obtain ⟨a, c, e, own⟩ := sb k hk
  rw [e]
  have S2 := St.take S.swapR hk
  have src : Src D h 1 (some ⟨m, 0, none⟩) ([y].map eI) := Src.one (T := T) (f := (0, 0)) (c := []) S2 (by simp) (rd_I.2 rfl) rfl
  refine app_e (r := fB k) (r2 := [y]) eyI own S2 src rfl rfl (by simp; omega) fun a' c' ch' h' o' S' => hK a' _ c' h' ?_ fun K' hK' => ?_
  · exact St.behind (ch' :: webC n A B O w :: (row 65 (updF gB k []) ++ (row 65 gA ++ [[(m, .cells ⟨[.int .i64 y]⟩ T (0, 0))]]))) (by simpa using S')
  · refine S'.sk1 (Nat.ble_eq_true_of_le (by rw [W_len]; omega)) rfl fun h'' S'' => hK' h'' (WS.drop (x := [(m, .cells ⟨[.int .i64 y]⟩ T (0, 0))]) ⟨gA, updF gB k ch', sa, ?_, ?_⟩)
    · exact sb.upd k o'
    · rw [W_setB hk] at S''
      exact (St.give S'' hk).swapR
end
structure gOK (n : Int) (L : List Stk) : Prop where
  n0 : 0 ≤ n
  n64 : n ≤ 64
  len : L.length ≤ 256
  ok : ∀ p ∈ L, inn p.1 1 n = true ∧ inn p.2 1 n = true
theorem is_spec {n node : Int} {w : Nat} {R : Value → Heap → Prop} (hc : hcell h ⟨w, 0, none⟩ = some (.int .i64 n)) (k : R (.bool (inn node 1 n)) h) : Run Tryz.prog 102 [.pointer (some ⟨w, 0, none⟩), .int .i64 node] h R := by
  refine V102 _ _ _ _ ?_
  unfold VC102
  refine cIf (fun h1 => onPtr_s ⟨_, hc, ?_⟩) fun h1 => ?_
  · rwa [show inn node 1 n = decide (node ≤ n) by unfold inn; simp; omega] at k
  · rwa [show inn node 1 n = false by unfold inn; simp; omega] at k
theorem row_nil (N : Nat) : (row N fun _ => []).flatten = [] := by simp [row]
theorem needsOf_len (t : List Stk) (k : Nat) : (needsOf t k).length ≤ t.length := by unfold needsOf; rw [List.length_map]; exact List.length_filter_le ..
theorem usersOf_len (t : List Stk) (k : Nat) : (usersOf t k).length ≤ t.length := by unfold usersOf; rw [List.length_map]; exact List.length_filter_le ..
theorem made_spec {a : Option Addr} {c : Nat} {L : List Stk} {n : Int} {R : Value → Heap → Prop} (S : St D C h) (hx : Rd D (.slice a L.length c) (.l 2 (L.map eS)))
    (k0 : ¬ gOK n L → ∀ h', St D C h' → R (.pointer none) h') (k1 : gOK n L → ∀ A B w h', WS D n A B (needsOf L) (usersOf L) (fun k => ((needsOf L k).length : Int)) w C h' → R (.pointer (some ⟨w, 0, none⟩)) h') :
    Run Tryz.prog 72 [.int .i64 n, .slice a L.length c] h R := by
  refine V72 _ _ _ _ _ _ ?_
  unfold VC72
  refine cIf (fun h1 => k0 (fun g => by have := g.n0; omega) h S) fun h1 => cIf (fun h2 => k0 (fun g => by have := g.n64; omega) h S) fun h2 => cIf (fun h3 => k0 (fun g => by have := g.len; omega) h S) fun h3 => ?_
  refine S.new fun w h1 S => ?_
  have W0 : WS D n (fun _ => .slice none 0 0) (fun _ => .slice none 0 0) (needsOf []) (usersOf []) (fun k => ((needsOf [] k).length : Int)) w C h1 :=
    ⟨fun _ => [], fun _ => [], fun k _ => ⟨none, 0, rfl, .nil⟩, fun k _ => ⟨none, 0, rfl, .nil⟩, St.perm S (by simp [row_nil]; exact .refl _)⟩
  clear S
  refine ⟨fun x h' => ∃ t l A B, x = ((List.length t : Nat) : Int) ∧ L = t ++ l ∧ (∀ p ∈ t, inn p.1 1 n = true ∧ inn p.2 1 n = true) ∧ WS D n A B (needsOf t) (usersOf t) (fun k => ((needsOf t k).length : Int)) w C h', fun x _ => L.length - x.toNat, ⟨[], L, _, _, rfl, rfl, by simp, W0⟩, ?_⟩
  clear W0
  rintro - h2 x ⟨t, l, A, B, rfl, hL, hok, W⟩
  have hlen := congrArg List.length hL
  rw [List.length_append] at hlen
  refine cIf (fun hlt => ?_) fun hge => ?_
  rotate_left
  · have : l = [] := List.eq_nil_of_length_eq_zero (by omega)
    subst this
    rw [List.append_nil] at hL
    subst hL
    exact k1 ⟨by omega, by omega, by omega, hok⟩ A B w h2 W
  rcases l with _ | ⟨p, l⟩
  · simp at hlen; omega
  have hgt : (L.map eS)[t.length]? = some (eS p) := by rw [hL]; simp
  obtain ⟨hs, h0 | ⟨bb, o, vv, rfl, hc⟩⟩ := hx.src W.cc
  · rw [h0] at hgt; simp at hgt
  have c0 := hc t.length 0 _ _ hgt rfl
  have c1 := hc t.length 1 _ _ hgt rfl
  rw [Rd.int_iff.1 c0.2] at c0
  rw [Rd.int_iff.1 c1.2] at c1
  have bad : ¬ (inn p.1 1 n = true ∧ inn p.2 1 n = true) → ∀ h', St D C h' → R (.pointer none) h' := fun hb => k0 fun g => hb (g.ok p (by rw [hL]; simp))
  refine onPtr_s ⟨by omega, by omega, _, c0.1, _, c1.1, ?_⟩
  refine W.new fun m h3 W => W.store (by rfl) (by rfl) fun h4 W => ?_
  have W : WS D n A B (needsOf t) (usersOf t) (fun k => ((needsOf t k).length : Int)) w ([(m, .cells ⟨[.int .i64 p.1, .int .i64 p.2]⟩ 90 (0, 0))] :: C) h4 := W
  have rd : ∀ {h' : Heap}, St D ([(m, .cells ⟨[.int .i64 p.1, .int .i64 p.2]⟩ 90 (0, 0))] :: C) h' → hcell h' ⟨m, 0, none⟩ = some (.int .i64 p.1) ∧ hcell h' ⟨m, 1, none⟩ = some (.int .i64 p.2) := fun S => ⟨S.ld0, S.ld0⟩
  have r4 := rd W.cc
  refine ⟨by decide, by decide, _, r4.1, is_spec W.nn ⟨_, rfl, cNot (cB (fun i1 => ?_) fun i1 => bad (by simp [i1]) _ W.cc.drop)⟩⟩
  refine ⟨by decide, by decide, _, r4.2, is_spec W.nn ⟨_, rfl, cNot (cB (fun i2 => ?_) fun i2 => bad (by simp [i2]) _ W.cc.drop)⟩⟩
  have j1 := inn_iff.1 i1
  have j2 := inn_iff.1 i2
  have k1' : p.1.toNat < 65 := by omega
  have k2' : p.2.toNat < 65 := by omega
  obtain ⟨⟨a1, cc1, e1⟩, -⟩ := W.sl k1'
  obtain ⟨-, a2, cc2, e2⟩ := W.sl k2'
  have ra := W.a k1'
  rw [e1] at ra
  refine ⟨by decide, by decide, _, r4.1, by decide, by decide, _, r4.1, by omega, by omega, _, _, _, by rw [Nat.mul_one]; exact ra, by decide, by decide, _, r4.2, W.new fun m7 h7 W => ?_⟩
  have r7 := rd W.cc.drop
  have ra := W.a k1'
  rw [e1] at ra
  refine ⟨⟨_, _, _, by rw [Nat.mul_one]; exact ra, rfl⟩, ⟨_, r7.1, rfl⟩, ⟨_, r7.1, rfl⟩, ?_⟩
  rw [← e1]
  have hbA : (needsOf t p.1.toNat).length ≤ 1000 := by have := needsOf_len t p.1.toNat; omega
  have hbB : (usersOf t p.2.toNat).length ≤ 1000 := by have := usersOf_len t p.2.toNat; omega
  refine WS.appA W k1' hbA fun a3 n3 c3 h8 S8 st => ⟨_, _, _, rfl, ⟨_, (rd S8).1, rfl⟩, by omega, by omega, ?_⟩
  rw [Nat.mul_one]
  refine st _ fun h9 W => ?_
  have r9 := rd W.cc
  have rb := W.b k2'
  rw [e2] at rb
  refine ⟨by decide, by decide, _, r9.2, by decide, by decide, _, r9.2, by omega, by omega, _, _, _, by rw [Nat.mul_one]; exact rb, by decide, by decide, _, r9.1, W.new fun m8 h10 W => ?_⟩
  have r10 := rd W.cc.drop
  have rb := W.b k2'
  rw [e2] at rb
  refine ⟨⟨_, _, _, by rw [Nat.mul_one]; exact rb, rfl⟩, ⟨_, r10.2, rfl⟩, ⟨_, r10.2, rfl⟩, ?_⟩
  rw [← e2]
  refine WS.appB W k2' hbB fun a4 n4 c4 h11 S11 st => ⟨_, _, _, rfl, ⟨_, (rd S11).2, rfl⟩, by omega, by omega, ?_⟩
  rw [Nat.mul_one]
  refine st _ fun h12 W => ?_
  have r12 := rd W.cc
  have ro := W.o k1'
  refine ⟨by decide, by decide, _, r12.1, by omega, by omega, _, by rw [Nat.mul_one]; exact ro, by omega, by omega, ?_⟩
  rw [Nat.mul_one, w64 (by omega) (by omega)]
  refine W.setO k1' fun h13 W => ?_
  rw [w64n (by omega)]
  refine ⟨⟨t ++ [p], l, updF A p.1.toNat (.slice a3 n3 c3), updF B p.2.toNat (.slice a4 n4 c4), by simp, by rw [hL]; simp, fun q hq => ?_, ?_⟩, by simp only [Int.toNat_natCast]; omega⟩
  · rcases List.mem_append.1 hq with hq | hq
    · exact hok q hq
    · simp at hq; subst hq; exact ⟨i1, i2⟩
  · have eA := needsOf_snoc t p (by omega)
    have eB := usersOf_snoc t p (by omega)
    rw [eA, eB]
    have eO : (fun k => (((updF (needsOf t) p.1.toNat (needsOf t p.1.toNat ++ [p.2])) k).length : Int)) = updF (fun k => ((needsOf t k).length : Int)) p.1.toNat (((needsOf t p.1.toNat).length : Int) + 1) := by
      funext j; unfold updF; split <;> simp
    rw [eO]
    exact W.drop
end Go.Proofs.YtljgfkiiikcaaaaGreat

/- Nodes by what they need: the order that is made by always taking the least node whose needs are all taken. Plain. -/
set_option linter.unusedVariables false
namespace Go.Proofs.YtljgfkiiikcaaaaGreat
open Go Go.Proofs

/-- May node k come behind these? -/
def Nx1 (L : List Stk) (n : Int) (out : List Int) (k : Int) : Prop := 1 ≤ k ∧ k ≤ n ∧ k ∉ out ∧ ∀ p ∈ L, p.1 = k → p.2 ∈ out
/-- Each is the least that may come. -/
inductive Greedy (L : List Stk) (n : Int) : List Int → Prop where
  | nil : Greedy L n []
  | snoc {out : List Int} {k : Int} : Greedy L n out → Nx1 L n out k → (∀ j, Nx1 L n out j → k ≤ j) → Greedy L n (out ++ [k])
section
variable {L : List Stk} {n : Int} {a b out : List Int} {k : Int}
theorem Greedy.inv (h : Greedy L n (out ++ [k])) : Greedy L n out ∧ Nx1 L n out k ∧ ∀ j, Nx1 L n out j → k ≤ j := by
  generalize hx : out ++ [k] = x at h
  cases h with
  | nil => simp at hx
  | snoc g h1 h2 =>
    obtain ⟨rfl, rfl⟩ := List.append_inj' hx rfl |>.imp id (fun h => by simpa using h)
    exact ⟨g, h1, h2⟩
theorem snoc_cases (l : List Int) : l = [] ∨ ∃ t x, l = t ++ [x] := by
  by_cases h : l = []
  · exact .inl h
  · exact .inr ⟨l.dropLast, l.getLast h, (List.dropLast_concat_getLast h).symm⟩
theorem Greedy.same : ∀ {a b : List Int}, Greedy L n a → Greedy L n b → a.length = b.length → a = b := by
  intro a
  induction h : a.length generalizing a with
  | zero =>
    intro b _ _ hl
    have := List.eq_nil_of_length_eq_zero h
    have := List.eq_nil_of_length_eq_zero hl.symm
    simp [*]
  | succ m ih =>
    intro b ga gb hl
    rcases snoc_cases a with rfl | ⟨t, x, rfl⟩
    · cases h
    rcases snoc_cases b with rfl | ⟨u, y, rfl⟩
    · cases hl
    simp at h hl
    obtain ⟨g1, n1, m1⟩ := ga.inv
    obtain ⟨g2, n2, m2⟩ := gb.inv
    have := ih h g1 g2 (by omega)
    subst this
    have h1 := m1 y n2
    have h2 := m2 x n1
    rw [show x = y by omega]
theorem Greedy.take (g : Greedy L n a) : ∀ m, Greedy L n (a.take m) := by
  induction g with
  | nil => intro m; simp; exact .nil
  | @snoc out k g h1 h2 ih =>
    intro m
    by_cases hm : m ≤ out.length
    · rw [List.take_append_of_le_length hm]; exact ih m
    · rw [List.take_of_length_le (by simp; omega)]; exact .snoc g h1 h2
/-- What none may follow is longest. -/
theorem Greedy.max (ga : Greedy L n a) (hn : ∀ k, ¬ Nx1 L n a k) (gb : Greedy L n b) : b.length ≤ a.length := by
  apply Decidable.byContradiction
  intro h
  have h1 : b.take a.length = a := (gb.take _).same ga (by rw [List.length_take]; omega)
  have h2 := gb.take (a.length + 1)
  have hb : b[a.length]? = some b[a.length] := List.getElem?_eq_getElem (by omega)
  rw [List.take_add_one, hb, h1] at h2
  exact hn _ h2.inv.2.1
theorem Greedy.nodup (g : Greedy L n a) : a.Nodup := by
  induction g with
  | nil => exact .nil
  | snoc g h1 h2 ih =>
    rw [List.nodup_append]
    refine ⟨ih, by simp, ?_⟩
    intro x hx y hy e
    simp at hy; subst hy; subst e
    exact h1.2.2.1 hx
theorem Greedy.mem (g : Greedy L n a) : ∀ x ∈ a, 1 ≤ x ∧ x ≤ n := by
  induction g with
  | nil => simp
  | snoc g h1 h2 ih =>
    intro x hx
    rcases List.mem_append.1 hx with hx | hx
    · exact ih x hx
    · simp at hx; subst hx; exact ⟨h1.1, h1.2.1⟩
theorem Greedy.met (g : Greedy L n a) : ∀ k ∈ a, ∀ p ∈ L, p.1 = k → p.2 ∈ a := by
  induction g with
  | nil => simp
  | snoc g h1 h2 ih =>
    intro k hk p hp e
    rw [List.mem_append]
    rcases List.mem_append.1 hk with hk | hk
    · exact .inl (ih k hk p hp e)
    · simp at hk; subst hk; exact .inl (h1.2.2.2 p hp e)
/-- Different numbers from 1 to n are no more than n. -/
theorem nodup_len : ∀ {a : List Int} {n : Int}, a.Nodup → (∀ x ∈ a, 1 ≤ x ∧ x ≤ n) → 0 ≤ n → (a.length : Int) ≤ n := by
  intro a n hd hm hn
  have hsub : a ⊆ (List.range n.toNat).map fun (i : Nat) => (i : Int) + 1 := fun x hx => by
    have := hm x hx
    exact List.mem_map.2 ⟨(x - 1).toNat, List.mem_range.2 (by omega), by omega⟩
  have := hd.length_le_of_subset hsub
  simp at this
  omega
/-- Needs of k that are not met. -/
def cR (L : List Stk) (out : List Int) (k : Int) : Nat := (L.filter fun p => p.1 == k && !out.contains p.2).length
theorem cR_zero : cR L out k = 0 ↔ ∀ p ∈ L, p.1 = k → p.2 ∈ out := by
  unfold cR
  rw [List.length_eq_zero_iff, List.filter_eq_nil_iff]
  simp
theorem cR_nil (k : Nat) : cR L [] (k : Int) = (needsOf L k).length := by
  unfold cR needsOf
  simp
theorem cR_snoc {x : Int} (hx : x ∉ out) : cR L out k = cR L (out ++ [x]) k + (L.filter fun p => p.1 == k && p.2 == x).length := by
  induction L with
  | nil => rfl
  | cons p L ih =>
    unfold cR at ih ⊢
    simp only [List.filter_cons]
    by_cases h1 : p.1 = k
    · by_cases h2 : p.2 = x
      · have : p.2 ∉ out := h2 ▸ hx
        simp [h1, h2, hx] at ih ⊢; omega
      · by_cases h3 : p.2 ∈ out
        · simp [h1, h2, h3] at ih ⊢; omega
        · simp [h1, h2, h3] at ih ⊢; omega
    · simp [h1] at ih ⊢; omega
theorem users_count {x : Nat} : (usersOf L x).count k = (L.filter fun p => p.1 == k && p.2 == (x : Int)).length := by
  unfold usersOf
  rw [List.count, List.countP_map, List.countP_eq_length_filter, List.filter_filter]
  congr 1
end
end Go.Proofs.YtljgfkiiikcaaaaGreat

/- The order of a web's nodes, in memory. -/
set_option linter.unusedVariables false
namespace Go.Proofs.YtljgfkiiikcaaaaGreat
open Go Go.Proofs
attribute [local irreducible] appK copyK delK updK lookK makeK rangeK nextM entryM mapEntryK entryStK lenMapK clearK
variable {D D' : Fz} {C : List Chunk} {h h' : Heap} {x W : Chunk} {X Y : List Chunk}

section
variable {n : Int} {A B : Nat → Value} {fA fB : Nat → List Int} {O : Nat → Int} {w k : Nat}
theorem WS.swap {x y : Chunk} (s : WS D n A B fA fB O w (x :: y :: C) h) : WS D n A B fA fB O w (y :: x :: C) h := by
  obtain ⟨gA, gB, a, b, S⟩ := s
  refine ⟨gA, gB, a, b, S.perm ?_⟩
  simp only [List.flatten_cons, List.flatten_append]
  refine List.Perm.append_left _ (List.Perm.append_left _ (List.Perm.append_left _ ?_))
  exact List.perm_append_comm_assoc ..
theorem WS.swap2 {x y z : Chunk} (s : WS D n A B fA fB O w (x :: y :: z :: C) h) : WS D n A B fA fB O w (y :: z :: x :: C) h := by
  obtain ⟨gA, gB, a, b, S⟩ := s
  refine ⟨gA, gB, a, b, S.perm ?_⟩
  simp only [List.flatten_cons, List.flatten_append]
  refine List.Perm.append_left _ (List.Perm.append_left _ (List.Perm.append_left _ ?_))
  refine (List.perm_append_comm_assoc ..).trans (List.Perm.append_left _ ?_)
  exact List.perm_append_comm_assoc ..
theorem WS.app {m c : Nat} {y : Int} {T : TypeId} {a : Option Addr} {r : List Int} {ch : Chunk} {K : Value → Heap → Prop} (own : Own D 3 1 a c (r.map eI) ch) (s : WS D n A B fA fB O w ([(m, .cells ⟨[.int .i64 y]⟩ T (0, 0))] :: ch :: C) h) (hb : r.length ≤ 1000)
    (hK : ∀ a' c' ch' h', Own D 3 1 a' c' ((r ++ [y]).map eI) ch' → WS D n A B fA fB O w (ch' :: C) h' → K (.slice a' (r ++ [y]).length c') h') :
    appK Tryz.prog #[33, 33] 33 (.slice a r.length c) (.slice (some ⟨m, 0, none⟩) 1 1) h K := by
  obtain ⟨gA, gB, sa, sb, S⟩ := s
  have src : Src D h 1 (some ⟨m, 0, none⟩) ([y].map eI) := Src.one (T := T) (f := (0, 0)) (c := []) S (by simp) (rd_I.2 rfl) rfl
  exact app_e (r := r) (r2 := [y]) eyI own S.out.drop.out src rfl rfl (by simp; omega) fun a' c' ch' h' o' S' => hK a' c' ch' h' o' ⟨gA, gB, sa, sb, S'.inn⟩
theorem WS.sk {m i : Nat} {l : List Value} {v : Value} {T : TypeId} {K : Heap → Prop} (s : WS D n A B fA fB O w ([(m, .cells ⟨l⟩ T (0, 0))] :: C) h) (hl : Nat.ble (i + 1) l.length = true) (hv : single v = true)
    (hK : ∀ h', WS D n A B fA fB O w ([(m, .cells ⟨l.set i v⟩ T (0, 0))] :: C) h' → K h') : stK h ⟨m, i, none⟩ v K := by
  obtain ⟨gA, gB, a, b, S⟩ := s
  exact S.out.sk0 hl hv fun h' S => hK h' ⟨gA, gB, a, b, S.inn⟩
theorem WS.user {a : Option Addr} {m c i : Nat} {y : Int} {z : Int} {K : Nat → Nat → Prop} (s : WS D n A B fA fB O w C h) (hk : k < 65) (e : B k = .slice a m c) (hz : z = (i : Int)) (hi : (fB k)[i]? = some y) (hK : ∀ b o, hcell h ⟨b, o + z.toNat * 1, none⟩ = some (.int .i64 y) → K b o) : onPtr a K := by
  obtain ⟨gA, gB, sa, sb, S⟩ := s
  obtain ⟨a', c', e', own⟩ := sb k hk
  rw [e] at e'
  cases e'
  exact own_I own (St.take S.swapR hk) hz hi hK
theorem St.cellOf {b o : Nat} {l : List Value} {T : TypeId} {f : Nat × Nat} (S : St D C h) (hm : ([(b, Obj.cells ⟨l⟩ T f)] : Chunk) ∈ C) : hcell h ⟨b, o, Option.none⟩ = l[o]? := by
  have := S.own (b, .cells ⟨l⟩ T f) (List.mem_flatten.2 ⟨_, hm, by simp⟩)
  rw [hcell_of this]; simp
end
theorem keepI_mem {p : Int → Bool} {l : List Int} {x : Int} : x ∈ keepI p l ↔ x ∈ l ∧ p x = false := by simp [keepI]
theorem nx1_iff {L : List Stk} {n : Int} {out : List Int} {k : Int} : Nx1 L n out k ↔ 1 ≤ k ∧ k ≤ n ∧ k ∉ out ∧ cR L out k = 0 := by rw [cR_zero]; rfl
theorem order_spec {L : List Stk} {n : Int} {A B : Nat → Value} {w : Nat} (g : gOK n L) (W : WS D n A B (needsOf L) (usersOf L) (fun k => ((needsOf L k).length : Int)) w C h) :
    Run Tryz.prog 73 [.pointer (some ⟨w, 0, none⟩)] h fun v h' => ∃ a c out ch O, v = .slice a (List.length out) c ∧ Greedy L n out ∧ (∀ k, ¬ Nx1 L n out k) ∧ Own D 3 1 a c (out.map eI) ch ∧ WS D n A B (needsOf L) (usersOf L) O w (ch :: C) h' := by
  obtain ⟨g0, g1, g2, g3⟩ := g
  have hp1 : ∀ p ∈ L, 1 ≤ p.1 ∧ p.1 ≤ n := fun p hp => inn_iff.1 (g3 p hp).1
  refine V73 _ _ _ ?_
  unfold VC73
  refine ⟨fun p m c x h1 => ∃ (r : List Int) (ch : Chunk), 1 ≤ x ∧ x ≤ n + 1 ∧ m = List.length r ∧ Own D 3 1 p c (r.map eI) ch ∧ WS D n A B (needsOf L) (usersOf L) (fun k => ((needsOf L k).length : Int)) w (ch :: C) h1 ∧ r.Nodup ∧ ∀ k, k ∈ r ↔ 1 ≤ k ∧ k < x ∧ cR L [] k = 0,
    fun _ _ _ x _ => (n + 1 - x).toNat, ⟨[], [], by decide, by omega, rfl, .nil, by obtain ⟨gA, gB, a, b, S⟩ := W; exact ⟨gA, gB, a, b, S.nil.swap.perm (by simp)⟩, .nil, fun k => by simp; omega⟩, ?_⟩
  clear W
  rintro - h1 p m c x ⟨r, ch, hx1, hx2, rfl, own, W, hnd, hr⟩
  refine onPtr_s ⟨_, W.nn, ?_⟩
  refine cIf (fun hle => ?_) fun hgt => ?_
  · have hk : x.toNat < 65 := by omega
    have hrl : r.length ≤ 64 := by
      have := nodup_len hnd (fun y hy => by have := (hr y).1 hy; exact ⟨this.1, show y ≤ n by omega⟩) g0
      omega
    have ho := W.o hk
    have hcx : cR L [] x = (needsOf L x.toNat).length := by
      have := cR_nil (L := L) x.toNat
      rwa [show ((x.toNat : Nat) : Int) = x by omega] at this
    have hstep : ∀ r' : List Int, (∀ k, k ∈ r' ↔ k ∈ r ∨ (k = x ∧ cR L [] x = 0)) → ∀ k, k ∈ r' ↔ 1 ≤ k ∧ k < x + 1 ∧ cR L [] k = 0 := by
      intro r' h k
      rw [h, hr]
      constructor
      · rintro (h | ⟨rfl, h⟩)
        · exact ⟨h.1, by omega, h.2.2⟩
        · exact ⟨hx1, by omega, h⟩
      · rintro ⟨h1, h2, h3⟩
        by_cases hkx : k = x
        · subst hkx; exact .inr ⟨rfl, h3⟩
        · exact .inl ⟨h1, by omega, h3⟩
    refine onPtr_s ⟨by omega, by omega, _, by rw [Nat.mul_one, Nat.zero_add]; exact ho, ?_⟩
    rw [w64 (by omega) (by omega)]
    refine cEq (fun h0 => W.new fun m7 h2 W => WS.app own W (by omega) fun a' c' ch' h3 own W => ⟨_, _, _, rfl, ⟨r ++ [x], ch', by omega, by omega, rfl, own, W, ?_, ?_⟩, by show (n + 1 - (x + 1)).toNat < (n + 1 - x).toNat; omega⟩) fun h0 => ⟨⟨r, ch, by omega, by omega, rfl, own, W, hnd, ?_⟩, by show (n + 1 - (x + 1)).toNat < (n + 1 - x).toNat; omega⟩
    · rw [List.nodup_append]
      refine ⟨hnd, by simp, fun a ha b hb e => ?_⟩
      simp at hb; subst hb; subst e
      have := (hr _).1 ha; omega
    · refine hstep _ fun k => ?_
      rw [List.mem_append, List.mem_singleton]
      constructor
      · rintro (h | rfl)
        · exact .inl h
        · exact .inr ⟨rfl, by omega⟩
      · rintro (h | ⟨rfl, -⟩)
        · exact .inl h
        · exact .inr rfl
    · refine hstep _ fun k => ⟨.inl, ?_⟩
      rintro (h | ⟨rfl, h⟩)
      · exact h
      · omega
  have hxn : x = n + 1 := by omega
  subst hxn
  refine ⟨fun p m c q m' c' h2 => ∃ (r out : List Int) (ch ch' : Chunk) (O : Nat → Int), m = List.length r ∧ m' = List.length out ∧ Own D 3 1 p c (r.map eI) ch ∧ Own D 3 1 q c' (out.map eI) ch' ∧ WS D n A B (needsOf L) (usersOf L) O w (ch :: ch' :: C) h2 ∧ r.Nodup ∧ Greedy L n out ∧
    (∀ k : Nat, 1 ≤ k → (k : Int) ≤ n → O k = (cR L out k : Int)) ∧ ∀ k, k ∈ r ↔ Nx1 L n out k,
    fun _ _ _ _ m' _ _ => 64 - m', ⟨r, [], ch, [], fun k => ((needsOf L k).length : Int), rfl, rfl, own, .nil, by obtain ⟨gA, gB, a, b, S⟩ := W; exact ⟨gA, gB, a, b, S.perm (by simp)⟩, hnd, .nil, fun k _ _ => by rw [cR_nil], fun k => by rw [hr, nx1_iff]; simp; omega⟩, ?_⟩
  clear hgt hx1 hx2 hr hnd own W r ch
  rintro - h2 p m c q m' c' ⟨r, out, ch, ch', O, rfl, rfl, ownR, ownO, W, hnd, hG, hO, hr⟩
  refine cIf (fun hlt => ?_) fun hge => ?_
  rotate_left
  · have : r = [] := List.eq_nil_of_length_eq_zero (by omega)
    subst this
    exact ⟨_, _, out, ch', O, rfl, hG, fun k hk => by have := (hr k).2 hk; simp at this, ownO, W.drop⟩
  rcases r with _ | ⟨y, r⟩
  · simp at hlt
  have hmem : ∀ k ∈ y :: r, 1 ≤ k ∧ k ≤ n := fun k hk => by have := (hr k).1 hk; exact ⟨this.1, this.2.1⟩
  have hrl : (y :: r).length ≤ 64 := by have := nodup_len hnd hmem g0; omega
  have hol : out.length ≤ 64 := by have := nodup_len hG.nodup hG.mem g0; omega
  obtain ⟨gA, gB, sa, sb, S⟩ := W
  refine (min_spec ownR S.out (by simp at hrl; omega)).mono ?_
  rintro v h3 ⟨rfl, rfl⟩
  have W : WS D n A B (needsOf L) (usersOf L) O w (ch :: ch' :: C) _ := ⟨gA, gB, sa, sb, S⟩
  clear S sa sb gA gB
  have hx : minI y r ∈ y :: r := by rcases minI_mem r y with h | h <;> simp [h]
  have hle : ∀ j ∈ y :: r, minI y r ≤ j := by
    intro j hj
    rcases List.mem_cons.1 hj with rfl | hj
    · exact (minI_le r j).1
    · exact (minI_le r y).2 j hj
  generalize minI y r = x at *
  have hnx := (hr x).1 hx
  have hxb := hmem x hx
  refine ⟨_, rfl, W.new fun m1 h3 W => ?_⟩
  refine WS.sk (i := 0) W rfl rfl fun h4 W => ?_
  have W : WS D n A B (needsOf L) (usersOf L) O w ([(m1, .cells ⟨[.int .i64 x]⟩ 3 (0, 0))] :: ch :: ch' :: C) h4 := W
  have W := W.swap
  obtain ⟨gA, gB, sa, sb, S⟩ := W
  refine (deleteI_spec ownR S.out (by omega) (fun z => z == x) _ fun z hz ch h S => ?_).mono ?_
  · refine callV_1 (V104 _ _ _ _ (onPtr_s ⟨x, ?_, rfl, S⟩))
    exact (St.cellOf (T := 3) (f := (0, 0)) (l := [.int .i64 x]) S (by simp)).trans rfl
  rintro v h5 ⟨chR, rfl, ownR, S⟩
  have W : WS D n A B (needsOf L) (usersOf L) O w (chR :: [(m1, .cells ⟨[.int .i64 x]⟩ 3 (0, 0))] :: ch' :: C) h5 := ⟨gA, gB, sa, sb, S.inn⟩
  have W := W.swap2
  have rd : ∀ {h' : Heap} {X : List Chunk}, St D ([(m1, .cells ⟨[.int .i64 x]⟩ 3 (0, 0))] :: X) h' → hcell h' ⟨m1, 0, none⟩ = some (.int .i64 x) := fun S => S.ld0
  refine ⟨_, _, _, rfl, _, rd W.cc, W.swap.new fun m2 h6 W => ?_⟩
  refine WS.app ownO W (by omega) fun aO cO chO h7 ownO W => ⟨_, _, _, rfl, ?_⟩
  have W := W.swap
  have hxt : x.toNat < 65 := by omega
  have hxe : ((x.toNat : Nat) : Int) = x := by omega
  obtain ⟨-, aB, cB, eB⟩ := W.sl hxt
  have rb := W.b hxt
  rw [eB] at rb
  refine ⟨_, rd W.cc, onPtr_s ⟨by omega, by omega, _, _, _, by rw [Nat.mul_one, Nat.zero_add]; exact rb, ?_⟩⟩
  have hout : ∀ k ∈ out, ∀ p ∈ L, p.1 = k → p.2 ∈ out := hG.met
  have hG2 : Greedy L n (out ++ [x]) := .snoc hG hnx fun j hj => hle j ((hr j).2 hj)
  have hol2 : (out ++ [x]).length ≤ 64 := by have := nodup_len hG2.nodup hG2.mem g0; omega
  refine ⟨fun p m c z h => ∃ (t l r' : List Int) (chR : Chunk) (O' : Nat → Int), usersOf L x.toNat = t ++ l ∧ z = ((List.length t : Nat) : Int) ∧ m = List.length r' ∧ Own D 3 1 p c (r'.map eI) chR ∧ WS D n A B (needsOf L) (usersOf L) O' w (chR :: chO :: C) h ∧ r'.Nodup ∧
    (∀ k : Nat, 1 ≤ k → (k : Int) ≤ n → O' k = (cR L out k : Int) - t.count (k : Int)) ∧ ∀ k, k ∈ r' ↔ 1 ≤ k ∧ k ≤ n ∧ k ∉ out ++ [x] ∧ O' k.toNat = 0,
    fun _ _ _ z _ => (usersOf L x.toNat).length - z.toNat, ⟨[], _, _, chR, O, rfl, rfl, rfl, ownR, W.drop.swap, ?_, fun k a b => by simpa using hO k a b, fun k => ?_⟩, ?_⟩
  · exact List.Pairwise.filter _ hnd
  · rw [keepI_mem, hr, nx1_iff]
    simp
    constructor
    · rintro ⟨⟨a, b, c, d⟩, e⟩
      have := hO k.toNat (by omega) (by omega)
      rw [show ((k.toNat : Nat) : Int) = k by omega] at this
      exact ⟨a, b, ⟨c, e⟩, by omega⟩
    · rintro ⟨a, b, ⟨c, e⟩, d⟩
      have := hO k.toNat (by omega) (by omega)
      rw [show ((k.toNat : Nat) : Int) = k by omega] at this
      exact ⟨⟨a, b, c, by omega⟩, e⟩
  clear rb W rd ownR
  rintro - h8 p m c z ⟨t, l, r', chR, O', hU, rfl, rfl, ownR, W, hnd', hO', hr'⟩
  have hUl := congrArg List.length hU
  rw [List.length_append] at hUl
  refine cIf (fun hlt => ?_) fun hge => ?_
  · rcases l with _ | ⟨u, l⟩
    · simp at hUl; omega
    have hum : u ∈ usersOf L x.toNat := by rw [hU]; simp
    obtain ⟨q, hq, rfl⟩ := List.mem_map.1 hum
    obtain ⟨hqL, hqx⟩ := List.mem_filter.1 hq
    have hqx : q.2 = x := by simpa [hxe] using hqx
    have hb := hp1 q hqL
    have hqt : q.1.toNat < 65 := by omega
    have hqe : ((q.1.toNat : Nat) : Int) = q.1 := by omega
    have hcnt : (usersOf L x.toNat).count q.1 = t.count q.1 + (l.count q.1 + 1) := by rw [hU, List.count_append, List.count_cons_self]
    have hc1 := cR_snoc (L := L) (k := q.1) hnx.2.2.1
    have hc2 := users_count (L := L) (k := q.1) (x := x.toNat)
    rw [hxe] at hc2
    have ho := hO' q.1.toNat (by omega) (by omega)
    rw [hqe] at ho
    have hpos : 1 ≤ O' q.1.toNat := by omega
    have hcl : cR L out q.1 ≤ L.length := List.length_filter_le ..
    have hno : q.1 ∉ out ++ [x] := by
      intro hm
      have : cR L out q.1 = 0 := by
        rcases List.mem_append.1 hm with hm | hm
        · exact cR_zero.2 (hout _ hm)
        · simp at hm; rw [hm]; exact (nx1_iff.1 hnx).2.2.2
      omega
    have hnr : q.1 ∉ r' := fun hm => by have := ((hr' _).1 hm).2.2.2; omega
    have hrl' : r'.length ≤ 64 := by have := nodup_len hnd' (fun k hk => ⟨((hr' k).1 hk).1, ((hr' k).1 hk).2.1⟩) g0; omega
    have hgu : (usersOf L x.toNat)[t.length]? = some q.1 := by rw [hU]; simp
    have rO := W.o hqt
    refine WS.user W hxt eB rfl hgu fun b o c0 => ⟨by omega, by omega, _, c0, onPtr_s ⟨by omega, by omega, _, by rw [Nat.mul_one, Nat.zero_add]; exact rO, onPtr_s ⟨by omega, by omega, ?_⟩⟩⟩
    rw [Nat.mul_one, Nat.zero_add, w64 (x := O' q.1.toNat - 1) (by omega) (by omega)]
    refine W.setO hqt fun h9 W => ?_
    have rO := W.o hqt
    rw [updF_self] at rO
    refine onPtr_s ⟨by omega, by omega, _, by rw [Nat.zero_add]; exact rO, ?_⟩
    have hul := usersOf_len L x.toNat
    rw [w64n (by omega)]
    have hOn : ∀ k : Nat, 1 ≤ k → (k : Int) ≤ n → updF O' q.1.toNat (O' q.1.toNat - 1) k = (cR L out k : Int) - (t ++ [q.1]).count (k : Int) := by
      intro k a b
      have := hO' k a b
      unfold updF
      rw [List.count_append]
      by_cases hk : k = q.1.toNat
      · subst hk; rw [if_pos rfl, hqe, List.count_singleton_self]; omega
      · rw [if_neg hk, List.count_eq_zero_of_not_mem (a := (k : Int)) (l := [q.1]) (by simp; omega)]; omega
    have hme : (usersOf L x.toNat).length - Int.toNat ((t.length + 1 : Nat) : Int) < (usersOf L x.toNat).length - Int.toNat ((t.length : Nat) : Int) := by simp only [Int.toNat_natCast]; simp at hUl; omega
    have hrn : ∀ k, k ∉ r' ∨ k ∈ r' → (1 ≤ k ∧ k ≤ n ∧ k ∉ out ++ [x] ∧ updF O' q.1.toNat (O' q.1.toNat - 1) k.toNat = 0 ↔ k ∈ r' ∨ k = q.1 ∧ O' q.1.toNat - 1 = 0) := by
      intro k _
      rw [hr']
      unfold updF
      constructor
      · rintro ⟨a, b, c, d⟩
        by_cases hk : k = q.1
        · subst hk; rw [if_pos rfl] at d; exact .inr ⟨rfl, d⟩
        · rw [if_neg (by omega)] at d; exact .inl ⟨a, b, c, d⟩
      · rintro (⟨a, b, c, d⟩ | ⟨rfl, d⟩)
        · have : k ≠ q.1 := by rintro rfl; omega
          rw [if_neg (by omega)]; exact ⟨a, b, c, d⟩
        · rw [if_pos rfl]; exact ⟨hb.1, hb.2, hno, d⟩
    refine cEq (fun h0 => W.new fun m3 h10 W => WS.app ownR W (by omega) fun a' c' ch' h11 own W => ⟨_, _, _, rfl, ⟨t ++ [q.1], l, r' ++ [q.1], ch', _, by rw [hU]; simp, by simp, rfl, own, W, ?_, hOn, fun k => ?_⟩, hme⟩) fun h0 => ⟨⟨t ++ [q.1], l, r', chR, _, by rw [hU]; simp, by simp, rfl, ownR, W, hnd', hOn, fun k => ?_⟩, hme⟩
    · rw [List.nodup_append]
      refine ⟨hnd', by simp, fun a ha b hb e => ?_⟩
      simp at hb; subst hb; subst e
      exact hnr ha
    · rw [hrn k (Classical.em _).symm, List.mem_append, List.mem_singleton]
      constructor
      · rintro (h | rfl)
        · exact .inl h
        · exact .inr ⟨rfl, h0⟩
      · rintro (h | ⟨rfl, -⟩)
        · exact .inl h
        · exact .inr rfl
    · rw [hrn k (Classical.em _).symm]
      exact ⟨.inl, fun h => h.resolve_right fun e => h0 e.2⟩
  · have : l = [] := List.eq_nil_of_length_eq_zero (by omega)
    subst this
    rw [List.append_nil] at hU
    have hOe : ∀ k : Nat, 1 ≤ k → (k : Int) ≤ n → O' k = (cR L (out ++ [x]) k : Int) := by
      intro k a b
      have h1 := hO' k a b
      have h2 := cR_snoc (L := L) (k := (k : Int)) hnx.2.2.1
      have h3 := users_count (L := L) (k := (k : Int)) (x := x.toNat)
      rw [hxe] at h3
      rw [hU] at h3
      omega
    refine ⟨⟨r', out ++ [x], chR, chO, O', rfl, rfl, ownR, ownO, W, hnd', hG2, hOe, fun k => ?_⟩, by simp at hol2 ⊢; omega⟩
    rw [hr', nx1_iff]
    constructor
    · rintro ⟨a, b, c, d⟩
      have := hOe k.toNat (by omega) (by omega)
      rw [show ((k.toNat : Nat) : Int) = k by omega] at this
      exact ⟨a, b, c, by omega⟩
    · rintro ⟨a, b, c, d⟩
      have := hOe k.toNat (by omega) (by omega)
      rw [show ((k.toNat : Nat) : Int) = k by omega] at this
      exact ⟨a, b, c, by omega⟩
end Go.Proofs.YtljgfkiiikcaaaaGreat

/- Nodes in order: graph.ordered, told in the symbolic engine's words. -/
set_option linter.unusedVariables false
namespace Go.Proofs.YtljgfkiiikcaaaaGreat
open Go Go.Proofs
attribute [local irreducible] appK copyK delK updK lookK makeK rangeK nextM entryM mapEntryK entryStK lenMapK clearK
variable {Q : V → Mem → Prop}

theorem PRun.fz {P : Program} {g : FuncId} {args : List V} {Q : V → Mem → Prop}
    (hh : ∀ (D : Fz) (C : List Chunk) (h : Heap) (vs : List Value), St D C h → RpL D [] vs args → Run P g vs h fun v h' => ∃ D', Le D D' ∧ St D' C h' ∧ ∃ x, Rp D' [] v x ∧ Q x []) : PRun P g [] args Q := by
  intro D ρ chs C h vs M F
  have h1 : ρ = [] := List.eq_nil_of_length_eq_zero M.len
  have h2 : chs = [] := List.eq_nil_of_length_eq_zero M.lch
  subst h1; subst h2
  refine (hh D C h vs (by simpa using M.st) F).mono ?_
  rintro v h' ⟨D', l, S, x, hx, hQ⟩
  exact ⟨D', [], [], x, [], l, ⟨rfl, rfl, fun i L ab ch h => (by simp at h), by simpa using S⟩, hx, hQ⟩
def tabU (N : Nat) (f : Nat → U) : List U := (List.range N).map f
theorem tabU_len (N : Nat) (f : Nat → U) : (tabU N f).length = N := by simp [tabU]
theorem tabU_get {N k : Nat} (f : Nat → U) (h : k < N) : (tabU N f)[k]? = some (f k) := by simp [tabU, h]
/-- A web's cells as data. -/
def webU (n : Int) (L : List Stk) (O : Nat → Int) : List U := .n n :: (tabU 65 (fun k => .l 1 ((needsOf L k).map eI)) ++ (tabU 65 (fun k => .n (O k)) ++ tabU 65 (fun k => .l 1 ((usersOf L k).map eI))))
theorem ug_get : ∀ (l : List U) (k : Nat), ug l k = l[k]?
  | [], k => by cases k <;> rfl
  | x :: l, 0 => rfl
  | x :: l, k + 1 => by simp only [ug, List.getElem?_cons_succ]; exact ug_get l k
theorem web_needs {n : Int} {L : List Stk} {O : Nat → Int} {k : Nat} (h : k < 65) : ug (webU n L O) (1 + k) = some (.l 1 ((needsOf L k).map eI)) := by
  rw [ug_get, webU, Nat.add_comm, List.getElem?_cons_succ, List.getElem?_append_left (by rw [tabU_len]; exact h), tabU_get _ h]
theorem rd_web {D : Fz} {n : Int} {A B : Nat → Value} {L : List Stk} {O : Nat → Int} {w : Nat} {T : TypeId} (hw : D w = some (.cells ⟨cellsW n A B O⟩ T (0, 0))) (ha : RdW D A (needsOf L)) (hb : RdW D B (usersOf L)) :
    Rd D (.pointer (some ⟨w, 0, none⟩)) (.p (some (webU n L O))) := by
  refine .pp w 0 _ T _ _ (fun j => ((cellsW n A B O)[j]?).getD undef) hw ?_ ?_
  · intro j u hu
    have hj : j < 196 := by have := (List.getElem?_eq_some_iff.1 hu).1; simpa [webU, tabU_len] using this
    have : j < (cellsW n A B O).length := by rw [W_len]; exact hj
    simp [this]
  · intro j u hu
    have hj : j < 196 := by have := (List.getElem?_eq_some_iff.1 hu).1; simpa [webU, tabU_len] using this
    rcases Nat.eq_zero_or_pos j with rfl | h0
    · simp [webU] at hu; subst hu
      exact .int _ _
    obtain ⟨j, rfl⟩ : ∃ i, j = i + 1 := ⟨j - 1, by omega⟩
    rw [webU, List.getElem?_cons_succ] at hu
    by_cases h1 : j < 65
    · rw [List.getElem?_append_left (by rw [tabU_len]; exact h1), tabU_get _ h1] at hu
      cases hu
      obtain ⟨a, c, e, r⟩ := ha j h1
      rw [Nat.add_comm, W_A h1, Option.getD_some, e]; exact r
    rw [List.getElem?_append_right (by rw [tabU_len]; omega), tabU_len] at hu
    by_cases h2 : j - 65 < 65
    · rw [List.getElem?_append_left (by rw [tabU_len]; exact h2), tabU_get _ h2] at hu
      cases hu
      rw [show j + 1 = 66 + (j - 65) by omega, W_O h2]
      exact .int _ _
    · have h3 : j - 65 - 65 < 65 := by omega
      rw [List.getElem?_append_right (by rw [tabU_len]; omega), tabU_len, tabU_get _ h3] at hu
      cases hu
      obtain ⟨a, c, e, r⟩ := hb _ h3
      rw [show j + 1 = 131 + (j - 65 - 65) by omega, W_B h3, Option.getD_some, e]; exact r
theorem ordered_S {n : Int} {L : List Stk} (k1 : ¬ gOK n L → Q (.t [.u (.p none), .l 1 [], .i 1]) [])
    (k2 : gOK n L → ∀ out : List Int, Greedy L n out → (∀ k, ¬ Nx1 L n out k) → (out.length : Int) < n → Q (.t [.u (.p none), .l 1 [], .i 9]) [])
    (k3 : gOK n L → ∀ (out : List Int) (O : Nat → Int), Greedy L n out → (∀ k, ¬ Nx1 L n out k) → ¬ (out.length : Int) < n → Q (.t [.u (.p (some (webU n L O))), .l 1 (out.map eI), .i 0]) []) :
    PRun Tryz.prog 47 [] [.i n, .l 2 (L.map eS)] Q := by
  refine .fz fun D C h vs S F => ?_
  obtain ⟨v, z, rfl, h1, h2⟩ := F.two
  rw [Rd.int_iff.1 h1.u_inv]
  have hx := h2.u_inv
  obtain ⟨a, c, rfl, -, -⟩ := hx.shape
  rw [List.length_map] at hx ⊢
  refine V47 _ _ _ _ _ _ ?_
  unfold VC47
  refine made_spec S hx (fun hg h' S => ⟨_, rfl, ⟨D, .refl _, S, _, .t (.cons (.u .pn) (.cons (.u (.nil _ _ _)) (.cons (.u (.int _ _)) .nil))), k1 hg⟩⟩) fun hg A B w h' W => ⟨_, rfl, ?_⟩
  rw [Option.isNone_some, cond_false]
  refine (order_spec hg W).mono ?_
  rintro v h2 ⟨aO, cO, out, ch, O, rfl, hG, hN, own, W⟩
  refine ⟨_, _, _, rfl, cIf (fun hlt => ⟨D, .refl _, W.cc.drop, _, .t (.cons (.u .pn) (.cons (.u (.nil _ _ _)) (.cons (.u (.int _ _)) .nil))), k2 hg out hG hN hlt⟩) fun hge => ?_⟩
  obtain ⟨gA, gB, sa, sb, S⟩ := W
  have S2 : St D ((webC n A B O w ++ ((row 65 gA).flatten ++ ((row 65 gB).flatten ++ ch))) :: C) h2 := S.perm (by simp)
  obtain ⟨D', l, hf, S3⟩ := S2.freeze
  have ra := sa.rd l fun p hp => hf p (by simp only [List.mem_append]; exact .inr (.inl hp))
  have rb := sb.rd l fun p hp => hf p (by simp only [List.mem_append]; exact .inr (.inr (.inl hp)))
  have ro := own.rd l fun p hp => hf p (by simp only [List.mem_append]; exact .inr (.inr (.inr hp)))
  rw [List.length_map] at ro
  exact ⟨D', l, S3, _, .t (.cons (.u (rd_web (hf (w, .cells ⟨cellsW n A B O⟩ 142 (0, 0)) (by simp)) ra rb)) (.cons (.u ro) (.cons (.u (.int _ _)) .nil))), k3 hg out O hG hN hge⟩
end Go.Proofs.YtljgfkiiikcaaaaGreat

/- What the functions do, written by program (psv.py) and held against the program by the kernel. -/
set_option linter.unusedVariables false
set_option maxRecDepth 100000
namespace Go.Proofs.YtljgfkiiikcaaaaGreat
open Go Go.Proofs
theorem mixT2 : Tryz.prog.follows .mixedOrders = true := by kernel_rfl
/- bom.plan.wants -/
theorem S51w {p_0 : Int} {p_1 : List (List U)} {p_2 : Int} {p_3 : List (List U)} {p_4 : Int} {p_5 : Int} {p_6 : Int} {p_7 : Int} {p_8 : Int} {p_9 : List Int} {p_10 : List (List U)} {p_11 : List (List U)} {p_12 : List (List U)} {s_0 : Int} {s_1 : Int} {Q : V → Mem → Prop} (hh : 0 ≤ s_0 ∧ s_0 < (33 : Int) ∧ (elL p_9 s_0 (fun x1 => PRun Tryz.prog 64 [] [.i x1, .i s_1] (post [.I, .I] [] (fun x2 x3 => (bif x3 != 0 then Q (.i 5) [.c [.i p_0, .l 7 p_1, .i p_2, .l 4 p_3, .i p_4, .i p_5, .i p_6, .i p_7, .i p_8, .n .i64 33 p_9, .w 1, .w 2, .w 3], .w 52 2 p_10, .w 3 1 p_11, .w 52 2 p_12] else (bif decide (x2 > 1125899906842624) then Q (.i 5) [.c [.i p_0, .l 7 p_1, .i p_2, .l 4 p_3, .i p_4, .i p_5, .i p_6, .i p_7, .i p_8, .n .i64 33 p_9, .w 1, .w 2, .w 3], .w 52 2 p_10, .w 3 1 p_11, .w 52 2 p_12] else 0 ≤ s_0 ∧ s_0 < (33 : Int) ∧ (Q (.i 0) [.c [.i p_0, .l 7 p_1, .i p_2, .l 4 p_3, .i p_4, .i p_5, .i p_6, .i p_7, .i p_8, .n .i64 33 (List.set p_9 (Int.toNat s_0) x2), .w 1, .w 2, .w 3], .w 52 2 p_10, .w 3 1 p_11, .w 52 2 p_12])) : Prop)))))) : PRun Tryz.prog 51 [.c [.i p_0, .l 7 p_1, .i p_2, .l 4 p_3, .i p_4, .i p_5, .i p_6, .i p_7, .i p_8, .n .i64 33 p_9, .w 1, .w 2, .w 3], .w 52 2 p_10, .w 3 1 p_11, .w 52 2 p_12] [.r 0 0, .a [.i s_0, .i s_1]] Q :=
  funS2 mixT2 Tryz.func51 (by kernel_rfl) (H := ⟨[], [], [], [], [], false, 64⟩) (n := 2) (by kernel_rfl) hh

/- bom.plan.makes -/
theorem S23 {p_0 : Int} {p_1 : List (List U)} {p_2 : Int} {p_3 : List (List U)} {p_4 : Int} {p_5 : Int} {p_6 : Int} {p_7 : Int} {p_8 : Int} {p_9 : List Int} {p_10 : List (List U)} {p_11 : List (List U)} {p_12 : List (List U)} {kind : Int} {n : Int} {Q : V → Mem → Prop} (hh : PRun Tryz.prog 36 [] [.a [.i p_0, .l 7 p_1, .i p_2, .l 4 p_3, .i p_4, .i p_5, .i p_6, .i p_7], .i kind] (post [.I] [] (fun x1 => (bif x1 == 0 then apOk p_10 [[.n kind, .n n]] ∧ (Q (.i 0) [.c [.i p_0, .l 7 p_1, .i p_2, .l 4 p_3, .i p_4, .i p_5, .i p_6, .i p_7, .i p_8, .n .i64 33 p_9, .w 4, .w 2, .w 3], .x, .w 3 1 p_11, .w 52 2 p_12, .w 52 2 (p_10 ++ [[.n kind, .n n]])]) else elL p_1 (IntKind.wrap .i64 (x1 - 1)) (fun r1 => dI .i64 (ug r1 0) (fun x2 => dI .i64 (ug r1 1) (fun x3 => dI .i64 (ug r1 2) (fun x4 => dL 2 (ug r1 3) (fun l1 => dI .i64 (ug r1 4) (fun x5 => dI .i64 (ug r1 5) (fun x6 => dI .i64 (ug r1 6) (fun x7 => PRun Tryz.prog 50 [] [.a [.i x2, .i x3, .i x4, .l 2 l1, .i x5, .i x6, .i x7], .i n] (post [.I, .I] [] (fun x8 x9 => (bif x9 != 0 then Q (.i 5) [.c [.i p_0, .l 7 p_1, .i p_2, .l 4 p_3, .i p_4, .i p_5, .i p_6, .i p_7, .i p_8, .n .i64 33 p_9, .w 1, .w 2, .w 3], .w 52 2 p_10, .w 3 1 p_11, .w 52 2 p_12] else (bif decide (x8 > 1000) then Q (.i 5) [.c [.i p_0, .l 7 p_1, .i p_2, .l 4 p_3, .i p_4, .i p_5, .i p_6, .i p_7, .i p_8, .n .i64 33 p_9, .w 1, .w 2, .w 3], .w 52 2 p_10, .w 3 1 p_11, .w 52 2 p_12] else 0 ≤ IntKind.wrap .i64 (x1 - 1) ∧ IntKind.wrap .i64 (x1 - 1) < (List.length p_11 : Int) ∧ (∀ k1 : Int → List (List U) → Int → List (List U) → Int → Int → Int → Int → Int → List Int → List (List U) → List (List U) → List (List U) → Prop, (∀ x10 : Int, ∀ l2 : List (List U), ∀ x11 : Int, ∀ l3 : List (List U), ∀ x12 : Int, ∀ x13 : Int, ∀ x14 : Int, ∀ x15 : Int, ∀ x16 : Int, ∀ a1 : List Int, ∀ l4 : List (List U), ∀ l5 : List (List U), ∀ l6 : List (List U), (PRun Tryz.prog 42 [] [.a [.i x2, .i x3, .i x4, .l 2 l1, .i x5, .i x6, .i x7], .i x16, .i x8] (post [.L 2, .I] [] (fun l7 x17 => ∃ (I1 : Int → Int → Int → List (List U) → Int → List (List U) → Int → Int → Int → Int → Int → List Int → List (List U) → List (List U) → List (List U) → Prop) (f1 : Int → Int → Int → List (List U) → Int → List (List U) → Int → Int → Int → Int → Int → List Int → List (List U) → List (List U) → List (List U) → Nat), I1 x17 0 x10 l2 x11 l3 x12 x13 x14 x15 x16 a1 l4 l5 l6 ∧ (∀ x18 : Int, ∀ x19 : Int, ∀ x20 : Int, ∀ l8 : List (List U), ∀ x21 : Int, ∀ l9 : List (List U), ∀ x22 : Int, ∀ x23 : Int, ∀ x24 : Int, ∀ x25 : Int, ∀ x26 : Int, ∀ a2 : List Int, ∀ l10 : List (List U), ∀ l11 : List (List U), ∀ l12 : List (List U), I1 x18 x19 x20 l8 x21 l9 x22 x23 x24 x25 x26 a2 l10 l11 l12 → (bif decide (x19 < (List.length l7 : Int)) then elL l7 x19 (fun r2 => dI .i64 (ug r2 0) (fun x27 => dI .i64 (ug r2 1) (fun x28 => (bif x18 == 0 then PRun Tryz.prog 51 [.c [.i x20, .l 7 l8, .i x21, .l 4 l9, .i x22, .i x23, .i x24, .i x25, .i x26, .n .i64 33 a2, .w 1, .w 2, .w 3], .w 52 2 l10, .w 3 1 l11, .w 52 2 l12] [.r 0 0, .a [.i x27, .i x28]] (post [.I] [.c [.i .i64, .l 7, .i .i64, .l 4, .i .i64, .i .i64, .i .i64, .i .i64, .i .i64, .n 33, .ow 52 2, .ow 3 1, .ow 52 2], .X, .X, .X] (fun x29 x30 l13 x31 l14 x32 x33 x34 x35 x36 a3 l15 l16 l17 => (I1 x29 (IntKind.wrap .i64 (x19 + 1)) x30 l13 x31 l14 x32 x33 x34 x35 x36 a3 l15 l16 l17 ∧ f1 x29 (IntKind.wrap .i64 (x19 + 1)) x30 l13 x31 l14 x32 x33 x34 x35 x36 a3 l15 l16 l17 < f1 x18 x19 x20 l8 x21 l9 x22 x23 x24 x25 x26 a2 l10 l11 l12 : Prop))) else I1 x18 (IntKind.wrap .i64 (x19 + 1)) x20 l8 x21 l9 x22 x23 x24 x25 x26 a2 l10 l11 l12 ∧ f1 x18 (IntKind.wrap .i64 (x19 + 1)) x20 l8 x21 l9 x22 x23 x24 x25 x26 a2 l10 l11 l12 < f1 x18 x19 x20 l8 x21 l9 x22 x23 x24 x25 x26 a2 l10 l11 l12)))) else Q (.i x18) [.c [.i x20, .l 7 l8, .i x21, .l 4 l9, .i x22, .i x23, .i x24, .i x25, .i x26, .n .i64 33 a2, .w 4, .w 5, .w 6], .x, .x, .x, .w 52 2 l10, .w 3 1 l11, .w 52 2 l12]))))) → k1 x10 l2 x11 l3 x12 x13 x14 x15 x16 a1 l4 l5 l6) → (bif decide (IntKind.wrap .i64 (IntKind.wrap .i64 (x8 * x3) - n) > 0) then apOk p_12 [[.n kind, .n (IntKind.wrap .i64 (IntKind.wrap .i64 (x8 * x3) - n))]] ∧ (k1 p_0 p_1 p_2 p_3 p_4 p_5 p_6 p_7 p_8 p_9 p_10 (List.set p_11 (Int.toNat (IntKind.wrap .i64 (x1 - 1))) [.n x8]) (p_12 ++ [[.n kind, .n (IntKind.wrap .i64 (IntKind.wrap .i64 (x8 * x3) - n))]])) else k1 p_0 p_1 p_2 p_3 p_4 p_5 p_6 p_7 p_8 p_9 p_10 (List.set p_11 (Int.toNat (IntKind.wrap .i64 (x1 - 1))) [.n x8]) p_12))) : Prop))))))))))) : Prop)))) : PRun Tryz.prog 23 [.c [.i p_0, .l 7 p_1, .i p_2, .l 4 p_3, .i p_4, .i p_5, .i p_6, .i p_7, .i p_8, .n .i64 33 p_9, .w 1, .w 2, .w 3], .w 52 2 p_10, .w 3 1 p_11, .w 52 2 p_12] [.r 0 0, .i kind, .i n] Q :=
  funS2 mixT2 Tryz.func23 (by kernel_rfl) (H := ⟨[((23, 15, 8), ⟨[(10, .I), (101, .I)], [(0, .c [.i .i64, .l 7, .i .i64, .l 4, .i .i64, .i .i64, .i .i64, .i .i64, .i .i64, .n 33, .ow 52 2, .ow 3 1, .ow 52 2])]⟩)], [((23, 13, 5), ⟨[], [(0, .c [.i .i64, .l 7, .i .i64, .l 4, .i .i64, .i .i64, .i .i64, .i .i64, .i .i64, .n 33, .ow 52 2, .ow 3 1, .ow 52 2])]⟩)], [], [], [], false, 64⟩) (n := 2) (by kernel_rfl) hh

/- bom.Expand -/
theorem S7 {c_0 : Int} {c_1 : List (List U)} {c_2 : Int} {c_3 : List (List U)} {c_4 : Int} {c_5 : Int} {c_6 : Int} {c_7 : Int} {kind : Int} {n : Int} {level : Int} {have0 : List (List U)} {Q : V → Mem → Prop} (hh : PRun Tryz.prog 17 [] [.a [.i c_0, .l 7 c_1, .i c_2, .l 4 c_3, .i c_4, .i c_5, .i c_6, .i c_7], .i kind, .i level, .l 2 have0] (post [.I] [] (fun x1 => (bif x1 != 0 then Q (.t [.a [.l 2 [], .l 1 [], .l 2 []], .i x1]) [] else PRun Tryz.prog 18 [] [.i n, .i 1, .i 1125899906842624] (post [.B] [] (fun b1 => (bif !b1 then Q (.t [.a [.l 2 [], .l 1 [], .l 2 []], .i 1]) [] else (0 ≤ (List.length c_1 : Int) ∧ (List.length c_1 : Int) ≤ 1000000 ∧ (List.length c_1 : Int) = (List.length c_1 : Int) ∧ (dup2 (0 ≤ kind ∧ kind < (33 : Int) ∧ ((PRun Tryz.prog 20 [] [.a [.i c_0, .l 7 c_1, .i c_2, .l 4 c_3, .i c_4, .i c_5, .i c_6, .i c_7]] (post [.L 2] [] (fun l1 => (dup2 (PRun Tryz.prog 19 [] [.i c_0, .l 2 l1] (post [.L 1, .I] [] (fun l2 x2 => ∀ X1 : Ob, ∃ (I1 : Int → Int → List (List U) → Int → List (List U) → Int → Int → Int → Int → Int → List Int → List (List U) → List (List U) → List (List U) → Int → Prop) (f1 : Int → Int → List (List U) → Int → List (List U) → Int → Int → Int → Int → Int → List Int → List (List U) → List (List U) → List (List U) → Int → Nat), I1 (IntKind.wrap .i64 ((List.length l2 : Int) - 1)) c_0 c_1 c_2 c_3 c_4 c_5 c_6 c_7 level (List.set (List.replicate 33 0) (Int.toNat kind) n) [] (List.replicate (Int.toNat (List.length c_1 : Int)) ([.n 0] : List U)) [] x2 ∧ (∀ x3 : Int, ∀ x4 : Int, ∀ l3 : List (List U), ∀ x5 : Int, ∀ l4 : List (List U), ∀ x6 : Int, ∀ x7 : Int, ∀ x8 : Int, ∀ x9 : Int, ∀ x10 : Int, ∀ a1 : List Int, ∀ l5 : List (List U), ∀ l6 : List (List U), ∀ l7 : List (List U), ∀ x11 : Int, I1 x3 x4 l3 x5 l4 x6 x7 x8 x9 x10 a1 l5 l6 l7 x11 → (bif decide (x3 ≥ 0) then elL l2 x3 (fun r1 => dI .i64 (ug r1 0) (fun x12 => (.o X1 : AB) = .o X1 ∧ (0 ≤ x12 ∧ x12 < (33 : Int) ∧ (elL a1 x12 (fun x13 => PRun Tryz.prog 22 [] [.l 2 have0, .i x12] (post [.I] [] (fun x14 => ∀ k1 : Bool → Prop, (∀ b2 : Bool, ((bif b2 then PRun Tryz.prog 23 [.c [.i x4, .l 7 l3, .i x5, .l 4 l4, .i x6, .i x7, .i x8, .i x9, .i x10, .n .i64 33 a1, .w 1, .w 2, .w 3], .w 52 2 l5, .w 3 1 l6, .w 52 2 l7] [.r 0 0, .i x12, .i (IntKind.wrap .i64 (x13 - x14))] (post [.I] [.c [.i .i64, .l 7, .i .i64, .l 4, .i .i64, .i .i64, .i .i64, .i .i64, .i .i64, .n 33, .ow 52 2, .ow 3 1, .ow 52 2], .X, .X, .X] (fun x15 x16 l8 x17 l9 x18 x19 x20 x21 x22 a2 l10 l11 l12 => (I1 (IntKind.wrap .i64 (x3 - 1)) x16 l8 x17 l9 x18 x19 x20 x21 x22 a2 l10 l11 l12 x15 ∧ f1 (IntKind.wrap .i64 (x3 - 1)) x16 l8 x17 l9 x18 x19 x20 x21 x22 a2 l10 l11 l12 x15 < f1 x3 x4 l3 x5 l4 x6 x7 x8 x9 x10 a1 l5 l6 l7 x11 : Prop))) else I1 (IntKind.wrap .i64 (x3 - 1)) x4 l3 x5 l4 x6 x7 x8 x9 x10 a1 l5 l6 l7 x11 ∧ f1 (IntKind.wrap .i64 (x3 - 1)) x4 l3 x5 l4 x6 x7 x8 x9 x10 a1 l5 l6 l7 x11 < f1 x3 x4 l3 x5 l4 x6 x7 x8 x9 x10 a1 l5 l6 l7 x11)) → k1 b2) → (bif x11 == 0 then k1 (decide (IntKind.wrap .i64 (x13 - x14) > 0)) else k1 false)))))))) else (.o X1 : AB) = .o X1 ∧ (bif x11 != 0 then Q (.t [.a [.l 2 [], .l 1 [], .l 2 []], .i x11]) [] else PRun Tryz.prog 25 [.w 52 2 l5] [.w 0, .f 24 [] []] (post [] [.row 52 2] (fun l13 => (PRun Tryz.prog 25 [.w 52 2 l7] [.w 0, .f 24 [] []] (post [] [.row 52 2] (fun l14 => (Q (.t [.a [.l 2 l13, .l 1 l6, .l 2 l14], .i 0]) [] : Prop))) : Prop))))))))) : Prop)))) ∧ (PRun Tryz.prog 20 [] [.a [.i c_0, .l 7 c_1, .i c_2, .l 4 c_3, .i c_4, .i c_5, .i c_6, .i c_7]] (post [.L 2] [] (fun l1 => (PRun Tryz.prog 19 [] [.i c_0, .l 2 l1] (post [.L 1, .I] [] (fun l2 x2 => ∀ X1 : Ob, ∃ (I1 : Int → Int → List (List U) → Int → List (List U) → Int → Int → Int → Int → Int → List Int → List (List U) → List (List U) → List (List U) → Int → Prop) (f1 : Int → Int → List (List U) → Int → List (List U) → Int → Int → Int → Int → Int → List Int → List (List U) → List (List U) → List (List U) → Int → Nat), I1 (IntKind.wrap .i64 ((List.length l2 : Int) - 1)) c_0 c_1 c_2 c_3 c_4 c_5 c_6 c_7 level (List.set (List.replicate 33 0) (Int.toNat kind) n) [] (List.replicate (Int.toNat (List.length c_1 : Int)) ([.n 0] : List U)) [] x2 ∧ (∀ x3 : Int, ∀ x4 : Int, ∀ l3 : List (List U), ∀ x5 : Int, ∀ l4 : List (List U), ∀ x6 : Int, ∀ x7 : Int, ∀ x8 : Int, ∀ x9 : Int, ∀ x10 : Int, ∀ a1 : List Int, ∀ l5 : List (List U), ∀ l6 : List (List U), ∀ l7 : List (List U), ∀ x11 : Int, I1 x3 x4 l3 x5 l4 x6 x7 x8 x9 x10 a1 l5 l6 l7 x11 → (bif decide (x3 ≥ 0) then elL l2 x3 (fun r1 => dI .i64 (ug r1 0) (fun x12 => (.o X1 : AB) = .o X1 ∧ (0 ≤ x12 ∧ x12 < (33 : Int) ∧ (elL a1 x12 (fun x13 => PRun Tryz.prog 22 [] [.l 2 have0, .i x12] (post [.I] [] (fun x14 => ∀ k1 : Bool → Prop, (∀ b2 : Bool, ((bif b2 then PRun Tryz.prog 23 [.c [.i x4, .l 7 l3, .i x5, .l 4 l4, .i x6, .i x7, .i x8, .i x9, .i x10, .n .i64 33 a1, .w 1, .w 2, .w 3], .w 52 2 l5, .w 3 1 l6, .w 52 2 l7] [.r 0 0, .i x12, .i (IntKind.wrap .i64 (x13 - x14))] (post [.I] [.c [.i .i64, .l 7, .i .i64, .l 4, .i .i64, .i .i64, .i .i64, .i .i64, .i .i64, .n 33, .ow 52 2, .ow 3 1, .ow 52 2], .X, .X, .X] (fun x15 x16 l8 x17 l9 x18 x19 x20 x21 x22 a2 l10 l11 l12 => (I1 (IntKind.wrap .i64 (x3 - 1)) x16 l8 x17 l9 x18 x19 x20 x21 x22 a2 l10 l11 l12 x15 ∧ f1 (IntKind.wrap .i64 (x3 - 1)) x16 l8 x17 l9 x18 x19 x20 x21 x22 a2 l10 l11 l12 x15 < f1 x3 x4 l3 x5 l4 x6 x7 x8 x9 x10 a1 l5 l6 l7 x11 : Prop))) else I1 (IntKind.wrap .i64 (x3 - 1)) x4 l3 x5 l4 x6 x7 x8 x9 x10 a1 l5 l6 l7 x11 ∧ f1 (IntKind.wrap .i64 (x3 - 1)) x4 l3 x5 l4 x6 x7 x8 x9 x10 a1 l5 l6 l7 x11 < f1 x3 x4 l3 x5 l4 x6 x7 x8 x9 x10 a1 l5 l6 l7 x11)) → k1 b2) → (bif x11 == 0 then k1 (decide (IntKind.wrap .i64 (x13 - x14) > 0)) else k1 false)))))))) else (.o X1 : AB) = .o X1 ∧ (bif x11 != 0 then Q (.t [.a [.l 2 [], .l 1 [], .l 2 []], .i x11]) [] else PRun Tryz.prog 25 [.w 52 2 l5] [.w 0, .f 24 [] []] (post [] [.row 52 2] (fun l13 => (PRun Tryz.prog 25 [.w 52 2 l7] [.w 0, .f 24 [] []] (post [] [.row 52 2] (fun l14 => (Q (.t [.a [.l 2 l13, .l 1 l6, .l 2 l14], .i 0]) [] : Prop))) : Prop)))))))) : Prop)))))))) ∧ (0 ≤ (List.length c_1 : Int) ∧ (List.length c_1 : Int) ≤ 1000000 ∧ (List.length c_1 : Int) = (List.length c_1 : Int) ∧ (0 ≤ kind ∧ kind < (33 : Int) ∧ ((PRun Tryz.prog 20 [] [.a [.i c_0, .l 7 c_1, .i c_2, .l 4 c_3, .i c_4, .i c_5, .i c_6, .i c_7]] (post [.L 2] [] (fun l1 => (dup2 (PRun Tryz.prog 19 [] [.i c_0, .l 2 l1] (post [.L 1, .I] [] (fun l2 x2 => ∀ X1 : Ob, ∃ (I1 : Int → Int → List (List U) → Int → List (List U) → Int → Int → Int → Int → Int → List Int → List (List U) → List (List U) → List (List U) → Int → Prop) (f1 : Int → Int → List (List U) → Int → List (List U) → Int → Int → Int → Int → Int → List Int → List (List U) → List (List U) → List (List U) → Int → Nat), I1 (IntKind.wrap .i64 ((List.length l2 : Int) - 1)) c_0 c_1 c_2 c_3 c_4 c_5 c_6 c_7 level (List.set (List.replicate 33 0) (Int.toNat kind) n) [] (List.replicate (Int.toNat (List.length c_1 : Int)) ([.n 0] : List U)) [] x2 ∧ (∀ x3 : Int, ∀ x4 : Int, ∀ l3 : List (List U), ∀ x5 : Int, ∀ l4 : List (List U), ∀ x6 : Int, ∀ x7 : Int, ∀ x8 : Int, ∀ x9 : Int, ∀ x10 : Int, ∀ a1 : List Int, ∀ l5 : List (List U), ∀ l6 : List (List U), ∀ l7 : List (List U), ∀ x11 : Int, I1 x3 x4 l3 x5 l4 x6 x7 x8 x9 x10 a1 l5 l6 l7 x11 → (bif decide (x3 ≥ 0) then elL l2 x3 (fun r1 => dI .i64 (ug r1 0) (fun x12 => (.o X1 : AB) = .o X1 ∧ (0 ≤ x12 ∧ x12 < (33 : Int) ∧ (elL a1 x12 (fun x13 => PRun Tryz.prog 22 [] [.l 2 have0, .i x12] (post [.I] [] (fun x14 => ∀ k1 : Bool → Prop, (∀ b2 : Bool, ((bif b2 then PRun Tryz.prog 23 [.c [.i x4, .l 7 l3, .i x5, .l 4 l4, .i x6, .i x7, .i x8, .i x9, .i x10, .n .i64 33 a1, .w 1, .w 2, .w 3], .w 52 2 l5, .w 3 1 l6, .w 52 2 l7] [.r 0 0, .i x12, .i (IntKind.wrap .i64 (x13 - x14))] (post [.I] [.c [.i .i64, .l 7, .i .i64, .l 4, .i .i64, .i .i64, .i .i64, .i .i64, .i .i64, .n 33, .ow 52 2, .ow 3 1, .ow 52 2], .X, .X, .X] (fun x15 x16 l8 x17 l9 x18 x19 x20 x21 x22 a2 l10 l11 l12 => (I1 (IntKind.wrap .i64 (x3 - 1)) x16 l8 x17 l9 x18 x19 x20 x21 x22 a2 l10 l11 l12 x15 ∧ f1 (IntKind.wrap .i64 (x3 - 1)) x16 l8 x17 l9 x18 x19 x20 x21 x22 a2 l10 l11 l12 x15 < f1 x3 x4 l3 x5 l4 x6 x7 x8 x9 x10 a1 l5 l6 l7 x11 : Prop))) else I1 (IntKind.wrap .i64 (x3 - 1)) x4 l3 x5 l4 x6 x7 x8 x9 x10 a1 l5 l6 l7 x11 ∧ f1 (IntKind.wrap .i64 (x3 - 1)) x4 l3 x5 l4 x6 x7 x8 x9 x10 a1 l5 l6 l7 x11 < f1 x3 x4 l3 x5 l4 x6 x7 x8 x9 x10 a1 l5 l6 l7 x11)) → k1 b2) → (bif x11 == 0 then k1 (decide (IntKind.wrap .i64 (x13 - x14) > 0)) else k1 false)))))))) else (.o X1 : AB) = .o X1 ∧ (bif x11 != 0 then Q (.t [.a [.l 2 [], .l 1 [], .l 2 []], .i x11]) [] else PRun Tryz.prog 25 [.w 52 2 l5] [.w 0, .f 24 [] []] (post [] [.row 52 2] (fun l13 => (PRun Tryz.prog 25 [.w 52 2 l7] [.w 0, .f 24 [] []] (post [] [.row 52 2] (fun l14 => (Q (.t [.a [.l 2 l13, .l 1 l6, .l 2 l14], .i 0]) [] : Prop))) : Prop))))))))) : Prop)))) ∧ (PRun Tryz.prog 20 [] [.a [.i c_0, .l 7 c_1, .i c_2, .l 4 c_3, .i c_4, .i c_5, .i c_6, .i c_7]] (post [.L 2] [] (fun l1 => (PRun Tryz.prog 19 [] [.i c_0, .l 2 l1] (post [.L 1, .I] [] (fun l2 x2 => ∀ X1 : Ob, ∃ (I1 : Int → Int → List (List U) → Int → List (List U) → Int → Int → Int → Int → Int → List Int → List (List U) → List (List U) → List (List U) → Int → Prop) (f1 : Int → Int → List (List U) → Int → List (List U) → Int → Int → Int → Int → Int → List Int → List (List U) → List (List U) → List (List U) → Int → Nat), I1 (IntKind.wrap .i64 ((List.length l2 : Int) - 1)) c_0 c_1 c_2 c_3 c_4 c_5 c_6 c_7 level (List.set (List.replicate 33 0) (Int.toNat kind) n) [] (List.replicate (Int.toNat (List.length c_1 : Int)) ([.n 0] : List U)) [] x2 ∧ (∀ x3 : Int, ∀ x4 : Int, ∀ l3 : List (List U), ∀ x5 : Int, ∀ l4 : List (List U), ∀ x6 : Int, ∀ x7 : Int, ∀ x8 : Int, ∀ x9 : Int, ∀ x10 : Int, ∀ a1 : List Int, ∀ l5 : List (List U), ∀ l6 : List (List U), ∀ l7 : List (List U), ∀ x11 : Int, I1 x3 x4 l3 x5 l4 x6 x7 x8 x9 x10 a1 l5 l6 l7 x11 → (bif decide (x3 ≥ 0) then elL l2 x3 (fun r1 => dI .i64 (ug r1 0) (fun x12 => (.o X1 : AB) = .o X1 ∧ (0 ≤ x12 ∧ x12 < (33 : Int) ∧ (elL a1 x12 (fun x13 => PRun Tryz.prog 22 [] [.l 2 have0, .i x12] (post [.I] [] (fun x14 => ∀ k1 : Bool → Prop, (∀ b2 : Bool, ((bif b2 then PRun Tryz.prog 23 [.c [.i x4, .l 7 l3, .i x5, .l 4 l4, .i x6, .i x7, .i x8, .i x9, .i x10, .n .i64 33 a1, .w 1, .w 2, .w 3], .w 52 2 l5, .w 3 1 l6, .w 52 2 l7] [.r 0 0, .i x12, .i (IntKind.wrap .i64 (x13 - x14))] (post [.I] [.c [.i .i64, .l 7, .i .i64, .l 4, .i .i64, .i .i64, .i .i64, .i .i64, .i .i64, .n 33, .ow 52 2, .ow 3 1, .ow 52 2], .X, .X, .X] (fun x15 x16 l8 x17 l9 x18 x19 x20 x21 x22 a2 l10 l11 l12 => (I1 (IntKind.wrap .i64 (x3 - 1)) x16 l8 x17 l9 x18 x19 x20 x21 x22 a2 l10 l11 l12 x15 ∧ f1 (IntKind.wrap .i64 (x3 - 1)) x16 l8 x17 l9 x18 x19 x20 x21 x22 a2 l10 l11 l12 x15 < f1 x3 x4 l3 x5 l4 x6 x7 x8 x9 x10 a1 l5 l6 l7 x11 : Prop))) else I1 (IntKind.wrap .i64 (x3 - 1)) x4 l3 x5 l4 x6 x7 x8 x9 x10 a1 l5 l6 l7 x11 ∧ f1 (IntKind.wrap .i64 (x3 - 1)) x4 l3 x5 l4 x6 x7 x8 x9 x10 a1 l5 l6 l7 x11 < f1 x3 x4 l3 x5 l4 x6 x7 x8 x9 x10 a1 l5 l6 l7 x11)) → k1 b2) → (bif x11 == 0 then k1 (decide (IntKind.wrap .i64 (x13 - x14) > 0)) else k1 false)))))))) else (.o X1 : AB) = .o X1 ∧ (bif x11 != 0 then Q (.t [.a [.l 2 [], .l 1 [], .l 2 []], .i x11]) [] else PRun Tryz.prog 25 [.w 52 2 l5] [.w 0, .f 24 [] []] (post [] [.row 52 2] (fun l13 => (PRun Tryz.prog 25 [.w 52 2 l7] [.w 0, .f 24 [] []] (post [] [.row 52 2] (fun l14 => (Q (.t [.a [.l 2 l13, .l 1 l6, .l 2 l14], .i 0]) [] : Prop))) : Prop)))))))) : Prop))))))) : Prop))) : Prop)))) : PRun Tryz.prog 7 [] [.a [.i c_0, .l 7 c_1, .i c_2, .l 4 c_3, .i c_4, .i c_5, .i c_6, .i c_7], .i kind, .i n, .i level, .l 2 have0] Q :=
  funS2 mixT2 Tryz.func7 (by kernel_rfl) (H := ⟨[((48, 1, 9), ⟨[(3, .I)], [(4, .c [.i .i64, .l 7, .i .i64, .l 4, .i .i64, .i .i64, .i .i64, .i .i64, .i .i64, .n 33, .ow 52 2, .ow 3 1, .ow 52 2]), (6, .c [.i .i64])]⟩)], [((7, 13, 12), ⟨[(75, .B)], []⟩)], [21], [25], [], false, 64⟩) (n := 3) (by kernel_rfl) hh

/- bom.Expand$1 -/
theorem S24 {a_0 : Int} {a_1 : Int} {b_0 : Int} {b_1 : Int} {Q : V → Mem → Prop} (hh : Q (.i (IntKind.wrap .i64 (a_0 - b_0))) []) : PRun Tryz.prog 24 [] [.a [.i a_0, .i a_1], .a [.i b_0, .i b_1]] Q :=
  funS2 mixT2 Tryz.func24 (by kernel_rfl) (H := ⟨[], [], [], [], [], false, 64⟩) (n := 2) (by kernel_rfl) hh

end Go.Proofs.YtljgfkiiikcaaaaGreat

/- slices.SortFunc on an own row of numbers' rows, by the symbolic engine. -/
set_option linter.unusedVariables false
namespace Go.Proofs.YtljgfkiiikcaaaaGreat
open Go Go.Sort Go.Shelf Go.Proofs

theorem PRun.run0 {P : Program} {g : FuncId} {args : List V} {Q : V → Mem → Prop} (hh : PRun P g [] args Q) {vs : List Value} (F : RpL (fun _ => none) [] vs args) (h : Heap) :
    Run P g vs h fun v h' => Keep h h' ∧ ∃ D ρ x m', Rp D ρ v x ∧ Q x m' := by
  have hS : St (fun _ => none) [(List.range h.size).pmap (fun i hi => (i, h[i]'(by simpa using hi))) (fun i hi => List.mem_range.1 hi)] h := by
    refine ⟨?_, fun p hp => ?_, fun b o hb => by cases hb⟩
    · simp only [ids, List.flatten_cons, List.flatten_nil, List.append_nil, List.map_pmap]
      have : (List.pmap (fun i (hi : i < h.size) => i) (List.range h.size) (fun i hi => List.mem_range.1 hi)) = List.range h.size := by
        rw [List.pmap_eq_map, List.map_id']
      rw [this]; exact List.nodup_range
    · simp only [List.flatten_cons, List.flatten_nil, List.append_nil, List.mem_pmap] at hp
      obtain ⟨i, hi, rfl⟩ := hp
      have := List.mem_range.1 hi
      simp [this]
  refine (hh (fun _ => none) [] [] _ h vs ⟨rfl, rfl, fun i L ab ch h => by simp at h, by simpa using hS⟩ F).mono ?_
  rintro v h' ⟨D', ρ', chs', x, m', -, M, hv, hq⟩
  have key : ∀ i (hi : i < h.size), h'[i]? = some h[i] := fun i hi => by
    refine M.st.own (i, h[i]) ?_
    simp only [List.flatten_append, List.mem_append, List.flatten_cons, List.flatten_nil, List.append_nil, List.mem_pmap]
    exact .inr ⟨i, List.mem_range.2 hi, rfl⟩
  refine ⟨⟨?_, fun b hb _ => by rw [key b hb]; simp [hb]⟩, D', _, x, m', hv, hq⟩
  rcases Nat.eq_zero_or_pos h.size with h0 | h0
  · omega
  · have := lt_of_get (key (h.size - 1) (by omega))
    omega
theorem rp_ints : ∀ (l : List Int), RpC (fun _ => none) [] (l.map (Value.int .i64)) (l.map V.i)
  | [] => .nil
  | x :: l => .cons (.u (.int _ _)) (by simp) (rp_ints l)
theorem sortP {α : Type} [Inhabited α] {P : Program} {ρ0 : Go.Shelf.Ren} (L : SlLaysF0.n6 P ρ0) {f g : FuncId} (hf : ρ0.f 6 = f) (hc : Callable P f) (k : Nat) (aE : ∀ w, (isAgg (ρ0.t 24)).run P w = .ok true w) (zE : ∀ w, (Go.sizeOf (ρ0.t 24)).run P w = .ok k w)
    (en : α → List Int) (hk : ∀ x, (en x).length = k) (cf : α → α → Int) (hO : SWO (ltOf cf)) (hg : Callable P g) (hrun : ∀ x y, PRun P g [] [.a ((en x).map V.i), .a ((en y).map V.i)] fun v _ => v = .i (cf x y))
    {E : TypeId} {rows : List α} (hl : rows.length ≤ 1000000) {Q : V → Mem → Prop} (kk : ∀ r : List α, r.Perm rows → r.Pairwise (fun x y => cf y x < 0 → False) → Q (.t []) [.w E k (r.map fun x => (en x).map U.n)]) :
    PRun P f [.w E k (rows.map fun x => (en x).map U.n)] [.w 0, .f g [] []] Q := by
  intro D ρ chs C h vs M F
  cases F with
  | cons a1 F =>
  cases F with
  | cons a2 F =>
  cases F
  obtain ⟨L0, hL0, rfl⟩ := a1.w_inv
  obtain ⟨xs, ys, rfl, b1, b2⟩ := a2.f_inv
  cases b1; cases b2
  obtain ⟨L1, ch, g1, g2, g3⟩ := M.get (b := 0) (by simp [mg])
  rw [hL0] at g1; cases g1
  have hch : chs = [ch] := by
    have := M.lch
    match chs, this, g2 with
    | [c], _, g2 => simp at g2; rw [g2]
  subst hch
  have hρ : ρ = [L0] := by
    have := M.len
    match ρ, this, hL0 with
    | [c], _, g2 => simp at g2; rw [g2]
  subst hρ
  simp only [mg] at g3
  have S : St D (ch :: C) h := M.st
  cases g3 with
  | w own hn =>
    rw [List.length_map] at hn
    generalize hrr : rows.map (fun x => (en x).map U.n) = rr at own
    obtain ⟨Lb, La, Ln, Lc⟩ := L0
    simp only at own hn
    subst hn
    cases own with
    | nil =>
      have h0 : rows = [] := by simpa using hrr
      subst h0
      refine (sortRun_none L hf hc).mono ?_
      rintro v h' ⟨rfl, rfl⟩
      exact ⟨D, [], [[]], .t [], _, .refl D, M, .t .nil, kk [] (.refl _) .nil⟩
    | row b Lc arr rr v h1 h2 h3 h4 h5 =>
      have hb := S.get (List.mem_singleton_self _)
      refine (sortRun L hf hc k aE zE (fun x => (en x).map (Value.int .i64)) (fun x => by simp [hk]) (fun x v hv => by simp at hv; obtain ⟨n, -, rfl⟩ := hv; rfl) cf hO g hg (fun x y h => ?_) (d := rows) (cap := Lc) hb (fun i x hx j v' hv' => ?_) (by omega) (by rw [← hrr] at h2; simpa using h2)).mono ?_
      · refine ((hrun x y).run0 (vs := [.agg ((en x).map (Value.int .i64)).toArray, .agg ((en y).map (Value.int .i64)).toArray]) (.cons (.a (rp_ints _)) (.cons (.a (rp_ints _)) .nil)) h).mono ?_
        rintro v h' ⟨hkp, D', ρ', x', m', hv, rfl⟩
        refine ⟨?_, hkp⟩
        cases hv with | u hv => cases hv; rfl
      · have hr : rr[i]? = some ((en x).map U.n) := by rw [← hrr, List.getElem?_map, hx]; rfl
        rw [List.getElem?_map] at hv'
        obtain ⟨n, hn, rfl⟩ := Option.map_eq_some_iff.1 hv'
        have hu : ((en x).map U.n)[j]? = some (.n n) := by rw [List.getElem?_map, hn]; rfl
        have := h5 i j _ _ hr hu
        rw [h4 i j _ _ hr hu, Rd.int_iff.1 this]
      · rintro w h' ⟨rfl, kb, r, hp, hs, hsl, l', hl', hsz'⟩
        have hlen := hp.length_eq
        have own' : Own D E k (some ⟨b, 0, none⟩) Lc (r.map fun x => (en x).map U.n) [(b, .cells l' E (0, 0))] := by
          refine .row b Lc l' _ (fun i j => match r[i]? with | some x => .int .i64 ((en x).getD j 0) | none => undef) (by rw [hsz']; exact h1) (by rw [← hrr] at h2; simp at h2 ⊢; omega) (fun q hq => by obtain ⟨x, -, rfl⟩ := List.mem_map.1 hq; simp [hk]) (fun i j q u hi hj => ?_) (fun i j q u hi hj => ?_)
          · rw [List.getElem?_map] at hi
            obtain ⟨x, hx, rfl⟩ := Option.map_eq_some_iff.1 hi
            rw [List.getElem?_map] at hj
            obtain ⟨n, hn, rfl⟩ := Option.map_eq_some_iff.1 hj
            obtain ⟨b', o', e, hcell⟩ := hsl.2.2 i x hx
            cases e
            have := hcell j (.int .i64 n) (by rw [List.getElem?_map, hn]; rfl)
            rw [hcell_of hl', Nat.zero_add] at this
            rw [this]
            simp only [hx, List.getD_eq_getElem?_getD, hn, Option.getD_some]
          · rw [List.getElem?_map] at hi
            obtain ⟨x, hx, rfl⟩ := Option.map_eq_some_iff.1 hi
            rw [List.getElem?_map] at hj
            obtain ⟨n, hn, rfl⟩ := Option.map_eq_some_iff.1 hj
            simp only [hx, List.getD_eq_getElem?_getD, hn, Option.getD_some]
            exact .int _ _
        have S' : St D ([(b, .cells l' E (0, 0))] :: C) h' := S.upd (by simpa using kb) (by simpa using hl') (by simp) (by simp)
        refine ⟨D, [], [[(b, .cells l' E (0, 0))]], .t [], _, .refl D, ⟨rfl, rfl, fun i L ab ch h1 h2 h3 => ?_, S'⟩, .t .nil, kk r hp hs⟩
        cases i with
        | zero =>
          simp at h1 h2 h3
          subst h1 h2 h3
          exact .w own' (by simp [hlen])
        | succ i => simp at h2
end Go.Proofs.YtljgfkiiikcaaaaGreat

/- What the functions do, written by program (psv.py) and held against the program by the kernel. -/
set_option linter.unusedVariables false
set_option maxRecDepth 100000
namespace Go.Proofs.YtljgfkiiikcaaaaGreat
open Go Go.Proofs
theorem mixT3 : Tryz.prog.follows .mixedOrders = true := by kernel_rfl
/- l15.awake -/
theorem S6 {Q : V → Mem → Prop} (hh : PRun Tryz.prog 16 [] [] (post [.agg [.i .i64, .l 7, .i .i64, .l 4, .i .i64, .i .i64, .i .i64, .i .i64]] [] (fun x1 l1 x2 l2 x3 x4 x5 x6 => (PRun Tryz.prog 7 [] [.a [.i x1, .l 7 l1, .i x2, .l 4 l2, .i x3, .i x4, .i x5, .i x6], .i 3, .i 1, .i 0, .l 2 []] (post [.agg [.l 2, .l 1, .l 2], .I] [] (fun l3 l4 l5 x7 => (PRun Tryz.prog 16 [] [] (post [.agg [.i .i64, .l 7, .i .i64, .l 4, .i .i64, .i .i64, .i .i64, .i .i64]] [] (fun x8 l6 x9 l7 x10 x11 x12 x13 => (PRun Tryz.prog 10 [] [.a [.i x8, .l 7 l6, .i x9, .l 4 l7, .i x10, .i x11, .i x12, .i x13], .i 3, .l 1 [[.n 1], [.n 1]], .i 0] (post [.I, .I] [] (fun x14 x15 => (PRun Tryz.prog 16 [] [] (post [.agg [.i .i64, .l 7, .i .i64, .l 4, .i .i64, .i .i64, .i .i64, .i .i64]] [] (fun x16 l8 x17 l9 x18 x19 x20 x21 => (PRun Tryz.prog 12 [] [.a [.i x16, .l 7 l8, .i x17, .l 4 l9, .i x18, .i x19, .i x20, .i x21], .l 1 [[.n 2], [.n 0]], .i 0] (post [.I, .I] [] (fun x22 x23 => ∀ k1 : Bool → Prop, (∀ b1 : Bool, (Q (.u (.b b1)) []) → k1 b1) → (dup2 (PRun Tryz.prog 9 [] [.a [.l 2 l3, .l 1 l4, .l 2 l5], .a [.l 2 [[.n 1, .n 3]], .l 1 [[.n 1], [.n 1]], .l 2 [[.n 2, .n 3]]]] (post [.B] [] (fun b2 => (bif b2 then (bif x7 == 0 then (bif x14 == 17 then (bif x15 == 0 then (bif x22 == 20 then (bif x23 == 0 then PRun Tryz.prog 16 [] [] (post [.agg [.i .i64, .l 7, .i .i64, .l 4, .i .i64, .i .i64, .i .i64, .i .i64]] [] (fun x24 l10 x25 l11 x26 x27 x28 x29 => (PRun Tryz.prog 14 [] [.a [.i x24, .l 7 l10, .i x25, .l 4 l11, .i x26, .i x27, .i x28, .i x29], .i 3, .i 1, .i 0, .l 2 l3, .l 1 l4] (post [.B] [] (fun b3 => (bif b3 then PRun Tryz.prog 16 [] [] (post [.agg [.i .i64, .l 7, .i .i64, .l 4, .i .i64, .i .i64, .i .i64, .i .i64]] [] (fun x30 l12 x31 l13 x32 x33 x34 x35 => (PRun Tryz.prog 14 [] [.a [.i x30, .l 7 l12, .i x31, .l 4 l13, .i x32, .i x33, .i x34, .i x35], .i 3, .i 2, .i 0, .l 2 l3, .l 1 l4] (post [.B] [] (fun b4 => (k1 (!b4) : Prop))) : Prop))) else k1 false : Prop))) : Prop))) else k1 false) else k1 false) else k1 false) else k1 false) else k1 false) else k1 false : Prop))))) ∧ dup2 (dup2 (PRun Tryz.prog 9 [] [.a [.l 2 l3, .l 1 l4, .l 2 l5], .a [.l 2 [[.n 1, .n 3]], .l 1 [[.n 1], [.n 1]], .l 2 [[.n 2, .n 3]]]] (post [.B] [] (fun b2 => (bif b2 then (bif x7 == 0 then (bif x14 == 17 then (bif x15 == 0 then (bif x22 == 20 then (bif x23 == 0 then PRun Tryz.prog 16 [] [] (post [.agg [.i .i64, .l 7, .i .i64, .l 4, .i .i64, .i .i64, .i .i64, .i .i64]] [] (fun x24 l10 x25 l11 x26 x27 x28 x29 => (PRun Tryz.prog 14 [] [.a [.i x24, .l 7 l10, .i x25, .l 4 l11, .i x26, .i x27, .i x28, .i x29], .i 3, .i 1, .i 0, .l 2 l3, .l 1 l4] (post [.B] [] (fun b3 => (bif b3 then PRun Tryz.prog 16 [] [] (post [.agg [.i .i64, .l 7, .i .i64, .l 4, .i .i64, .i .i64, .i .i64, .i .i64]] [] (fun x30 l12 x31 l13 x32 x33 x34 x35 => (PRun Tryz.prog 14 [] [.a [.i x30, .l 7 l12, .i x31, .l 4 l13, .i x32, .i x33, .i x34, .i x35], .i 3, .i 2, .i 0, .l 2 l3, .l 1 l4] (post [.B] [] (fun b4 => (k1 (!b4) : Prop))) : Prop))) else k1 false : Prop))) : Prop))) else k1 false) else k1 false) else k1 false) else k1 false) else k1 false) else k1 false : Prop))))))) : Prop))) : Prop))) : Prop))) : Prop))) : Prop)))) : PRun Tryz.prog 6 [] [] Q :=
  funS2 mixT3 Tryz.func6 (by kernel_rfl) (H := ⟨[], [((6, 0, 3), ⟨[(0, .B)], []⟩)], [], [], [], false, 64⟩) (n := 2) (by kernel_rfl) hh

/- r14.Few -/
theorem S5 {c_0 : Int} {c_1 : List (List U)} {c_2 : Int} {c_3 : List (List U)} {c_4 : Int} {c_5 : Int} {c_6 : Int} {c_7 : Int} {Q : V → Mem → Prop} (hh : ∃ (I1 : Int → Prop) (f1 : Int → Nat), I1 0 ∧ (∀ x1 : Int, I1 x1 → (bif decide (x1 < (List.length c_1 : Int)) then (bif decide (x1 < 20) then elL c_1 x1 (fun r1 => dL 2 (ug r1 3) (fun l1 => (bif decide ((List.length l1 : Int) > 12) then Q (.u (.b false)) [] else I1 (IntKind.wrap .i64 (x1 + 1)) ∧ f1 (IntKind.wrap .i64 (x1 + 1)) < f1 x1))) else (bif decide ((List.length c_1 : Int) ≤ 20) then Q (.u (.b (decide ((List.length c_3 : Int) ≤ 12)))) [] else Q (.u (.b false)) [])) else (bif decide ((List.length c_1 : Int) ≤ 20) then Q (.u (.b (decide ((List.length c_3 : Int) ≤ 12)))) [] else Q (.u (.b false)) [])))) : PRun Tryz.prog 5 [] [.a [.i c_0, .l 7 c_1, .i c_2, .l 4 c_3, .i c_4, .i c_5, .i c_6, .i c_7]] Q :=
  funS2 mixT3 Tryz.func5 (by kernel_rfl) (H := ⟨[((5, 2, 1), ⟨[(3, .I)], []⟩)], [], [], [], [], false, 64⟩) (n := 2) (by kernel_rfl) hh

end Go.Proofs.YtljgfkiiikcaaaaGreat

/- Products and parts: Scale; blueprints: may one be; what runs need, how many, how long: the code's and the reference's. -/
set_option linter.unusedVariables false
namespace Go.Proofs.YtljgfkiiikcaaaaGreat
open Go Go.Proofs Go.Shelf
variable {Q : V → Mem → Prop}

theorem call94 : Callable Tryz.prog 94 := ⟨_, Tryz.func94, by kernel_rfl, by kernel_rfl⟩
theorem mul64_S (x y : Nat) (hx : x < 18446744073709551616) (hy : y < 18446744073709551616)
    (k : Q (.t [.u (.i .u64 ((x * y / 18446744073709551616 : Nat) : Int)), .u (.i .u64 ((x * y % 18446744073709551616 : Nat) : Int))]) []) :
    PRun Tryz.prog 94 [] [.u (.i .u64 x), .u (.i .u64 y)] Q := by
  refine .keep fun D C h vs S F => ?_
  obtain ⟨v, w, rfl, h1, h2⟩ := F.two
  rw [Rd.int_iff.1 h1.u_inv, Rd.int_iff.1 h2.u_inv]
  refine ⟨call94, fun w hw => (Any.bits_Mul64 Tryz.lays264 x y hx hy w).mono ?_⟩
  rintro e w' ⟨rfl, rfl⟩
  exact ⟨_, rfl, ⟨hw ▸ .refl _ _, _, .t (.cons (.u (.int _ _)) (.cons (.u (.int _ _)) .nil)), k⟩, .refl _⟩
theorem scale_S {a b c : Nat} (ha : a ≤ 9223372036854775807) (hb : b ≤ 9223372036854775807) (hc : c ≤ 9223372036854775807) (h1 : 1 ≤ c)
    (hm : (a * b + c - 1) / c ≤ 9223372036854775807) (k : Q (.t [.i (((a * b + c - 1) / c : Nat) : Int), .i 0]) []) :
    PRun Tryz.prog 68 [] [.i (a : Int), .i (b : Int), .i (c : Int), .u (.b true)] Q := by
  refine S68 (cIf (fun h => by omega) fun _ => cIf (fun h => by omega) fun _ => cIf (fun h => by omega) fun _ => ?_)
  rw [u64_id (x := (a : Int)) (by omega) (by omega), u64_id (x := (b : Int)) (by omega) (by omega), u64_id (x := (c : Int)) (by omega) (by omega)]
  refine mul64_S a b (by omega) (by omega) ?_
  rw [post_UU]
  have hp := Nat.div_add_mod (a * b) 18446744073709551616
  generalize a * b = p at *
  have hpc : p < 9223372036854775808 * c := by
    have := (Nat.div_lt_iff_lt_mul (x := p + c - 1) (y := 9223372036854775808) (k := c) (by omega)).1 (by omega)
    omega
  refine cIf (fun hq => ?_) fun hq => ?_
  · have : c ≤ p / 18446744073709551616 := by omega
    have := Nat.mul_le_mul_left 18446744073709551616 this
    omega
  refine div64_S (by omega) (Nat.mod_lt _ (by omega)) (by omega) fun Q r hQ hr e => ?_
  rw [post_UU]
  have e2 : Q * c + r = p := by omega
  have hQ2 : Q ≤ 9223372036854775807 := by
    refine Nat.not_lt.1 fun hlt => ?_
    have := Nat.mul_le_mul_right c (show 9223372036854775808 ≤ Q by omega)
    omega
  have key : ∀ m : Nat, m = (if 0 < r then Q + 1 else Q) → (p + c - 1) / c = m := by
    intro m hm
    subst hm
    split
    · rw [Nat.div_eq_iff (by omega), Nat.add_mul]
      omega
    · rw [Nat.div_eq_iff (by omega)]
      omega
  rw [cond_true]
  refine cIf (fun hr0 => ?_) fun hr0 => ?_
  · have hk := key (Q + 1) (by rw [if_pos (by omega)])
    rw [hk] at hm k
    refine cIf (fun _ => ?_) fun h => by omega
    rw [u64_id (x := (Q : Int) + 1) (by omega) (by omega)]
    refine cIf (fun h => by omega) fun _ => ?_
    rw [w64 (by omega) (by omega)]
    exact k
  · have hk := key Q (by rw [if_neg (by omega)])
    rw [hk] at hm k
    refine cIf (fun h => by omega) fun _ => ?_
    rw [w64 (by omega) (by omega)]
    exact k
def upI (n by0 : Int) : Int := (n + by0 - 1) / by0
theorem up_S {n b : Int} (hn : 0 ≤ n) (hb : 1 ≤ b) (h1 : n + b ≤ 9223372036854775807) (k : Q (.i (upI n b)) []) : PRun Tryz.prog 60 [] [.i n, .i b] Q := by
  refine S60 ⟨by omega, ?_⟩
  have h2 : 0 ≤ (n + b - 1) / b := Int.ediv_nonneg (by omega) (by omega)
  have h3 : (n + b - 1) / b ≤ n + b - 1 := Int.ediv_le_self _ (by omega)
  rw [w64 (x := n + b) (by omega) (by omega), w64 (x := n + b - 1) (by omega) (by omega), Int.tdiv_eq_ediv_of_nonneg (by omega), w64 (by omega) (by omega)]
  exact k
/-- Scale by Int. -/
theorem scaleI_S {a b c : Int} (ha : 0 ≤ a ∧ a ≤ 9223372036854775807) (hb : 0 ≤ b ∧ b ≤ 9223372036854775807) (hc : 1 ≤ c ∧ c ≤ 9223372036854775807)
    (hm : upI (a * b) c ≤ 9223372036854775807) (k : Q (.t [.i (upI (a * b) c), .i 0]) []) :
    PRun Tryz.prog 68 [] [.i a, .i b, .i c, .u (.b true)] Q := by
  obtain ⟨x, rfl⟩ := Int.eq_ofNat_of_zero_le ha.1
  obtain ⟨y, rfl⟩ := Int.eq_ofNat_of_zero_le hb.1
  obtain ⟨z, rfl⟩ := Int.eq_ofNat_of_zero_le (show 0 ≤ c by omega)
  have e : upI ((x : Int) * y) z = (((x * y + z - 1) / z : Nat) : Int) := by
    unfold upI
    rw [← Int.natCast_mul]
    generalize x * y = p
    rw [Int.natCast_ediv, show ((p + z - 1 : Nat) : Int) = (p : Int) + z - 1 by omega]
  rw [e] at hm k
  exact scale_S (by omega) (by omega) (by omega) (by omega) (by omega) k

/- ## Blueprints -/
structure Bl where
  makes : Int
  per : Int
  time : Int
  needs : List Stk
  copy : Int
  study : Int
  most : Int
def eB (b : Bl) : List U := [.n b.makes, .n b.per, .n b.time, .l 2 (b.needs.map eS), .n b.copy, .n b.study, .n b.most]
abbrev aB (b : Bl) : V := .a [.i b.makes, .i b.per, .i b.time, .l 2 (b.needs.map eS), .i b.copy, .i b.study, .i b.most]
/-- What numbers of the machine's it holds, and not too many stacks. -/
structure Bl.Rg (b : Bl) : Prop where
  r : rng b.needs
  n : b.needs.length ≤ 1000
def boundsB (b : Bl) (types : Int) : List Bd := [(types, 0, 32), (b.makes, 1, types), (b.per, 1, 1048576), (b.time, 1, 1048576), (b.copy, 0, 1048576), (b.study, 0, 1048576), (b.most, 1, 1000)]
noncomputable def blueE (b : Bl) (types : Int) : Int := if inAll (boundsB b types) = true ∧ chkE b.needs types = 0 ∧ ¬ 0 < cntN b.needs b.makes then 0 else 1
theorem upI_100 {x : Int} : upI x 100 = (x + 99) / 100 := by unfold upI; rw [show x + 100 - 1 = x + 99 by omega]
structure BlueOK (b : Bl) (types : Int) : Prop where
  ty : 0 ≤ types ∧ types ≤ 32
  makes : 1 ≤ b.makes ∧ b.makes ≤ types
  per : 1 ≤ b.per ∧ b.per ≤ 1048576
  time : 1 ≤ b.time ∧ b.time ≤ 1048576
  copy : 0 ≤ b.copy ∧ b.copy ≤ 1048576
  study : 0 ≤ b.study ∧ b.study ≤ 1048576
  most : 1 ≤ b.most ∧ b.most ≤ 1000
  needs : CheckOK b.needs types
  self : ¬ 0 < cntN b.needs b.makes
theorem inAll_B {b : Bl} {types : Int} : inAll (boundsB b types) = true ↔ (0 ≤ types ∧ types ≤ 32) ∧ (1 ≤ b.makes ∧ b.makes ≤ types) ∧ (1 ≤ b.per ∧ b.per ≤ 1048576) ∧ (1 ≤ b.time ∧ b.time ≤ 1048576) ∧ (0 ≤ b.copy ∧ b.copy ≤ 1048576) ∧ (0 ≤ b.study ∧ b.study ≤ 1048576) ∧ 1 ≤ b.most ∧ b.most ≤ 1000 := by
  simp only [inAll, boundsB, List.all_cons, List.all_nil, Bool.and_true, Bool.and_eq_true, inn_iff]
theorem blueE_ok {b : Bl} {types : Int} : blueE b types = 0 ↔ BlueOK b types := by
  unfold blueE
  constructor
  · intro h
    split at h
    · rename_i hh
      obtain ⟨h1, h2, h3⟩ := hh
      obtain ⟨a1, a2, a3, a4, a5, a6, a7⟩ := inAll_B.1 h1
      exact ⟨a1, a2, a3, a4, a5, a6, a7, chkE_iff.1 h2, h3⟩
    · cases h
  · intro ⟨a1, a2, a3, a4, a5, a6, a7, h2, h3⟩
    rw [if_pos ⟨inAll_B.2 ⟨a1, a2, a3, a4, a5, a6, a7⟩, chkE_iff.2 h2, h3⟩]
theorem blueE_01 (b : Bl) (types : Int) : blueE b types = 0 ∨ blueE b types = 1 := by unfold blueE; split <;> simp
section
variable {b : Bl} {types : Int}
theorem pBlue_S (hb : b.Rg) (k : Q (.i (blueE b types)) []) : PRun Tryz.prog 92 [] [aB b, .i types] Q := by
  have bad : ¬ (inAll (boundsB b types) = true ∧ chkE b.needs types = 0 ∧ ¬ 0 < cntN b.needs b.makes) → Q (.i 1) [] := fun h => by unfold blueE at k; rwa [if_neg h] at k
  refine S92 (fits_S (L := boundsB b types) (by simp [boundsB]) ?_)
  rw [post_B]
  refine cNot (cB (fun h1 => pCheck_S (by have := hb.n; omega) ?_) fun h1 => bad (by simp [h1]))
  rw [post_I]
  refine cNe (fun h2 => bad (by simp [h2])) fun h2 => pCount_S hb.r hb.n ?_
  rw [post_I]
  refine cIf (fun h3 => bad fun h => h.2.2 h3) fun h3 => ?_
  unfold blueE at k; rwa [if_pos ⟨h1, h2, h3⟩] at k
theorem rBlue_S (hb : b.Rg) (k : Q (.i (blueE b types)) []) : PRun Tryz.prog 58 [] [aB b, .i types] Q := by
  have bad : ¬ BlueOK b types → Q (.i 1) [] := fun h => by rwa [(blueE_01 b types).resolve_left fun h0 => h (blueE_ok.1 h0)] at k
  refine S58 (in3_S ?_)
  rw [post_B]
  refine cNot (cB (fun a1 => in3_S ?_) fun h => bad fun o => by simp [inn, o.ty] at h)
  rw [post_B]
  refine cNot (cB (fun a2 => in3_S ?_) fun h => bad fun o => by simp [inn, o.makes] at h)
  rw [post_B]
  refine cNot (cB (fun a3 => in3_S ?_) fun h => bad fun o => by simp [inn, o.per] at h)
  rw [post_B]
  refine cNot (cB (fun a4 => in3_S ?_) fun h => bad fun o => by simp [inn, o.time] at h)
  rw [post_B]
  refine cNot (cB (fun a5 => in3_S ?_) fun h => bad fun o => by simp [inn, o.copy] at h)
  rw [post_B]
  refine cNot (cB (fun a6 => in3_S ?_) fun h => bad fun o => by simp [inn, o.study] at h)
  rw [post_B]
  refine cNot (cB (fun a7 => rCheck_S hb.r hb.n ?_) fun h => bad fun o => by simp [inn, o.most] at h)
  rw [post_I]
  refine cNe (fun h2 => bad fun o => h2 (chkE_iff.2 o.needs)) fun h2 => rCount_S hb.r hb.n ?_
  rw [post_I]
  refine cIf (fun h3 => bad fun o => o.self h3) fun h3 => ?_
  rwa [blueE_ok.2 ⟨inn_iff.1 a1, inn_iff.1 a2, inn_iff.1 a3, inn_iff.1 a4, inn_iff.1 a5, inn_iff.1 a6, inn_iff.1 a7, chkE_iff.1 h2, h3⟩] at k
theorem pMay_S {L : List Bd} (hb : b.Rg) (hL : L.length ≤ 1000) (k : Q (.u (.b (decide (blueE b 32 = 0) && inAll L))) []) : PRun Tryz.prog 67 [] [aB b, .l 3 (L.map eF)] Q := by
  refine S67 (pBlue_S hb ?_)
  rw [post_I]
  refine cEq (fun h => fits_S (by omega) ?_) fun h => ?_
  · rw [post_B]; rwa [decide_eq_true h, Bool.true_and] at k
  · rwa [decide_eq_false h, Bool.false_and] at k

/- ## Needs, runs, time -/
def needQ (q runs level : Int) : Int := max runs (upI (q * (runs * (100 - level))) 100)
def needOver (l : List Stk) (runs level : Int) : Bool := l.any fun s => decide (MaxQ < needQ s.2 runs level)
def needL (l : List Stk) (runs level : Int) : List Stk := l.map fun s => (s.1, needQ s.2 runs level)
noncomputable def needsR (b : Bl) (level runs : Int) : List Stk × Int :=
  if (blueE b 32 = 0 ∧ inn level 0 10 = true) ∧ inn runs 1 1000 = true then (if needOver b.needs runs level = true then ([], 5) else (needL b.needs runs level, 0)) else ([], 1)
noncomputable def runsR (b : Bl) (n : Int) : Int × Int := if blueE b 32 = 0 ∧ inn n 0 1125899906842624 = true then (upI n b.per, 0) else (0, 1)
noncomputable def timeR (b : Bl) (level runs : Int) : Int × Int :=
  if (blueE b 32 = 0 ∧ inn level 0 10 = true) ∧ inn runs 1 1000 = true then (upI (b.time * runs * (100 - 2 * level)) 100, 0) else (0, 1)
abbrev vSE (r : List Stk × Int) : V := .t [.l 2 (r.1.map eS), .i r.2]
abbrev vII (r : Int × Int) : V := .t [.i r.1, .i r.2]
theorem need_bd {q runs level : Int} (hq : 1 ≤ q ∧ q ≤ MaxQ) (hr : 1 ≤ runs ∧ runs ≤ 1000) (hl : 0 ≤ level ∧ level ≤ 10) :
    0 ≤ runs * (100 - level) ∧ runs * (100 - level) ≤ 100000 ∧ 0 ≤ q * (runs * (100 - level)) ∧ q * (runs * (100 - level)) ≤ 112589990684262400000 := by
  have h1 := Int.mul_le_mul hr.2 (show 100 - level ≤ 100 by omega) (by omega) (by omega)
  have h2 := Int.mul_nonneg (show 0 ≤ runs by omega) (show 0 ≤ 100 - level by omega)
  have h3 := Int.mul_nonneg (show 0 ≤ q by omega) h2
  have h4 := Int.mul_le_mul hq.2 h1 h2 (by unfold MaxQ; omega)
  unfold MaxQ at h4
  exact ⟨h2, by omega, h3, by omega⟩
theorem upI_bd {n b : Int} (hn : 0 ≤ n) (hb : 1 ≤ b) : 0 ≤ upI n b ∧ upI n b ≤ n := by
  unfold upI
  refine ⟨Int.ediv_nonneg (by omega) (by omega), ?_⟩
  refine Int.lt_add_one_iff.1 (Int.ediv_lt_of_lt_mul (by omega) ?_)
  have := Int.mul_le_mul_of_nonneg_left hb hn
  rw [Int.mul_one] at this
  rw [Int.add_mul, Int.one_mul]
  omega
theorem time_bd {t runs level : Int} (ht : 1 ≤ t ∧ t ≤ 1048576) (hr : 1 ≤ runs ∧ runs ≤ 1000) (hl : 0 ≤ level ∧ level ≤ 10) :
    0 ≤ t * runs ∧ t * runs ≤ 1048576000 ∧ 0 ≤ t * runs * (100 - 2 * level) ∧ t * runs * (100 - 2 * level) ≤ 104857600000 := by
  have h1 := Int.mul_nonneg (show 0 ≤ t by omega) (show 0 ≤ runs by omega)
  have h2 := Int.mul_le_mul ht.2 hr.2 (by omega) (by omega)
  have h3 := Int.mul_nonneg h1 (show 0 ≤ 100 - 2 * level by omega)
  have h4 := Int.mul_le_mul h2 (show 100 - 2 * level ≤ 100 by omega) (by omega) (by omega)
  exact ⟨h1, by omega, h3, by omega⟩
theorem needOver_false {l : List Stk} {runs level : Int} (h : ∀ s ∈ l, ¬ MaxQ < needQ s.2 runs level) : needOver l runs level = false := by
  unfold needOver
  rw [List.any_eq_false]
  intro x hx
  simpa using h x hx
theorem pNeeds_S {level runs : Int} (hb : b.Rg) (k : Q (vSE (needsR b level runs)) []) : PRun Tryz.prog 42 [] [aB b, .i level, .i runs] Q := by
  refine S42 (pMay_S (L := [(level, 0, 10), (runs, 1, 1000)]) hb (by simp) ?_)
  rw [post_B]
  refine cNot (cB (fun h1 => ?_) fun h1 => ?_)
  rotate_left
  · unfold needsR at k; rwa [if_neg] at k; rintro ⟨⟨a1, a2⟩, a3⟩; simp [inAll, a1, a2, a3] at h1
  simp only [inAll, List.all_cons, List.all_nil, Bool.and_true, Bool.and_eq_true, decide_eq_true_eq] at h1
  obtain ⟨b1, b2, b3⟩ := h1
  unfold needsR at k
  rw [if_pos ⟨⟨b1, b2⟩, b3⟩] at k
  have ok := (blueE_ok.1 b1).needs
  rw [inn_iff] at b2 b3
  refine ⟨fun l x => AtI b.needs (fun t _ => l = (needL t runs level).map eS ∧ ∀ s ∈ t, ¬ MaxQ < needQ s.2 runs level) x, fun _ => SufM b.needs, .zero (by have := hb.n; omega) ⟨rfl, by simp⟩, ?_⟩
  rintro _ x ⟨t, _ | ⟨s, l⟩, w, rfl, hne⟩
  · rw [w.all] at hne ⊢
    rw [w.d0]
    rwa [needOver_false hne] at k
  · have hmem : s ∈ b.needs := by rw [w.e]; simp
    have hs := ok.el s hmem
    have hlt := congrArg List.length w.e
    have hn := hb.n
    simp at hlt
    simp only [w.d1, w.el, eS, ug0, ugs, dI_n, cond_true]
    obtain ⟨d0, d1, d2, d3⟩ := need_bd (q := s.2) ⟨hs.2.2.1, hs.2.2.2⟩ b3 b2
    have hq := hs.2.2
    unfold MaxQ at hq
    rw [w64 (x := 100 - level) (by omega) (by omega), w64 (x := runs * (100 - level)) (by omega) (by omega)]
    refine scaleI_S (by omega) (by omega) (by omega) (by rw [upI_100]; omega) ?_
    rw [post_II]
    refine cNe (fun h => absurd rfl h) fun _ => ?_
    have em : (if runs > upI (s.2 * (runs * (100 - level))) 100 then runs else upI (s.2 * (runs * (100 - level))) 100) = needQ s.2 runs level := by unfold needQ; split <;> omega
    simp only [em]
    refine cIf (fun ho => ?_) fun ho => ?_
    · have hov : needOver b.needs runs level = true := List.any_eq_true.2 ⟨s, hmem, decide_eq_true (by unfold MaxQ; exact ho)⟩
      rwa [if_pos hov] at k
    · refine ⟨apOk_l (by simp [needL]; omega), w.step ⟨by simp [needL, eS], fun u hu => ?_⟩⟩
      rcases List.mem_append.1 hu with hu | hu
      · exact hne u hu
      · simp at hu; subst hu; exact ho
theorem rNeeds_S {level runs : Int} (hb : b.Rg) (k : Q (vSE (needsR b level runs)) []) : PRun Tryz.prog 31 [] [aB b, .i level, .i runs] Q := by
  have bad : ¬ ((blueE b 32 = 0 ∧ inn level 0 10 = true) ∧ inn runs 1 1000 = true) → Q (.t [.l 2 [], .i 1]) [] := fun h => by unfold needsR at k; rwa [if_neg h] at k
  refine S31 (rBlue_S hb ?_)
  rw [post_I]
  refine cNe (fun h1 => bad fun h => h1 h.1.1) fun b1 => in3_S ?_
  rw [post_B]
  refine cNot (cB (fun b2 => in3_S ?_) fun hf => bad fun h => by rw [h.1.2] at hf; cases hf)
  rw [post_B]
  refine cNot (cB (fun b3 => ?_) fun hf => bad fun h => by rw [h.2] at hf; cases hf)
  unfold needsR at k
  rw [if_pos ⟨⟨b1, b2⟩, b3⟩] at k
  have ok := (blueE_ok.1 b1).needs
  rw [inn_iff] at b2 b3
  refine ⟨fun l x => AtI b.needs (fun t _ => l = (needL t runs level).map eS ∧ ∀ s ∈ t, ¬ MaxQ < needQ s.2 runs level) x, fun _ => SufM b.needs, .zero (by have := hb.n; omega) ⟨rfl, by simp⟩, ?_⟩
  rintro _ x ⟨t, _ | ⟨s, l⟩, w, rfl, hne⟩
  · rw [w.all] at hne ⊢
    rw [w.d0]
    rwa [needOver_false hne] at k
  · have hmem : s ∈ b.needs := by rw [w.e]; simp
    have hs := ok.el s hmem
    have hlt := congrArg List.length w.e
    have hn := hb.n
    simp at hlt
    simp only [w.d1, w.el, eS, ug0, ugs, dI_n, cond_true]
    obtain ⟨d0, d1, d2, d3⟩ := need_bd (q := s.2) ⟨hs.2.2.1, hs.2.2.2⟩ b3 b2
    have hq := hs.2.2
    unfold MaxQ at hq
    have f0 : 0 ≤ s.2 * runs := Int.mul_nonneg (by omega) (by omega)
    have f1 : s.2 * runs ≤ 1125899906842624 * 1000 := Int.mul_le_mul hq.2 b3.2 (by omega) (by omega)
    have f2 : s.2 * (runs * (100 - level)) = 100 * (s.2 * runs / 100 * (100 - level)) + s.2 * runs % 100 * (100 - level) := by
      rw [← Int.mul_assoc]
      conv => lhs; rw [← Int.mul_ediv_add_emod (s.2 * runs) 100]
      rw [Int.add_mul, Int.mul_assoc]
    have g0 : 0 ≤ s.2 * runs / 100 := by omega
    have g1 := Int.emod_nonneg (s.2 * runs) (show (100 : Int) ≠ 0 by decide)
    have g2 := Int.emod_lt_of_pos (s.2 * runs) (show (0 : Int) < 100 by decide)
    have i0 := Int.mul_nonneg g0 (show 0 ≤ 100 - level by omega)
    have i1 := Int.mul_nonneg g1 (show 0 ≤ 100 - level by omega)
    have i2 := Int.mul_le_mul (Int.le_of_lt g2) (show 100 - level ≤ 100 by omega) (by omega) (by omega)
    rw [w64 (x := s.2 * runs) (by omega) (by omega), w64 (x := 100 - level) (by omega) (by omega), Int.tdiv_eq_ediv_of_nonneg f0, Int.tmod_eq_emod_of_nonneg f0]
    rw [w64 (x := s.2 * runs / 100) (by omega) (by omega)]
    rw [w64 (x := s.2 * runs % 100 * (100 - level)) (by omega) (by omega), w64 (x := s.2 * runs / 100 * (100 - level)) (by omega) (by omega)]
    refine ⟨by decide, by decide, up_S i1 (by omega) (by omega) ?_⟩
    rw [post_I]
    have j0 : 0 ≤ upI (s.2 * runs % 100 * (100 - level)) 100 ∧ upI (s.2 * runs % 100 * (100 - level)) 100 ≤ 101 := by rw [upI_100]; omega
    rw [w64 (x := s.2 * runs / 100 * (100 - level) + upI (s.2 * runs % 100 * (100 - level)) 100) (by omega) (by omega)]
    have em : (if s.2 * runs / 100 * (100 - level) + upI (s.2 * runs % 100 * (100 - level)) 100 > runs then s.2 * runs / 100 * (100 - level) + upI (s.2 * runs % 100 * (100 - level)) 100 else runs) = needQ s.2 runs level := by
      unfold needQ
      rw [upI_100, upI_100, f2]
      split <;> omega
    simp only [em]
    refine cIf (fun ho => ?_) fun ho => ?_
    · have hov : needOver b.needs runs level = true := List.any_eq_true.2 ⟨s, hmem, decide_eq_true (by unfold MaxQ; exact ho)⟩
      rwa [if_pos hov] at k
    · refine ⟨apOk_l (by simp [needL]; omega), w.step ⟨by simp [needL, eS], fun u hu => ?_⟩⟩
      rcases List.mem_append.1 hu with hu | hu
      · exact hne u hu
      · simp at hu; subst hu; exact ho
theorem pRuns_S {n : Int} (hb : b.Rg) (k : Q (vII (runsR b n)) []) : PRun Tryz.prog 50 [] [aB b, .i n] Q := by
  refine S50 (pMay_S (L := [(n, 0, 1125899906842624)]) hb (by simp) ?_)
  rw [post_B]
  refine cNot (cB (fun h1 => ?_) fun h1 => ?_)
  rotate_left
  · unfold runsR at k; rwa [if_neg] at k; rintro ⟨a1, a2⟩; simp [inAll, a1, a2] at h1
  simp only [inAll, List.all_cons, List.all_nil, Bool.and_true, Bool.and_eq_true, decide_eq_true_eq] at h1
  unfold runsR at k
  rw [if_pos h1] at k
  obtain ⟨b1, b2⟩ := h1
  have ok := (blueE_ok.1 b1).per
  rw [inn_iff] at b2
  have hb := upI_bd b2.1 ok.1
  refine scaleI_S (by omega) (by omega) (by omega) (by rw [Int.mul_one]; omega) ?_
  rw [Int.mul_one, post_II]
  exact k
theorem rRuns_S {n : Int} (hb : b.Rg) (k : Q (vII (runsR b n)) []) : PRun Tryz.prog 30 [] [aB b, .i n] Q := by
  have bad : ¬ (blueE b 32 = 0 ∧ inn n 0 1125899906842624 = true) → Q (.t [.i 0, .i 1]) [] := fun h => by unfold runsR at k; rwa [if_neg h] at k
  refine S30 (rBlue_S hb ?_)
  rw [post_I]
  refine cNe (fun h1 => bad fun h => h1 h.1) fun b1 => in3_S ?_
  rw [post_B]
  refine cNot (cB (fun b2 => ?_) fun hf => bad fun h => by rw [h.2] at hf; cases hf)
  unfold runsR at k
  rw [if_pos ⟨b1, b2⟩] at k
  have ok := (blueE_ok.1 b1).per
  rw [inn_iff] at b2
  exact up_S (by omega) (by omega) (by omega) k
theorem pTime_S {level runs : Int} (hb : b.Rg) (k : Q (vII (timeR b level runs)) []) : PRun Tryz.prog 61 [] [aB b, .i level, .i runs] Q := by
  refine S61 (pMay_S (L := [(level, 0, 10), (runs, 1, 1000)]) hb (by simp) ?_)
  rw [post_B]
  refine cNot (cB (fun h1 => ?_) fun h1 => ?_)
  rotate_left
  · unfold timeR at k; rwa [if_neg] at k; rintro ⟨⟨a1, a2⟩, a3⟩; simp [inAll, a1, a2, a3] at h1
  simp only [inAll, List.all_cons, List.all_nil, Bool.and_true, Bool.and_eq_true, decide_eq_true_eq] at h1
  obtain ⟨b1, b2, b3⟩ := h1
  unfold timeR at k
  rw [if_pos ⟨⟨b1, b2⟩, b3⟩] at k
  have ok := (blueE_ok.1 b1).time
  rw [inn_iff] at b2 b3
  obtain ⟨t0, t1, t2, t3⟩ := time_bd ok b3 b2
  rw [w64 (x := b.time * runs) (by omega) (by omega), w64 (x := 2 * level) (by omega) (by omega), w64 (x := 100 - 2 * level) (by omega) (by omega)]
  refine scaleI_S (by omega) (by omega) (by omega) (by rw [upI_100]; omega) ?_
  rw [post_II]
  exact k
theorem rTime_S {level runs : Int} (hb : b.Rg) (k : Q (vII (timeR b level runs)) []) : PRun Tryz.prog 40 [] [aB b, .i level, .i runs] Q := by
  have bad : ¬ ((blueE b 32 = 0 ∧ inn level 0 10 = true) ∧ inn runs 1 1000 = true) → Q (.t [.i 0, .i 1]) [] := fun h => by unfold timeR at k; rwa [if_neg h] at k
  refine S40 (rBlue_S hb ?_)
  rw [post_I]
  refine cNe (fun h1 => bad fun h => h1 h.1.1) fun b1 => in3_S ?_
  rw [post_B]
  refine cNot (cB (fun b2 => in3_S ?_) fun hf => bad fun h => by rw [h.1.2] at hf; cases hf)
  rw [post_B]
  refine cNot (cB (fun b3 => ?_) fun hf => bad fun h => by rw [h.2] at hf; cases hf)
  unfold timeR at k
  rw [if_pos ⟨⟨b1, b2⟩, b3⟩] at k
  have ok := (blueE_ok.1 b1).time
  rw [inn_iff] at b2 b3
  obtain ⟨t0, t1, t2, t3⟩ := time_bd ok b3 b2
  rw [w64 (x := b.time * runs) (by omega) (by omega), w64 (x := 2 * level) (by omega) (by omega), w64 (x := 100 - 2 * level) (by omega) (by omega), w64 (x := b.time * runs * (100 - 2 * level)) (by omega) (by omega)]
  exact up_S t2 (by omega) (by omega) k
end
end Go.Proofs.YtljgfkiiikcaaaaGreat

/- Nodes in order: the code's and the document's. -/
set_option linter.unusedVariables false
namespace Go.Proofs.YtljgfkiiikcaaaaGreat
open Go Go.Proofs
variable {Q : V → Mem → Prop}

open Classical in
/-- The nodes in order, as far as that goes. -/
noncomputable def ordG (n : Int) (L : List Stk) : List Int := if h : ∃ out, Greedy L n out ∧ ∀ k, ¬ Nx1 L n out k then h.choose else []
theorem ordG_eq {n : Int} {L : List Stk} {out : List Int} (hG : Greedy L n out) (hN : ∀ k, ¬ Nx1 L n out k) : ordG n L = out := by
  have h : ∃ out, Greedy L n out ∧ ∀ k, ¬ Nx1 L n out k := ⟨out, hG, hN⟩
  unfold ordG
  rw [dif_pos h]
  obtain ⟨g2, n2⟩ := h.choose_spec
  exact g2.same hG (Nat.le_antisymm (hG.max hN g2) (g2.max n2 hG))
open Classical in
noncomputable def orderR (n : Int) (L : List Stk) : List Int × Int := if gOK n L then (if ((ordG n L).length : Int) < n then ([], 9) else (ordG n L, 0)) else ([], 1)
abbrev vIE (r : List Int × Int) : V := .t [.l 1 (r.1.map eI), .i r.2]
theorem pOrder_S {n : Int} {L : List Stk} (k : Q (vIE (orderR n L)) []) : PRun Tryz.prog 19 [] [.i n, .l 2 (L.map eS)] Q := by
  refine S19 (ordered_S (fun hg => ?_) (fun hg out G N hl => ?_) fun hg out O G N hl => ?_)
  all_goals
    rw [post_PLI]
    unfold orderR at k
  · rwa [if_neg hg] at k
  · rwa [if_pos hg, ordG_eq G N, if_pos hl] at k
  · rwa [if_pos hg, ordG_eq G N, if_neg hl] at k
open Classical in
theorem rMay_S {n : Int} {L : List Stk} (hL : L.length ≤ 1000000) (k : Q (.u (.b (decide (gOK n L)))) []) : PRun Tryz.prog 89 [] [.i n, .l 2 (L.map eS)] Q := by
  have bad : ¬ gOK n L → Q (.u (.b false)) [] := fun h => by rwa [decide_eq_false h] at k
  refine S89 (cIf (fun h => bad fun g => by have := g.n0; omega) fun h1 => cIf (fun h => bad fun g => by have := g.n64; omega) fun h2 => cIf (fun h => bad fun g => by have := g.len; simp at h; omega) fun h3 => ?_)
  simp only [List.length_map] at h3
  refine ⟨AtI L fun t _ => ∀ p ∈ t, inn p.1 1 n = true ∧ inn p.2 1 n = true, SufM L, .zero (by omega) (by simp), ?_⟩
  rintro x ⟨t, _ | ⟨a, l⟩, s, ht⟩
  · rw [s.all] at ht
    rw [s.d0]
    rwa [decide_eq_true ⟨by omega, by omega, by omega, ht⟩] at k
  · have ha : a ∈ L := by rw [s.e]; simp
    have hb : ¬ (inn a.1 1 n = true ∧ inn a.2 1 n = true) → Q (.u (.b false)) [] := fun h => bad fun g => h (g.ok a ha)
    simp only [inn_iff] at hb
    simp only [s.d1, s.el, eS, ug0, ugs, dI_n, cond_true]
    refine cIf (fun h => hb (by omega)) fun h1 => cIf (fun h => hb (by omega)) fun h2 => cIf (fun h => hb (by omega)) fun h3 => cIf (fun h => hb (by omega)) fun h4 => s.step fun p hp => ?_
    rcases List.mem_append.1 hp with hp | hp
    · exact ht p hp
    · simp at hp; subst hp; exact ⟨inn_iff.2 (by omega), inn_iff.2 (by omega)⟩
theorem rIn_S {n : Int} {l : List Int} (hl : l.length ≤ 1000000) (k : Q (.u (.b (decide (n ∈ l)))) [.w 3 1 (l.map eI)]) : PRun Tryz.prog 90 [.w 3 1 (l.map eI)] [.w 0, .i n] Q := by
  refine S90w ⟨AtI l fun t _ => n ∉ t, SufM l, .zero (by omega) (by simp), ?_⟩
  rintro x ⟨t, _ | ⟨a, l'⟩, s, ht⟩
  · rw [s.all] at ht
    rw [s.d0]
    rwa [decide_eq_false ht] at k
  · have hlt := s.suf.lt
    rw [s.d1, cond_true]
    refine ⟨hlt.1, by rw [List.length_map]; exact hlt.2, ?_⟩
    simp only [s.el, eI, ug0, dI_n]
    refine cEq (fun h => ?_) fun h => s.step (by simp; exact ⟨ht, fun e => h e.symm⟩)
    rwa [decide_eq_true (show n ∈ l by rw [s.e, ← h]; simp)] at k
theorem rOrder_S {n : Int} {L : List Stk} (hL : L.length ≤ 1000000) (k : Q (vIE (orderR n L)) []) : PRun Tryz.prog 56 [] [.i n, .l 2 (L.map eS)] Q := by
  classical
  refine S56 (rMay_S hL ?_)
  rw [post_B]
  unfold orderR at k
  refine cNot (cIf (fun hg => ?_) fun hg => by rwa [if_neg hg] at k)
  rw [if_pos hg] at k
  obtain ⟨g0, g1, g2, g3⟩ := hg
  refine ⟨fun l => ∃ out : List Int, l = out.map eI ∧ Greedy L n out, fun l => 65 - l.length, ⟨[], rfl, .nil⟩, ?_⟩
  rintro _ ⟨out, rfl, hG⟩
  have hol := nodup_len hG.nodup hG.mem g0
  rw [List.length_map]
  refine cIf (fun hlt => ?_) fun hge => ?_
  rotate_left
  · have hN : ∀ k, ¬ Nx1 L n out k := fun k hk => by
      have h1 : Greedy L n out := hG
      have h2 : (out ++ [k]).Nodup := List.nodup_append.2 ⟨hG.nodup, by simp, fun a ha b hb e => by simp at hb; subst hb; subst e; exact hk.2.2.1 ha⟩
      have := nodup_len h2 (fun x hx => by
        rcases List.mem_append.1 hx with hx | hx
        · exact hG.mem x hx
        · simp at hx; subst hx; exact ⟨hk.1, hk.2.1⟩) g0
      simp at this
      omega
    rwa [ordG_eq hG hN, if_neg hge] at k
  refine ⟨fun y j => 0 ≤ j ∧ j ≤ n ∧ (∀ i, j < i → Nx1 L n out i → y ≠ 0 ∧ y ≤ i) ∧ (y = 0 ∨ Nx1 L n out y), fun _ j => j.toNat, ⟨g0, Int.le_refl _, fun i h1 h2 => by have := h2.2.1; omega, .inl rfl⟩, ?_⟩
  rintro y j ⟨hj0, hj1, hy1, hy2⟩
  refine cIf (fun hj => ?_) fun hj => ?_
  · refine rIn_S (by omega) ?_
    rw [post_Brow]
    refine ⟨rfl, ⟨fun b x => AtI L (fun t _ => b = decide (j ∉ out ∧ ∀ p ∈ t, p.1 = j → p.2 ∈ out)) x, fun _ => SufM L, .zero (by omega) (by simp), ?_⟩⟩
    rintro b x ⟨t, _ | ⟨a, l⟩, s, rfl⟩
    · rw [s.all, s.d0, w64 (x := j - 1) (by omega) (by omega)]
      have hme : (j - 1).toNat < j.toNat := by omega
      rw [cond_false]
      have hnx : (j ∉ out ∧ ∀ p ∈ L, p.1 = j → p.2 ∈ out) ↔ Nx1 L n out j := ⟨fun h => ⟨hj, hj1, h.1, h.2⟩, fun h => h.2.2⟩
      refine cIf (fun h => ?_) fun h => ?_
      · rw [hnx] at h
        refine ⟨⟨by omega, by omega, fun i h1 h2 => ?_, .inr h⟩, hme⟩
        omega
      · rw [hnx] at h
        refine ⟨⟨by omega, by omega, fun i h1 h2 => ?_, hy2⟩, hme⟩
        by_cases hij : i = j
        · subst hij; exact absurd h2 h
        · exact hy1 i (by omega) h2
    · simp only [s.d1, s.el, eS, ug0, ugs, dI_n, cond_true]
      refine cIf (fun hb => ?_) fun hb => ?_
      · refine cNe (fun h => s.step ?_) fun h => ?_
        · refine (decide_eq_true ⟨hb.1, fun p hp e => ?_⟩).symm
          rcases List.mem_append.1 hp with hp | hp
          · exact hb.2 p hp e
          · simp at hp; subst hp; exact absurd e h
        · refine rIn_S (by omega) ?_
          rw [post_Brow]
          refine ⟨rfl, s.step ?_⟩
          rw [decide_eq_decide]
          constructor
          · intro hm
            refine ⟨hb.1, fun p hp e => ?_⟩
            rcases List.mem_append.1 hp with hp | hp
            · exact hb.2 p hp e
            · simp at hp; subst hp; exact hm
          · intro hm
            exact hm.2 a (by simp) h
      · refine s.step ?_
        symm
        rw [decide_eq_false_iff_not]
        exact fun hm => hb ⟨hm.1, fun p hp => hm.2 p (by simp [hp])⟩
  · have hj : j = 0 := by omega
    subst hj
    refine cEq (fun h => ?_) fun h => ?_
    · subst h
      have hN : ∀ k, ¬ Nx1 L n out k := fun i hi => (hy1 i (by have := hi.1; omega) hi).1 rfl
      rwa [ordG_eq hG hN, if_pos hlt] at k
    · have hy := hy2.resolve_left h
      refine ⟨apOk_l (by simp; omega), ⟨out ++ [y], by simp [eI], .snoc hG hy fun i hi => (hy1 i (by have := hi.1; omega) hi).2⟩, by simp; omega⟩
end Go.Proofs.YtljgfkiiikcaaaaGreat
