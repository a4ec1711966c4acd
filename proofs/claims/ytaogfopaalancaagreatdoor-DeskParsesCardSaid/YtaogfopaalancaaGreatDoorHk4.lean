/- The row of DeskParses: whatever it is given it returns true, and what it was given reads as it did. -/
import Derived.Test.YtaogfopaalancaaGreatDoorHk3
import Derived.Test.YtaogfopaalancaaGreatDoorProg
import Derived.Test.YtaogfopaalancaaGreatDoorRows
import Derived.ProofKit
import Derived.Deep.SlicePairs
import Derived.Shelf.Strings.Cut
import Derived.Shelf.Strings.SplitShaped
import Derived.Shelf.Strings.OnBuilder
import Derived.Shelf.Strconv.Itoa4
import Derived.Shelf.Strconv.ParseIntPublic10
import Derived.Test.YtaogfopaalancaaGreatDoorChecked
import Derived.Lib.SmallJoins
import Derived.Lib.Fields
import Derived.Lib.ItoaLen
import Derived.Test.YtaogfopaalancaaGreatDoorTie
import Derived.Test.YtaogfopaalancaaGreatDoorCards
import Derived.Lib.LaidU8
import Derived.Stop.LaidErr
import Derived.Stop.Joined
import Derived.LaidMore
import Derived.Lay
import Derived.SevenTiedAt
/- What the functions do, written by program (psv.py) and held against the program by the kernel. -/
set_option linter.unusedVariables false
set_option maxRecDepth 100000
namespace Go.Proofs.YtaogfopaalancaaGreatDoor
open Go Go.Proofs
theorem mixTd1 : Tryz.prog.follows .mixedOrders = true := by kernel_rfl
theorem S21 {l : List (List U)} {s : ByteArray} {Q : V → Mem → Prop} (hh : ∃ (I1 : Int → Prop) (f1 : Int → Nat), I1 0 ∧ (∀ x1 : Int, I1 x1 → (bif decide (x1 < (List.length l : Int)) then elL l x1 (fun r1 => dS (ug r1 0) (fun s1 => (bif ByteArray.toList s1 == ByteArray.toList s then Q (.u (.b true)) [] else I1 (IntKind.wrap .i64 (x1 + 1)) ∧ f1 (IntKind.wrap .i64 (x1 + 1)) < f1 x1))) else Q (.u (.b false)) []))) : PRun Tryz.prog 21 [] [.l 1 l, .u (.s s)] Q :=
 funS2 mixTd1 Tryz.func21 (by kernel_rfl) (H := ⟨[((21, 2, 0), ⟨[(5, .I)], []⟩)], [], [], [], [], false, 64, KN.no, false, SP.no⟩) (n := 2) (by kernel_rfl) hh
theorem S20 {s : ByteArray} {by0 : Int} {Q : V → Mem → Prop} (hh : ∃ (I1 : Int → Prop) (f1 : Int → Nat), I1 0 ∧ (∀ x1 : Int, I1 x1 → (bif decide (x1 < (ByteArray.size s : Int)) then 0 ≤ x1 ∧ x1 < (ByteArray.size s : Int) ∧ (bif (UInt8.toNat (Array.getD s.data (Int.toNat x1) 0) : Int) == by0 then (0 : Int) ≤ x1 ∧ x1 ≤ (ByteArray.size s : Int) ∧ (0 ≤ IntKind.wrap .i64 (x1 + 1) ∧ (IntKind.wrap .i64 (x1 + 1) ≤ (ByteArray.size s : Int) ∧ (ByteArray.size s : Int) ≤ (ByteArray.size s : Int) ∧ (Q (.t [.u (.s (ByteArray.extract s 0 (Int.toNat x1))), .u (.s (ByteArray.extract s (Int.toNat (IntKind.wrap .i64 (x1 + 1))) (Int.toNat (ByteArray.size s : Int)))), .u (.b true)]) []))) else I1 (IntKind.wrap .i64 (x1 + 1)) ∧ f1 (IntKind.wrap .i64 (x1 + 1)) < f1 x1) else Q (.t [.u (.s s), .u (.s (ByteArray.mk #[])), .u (.b false)]) []))) : PRun Tryz.prog 20 [] [.u (.s s), .u (.i .u8 by0)] Q :=
 funS2 mixTd1 Tryz.func20 (by kernel_rfl) (H := ⟨[((20, 2, 0), ⟨[(7, .I)], []⟩)], [], [], [], [], false, 64, KN.no, false, SP.no⟩) (n := 2) (by kernel_rfl) hh
theorem S28 {s : ByteArray} {by0 : Int} {Q : V → Mem → Prop} (hh : ∃ (I1 : List (List U) → ByteArray → Int → Prop) (f1 : List (List U) → ByteArray → Int → Nat), I1 [] (ByteArray.mk #[]) 0 ∧ (∀ l1 : List (List U), ∀ s1 : ByteArray, ∀ x1 : Int, I1 l1 s1 x1 → (bif decide (x1 < (ByteArray.size s : Int)) then 0 ≤ x1 ∧ x1 < (ByteArray.size s : Int) ∧ (bif (UInt8.toNat (Array.getD s.data (Int.toNat x1) 0) : Int) == by0 then apOk l1 [[.s s1]] ∧ (I1 (l1 ++ [[.s s1]]) (ByteArray.mk #[]) (IntKind.wrap .i64 (x1 + 1)) ∧ f1 (l1 ++ [[.s s1]]) (ByteArray.mk #[]) (IntKind.wrap .i64 (x1 + 1)) < f1 l1 s1 x1) else 0 ≤ x1 ∧ (x1 ≤ IntKind.wrap .i64 (x1 + 1) ∧ IntKind.wrap .i64 (x1 + 1) ≤ (ByteArray.size s : Int) ∧ (ByteArray.size s1 + ByteArray.size (ByteArray.extract s (Int.toNat x1) (Int.toNat (IntKind.wrap .i64 (x1 + 1)))) < 9223372036854775808 ∧ (I1 l1 (s1 ++ ByteArray.extract s (Int.toNat x1) (Int.toNat (IntKind.wrap .i64 (x1 + 1)))) (IntKind.wrap .i64 (x1 + 1)) ∧ f1 l1 (s1 ++ ByteArray.extract s (Int.toNat x1) (Int.toNat (IntKind.wrap .i64 (x1 + 1)))) (IntKind.wrap .i64 (x1 + 1)) < f1 l1 s1 x1)))) else apOk l1 [[.s s1]] ∧ (Q (.l 1 (l1 ++ [[.s s1]])) [])))) : PRun Tryz.prog 28 [] [.u (.s s), .u (.i .u8 by0)] Q :=
 funS2 mixTd1 Tryz.func28 (by kernel_rfl) (H := ⟨[((28, 4, 0), ⟨[(5, .one (.ow 9 1)), (6, .S), (7, .I)], []⟩)], [], [], [], [], false, 64, KN.no, false, SP.no⟩) (n := 2) (by kernel_rfl) hh
theorem S8 {s : ByteArray} {Q : V → Mem → Prop} (hh : bif decide ((ByteArray.size s : Int) < 1) then Q (.t [.i 0, .u (.b false)]) [] else (bif decide ((ByteArray.size s : Int) > 20) then Q (.t [.i 0, .u (.b false)]) [] else 0 ≤ (0 : Int) ∧ (0 : Int) < (ByteArray.size s : Int) ∧ (∃ (I1 : Int → Int → Prop) (f1 : Int → Int → Nat), I1 0 0 ∧ (∀ x1 : Int, ∀ x2 : Int, I1 x1 x2 → (bif decide (x2 < (ByteArray.size s : Int)) then (bif x2 == 0 then (bif (UInt8.toNat (Array.getD s.data (Int.toNat 0) 0) : Int) == 45 then I1 x1 (IntKind.wrap .i64 (x2 + 1)) ∧ f1 x1 (IntKind.wrap .i64 (x2 + 1)) < f1 x1 x2 else 0 ≤ x2 ∧ x2 < (ByteArray.size s : Int) ∧ (bif decide ((UInt8.toNat (Array.getD s.data (Int.toNat x2) 0) : Int) < 48) then Q (.t [.i 0, .u (.b false)]) [] else 0 ≤ x2 ∧ x2 < (ByteArray.size s : Int) ∧ (bif decide ((UInt8.toNat (Array.getD s.data (Int.toNat x2) 0) : Int) > 57) then Q (.t [.i 0, .u (.b false)]) [] else (bif decide (x1 < -922337203685477580) then Q (.t [.i 0, .u (.b false)]) [] else 0 ≤ x2 ∧ x2 < (ByteArray.size s : Int) ∧ (bif decide (IntKind.wrap .i64 (10 * x1) < IntKind.wrap .i64 (-9223372036854775808 + IntKind.wrap .i64 (IntKind.wrap .u8 ((UInt8.toNat (Array.getD s.data (Int.toNat x2) 0) : Int) - 48)))) then Q (.t [.i 0, .u (.b false)]) [] else I1 (IntKind.wrap .i64 (IntKind.wrap .i64 (10 * x1) - IntKind.wrap .i64 (IntKind.wrap .u8 ((UInt8.toNat (Array.getD s.data (Int.toNat x2) 0) : Int) - 48)))) (IntKind.wrap .i64 (x2 + 1)) ∧ f1 (IntKind.wrap .i64 (IntKind.wrap .i64 (10 * x1) - IntKind.wrap .i64 (IntKind.wrap .u8 ((UInt8.toNat (Array.getD s.data (Int.toNat x2) 0) : Int) - 48)))) (IntKind.wrap .i64 (x2 + 1)) < f1 x1 x2))))) else 0 ≤ x2 ∧ x2 < (ByteArray.size s : Int) ∧ (bif decide ((UInt8.toNat (Array.getD s.data (Int.toNat x2) 0) : Int) < 48) then Q (.t [.i 0, .u (.b false)]) [] else 0 ≤ x2 ∧ x2 < (ByteArray.size s : Int) ∧ (bif decide ((UInt8.toNat (Array.getD s.data (Int.toNat x2) 0) : Int) > 57) then Q (.t [.i 0, .u (.b false)]) [] else (bif decide (x1 < -922337203685477580) then Q (.t [.i 0, .u (.b false)]) [] else 0 ≤ x2 ∧ x2 < (ByteArray.size s : Int) ∧ (bif decide (IntKind.wrap .i64 (10 * x1) < IntKind.wrap .i64 (-9223372036854775808 + IntKind.wrap .i64 (IntKind.wrap .u8 ((UInt8.toNat (Array.getD s.data (Int.toNat x2) 0) : Int) - 48)))) then Q (.t [.i 0, .u (.b false)]) [] else I1 (IntKind.wrap .i64 (IntKind.wrap .i64 (10 * x1) - IntKind.wrap .i64 (IntKind.wrap .u8 ((UInt8.toNat (Array.getD s.data (Int.toNat x2) 0) : Int) - 48)))) (IntKind.wrap .i64 (x2 + 1)) ∧ f1 (IntKind.wrap .i64 (IntKind.wrap .i64 (10 * x1) - IntKind.wrap .i64 (IntKind.wrap .u8 ((UInt8.toNat (Array.getD s.data (Int.toNat x2) 0) : Int) - 48)))) (IntKind.wrap .i64 (x2 + 1)) < f1 x1 x2))))) else (bif !((UInt8.toNat (Array.getD s.data (Int.toNat 0) 0) : Int) == 45) then (bif x1 == -9223372036854775808 then Q (.t [.i 0, .u (.b false)]) [] else PRun Tryz.prog 26 [] [.i (IntKind.wrap .i64 (0 - x1))] (post [.S] [] (fun s1 => (Q (.t [.i (IntKind.wrap .i64 (0 - x1)), .u (.b (ByteArray.toList s1 == ByteArray.toList s))]) [] : Prop)))) else PRun Tryz.prog 26 [] [.i x1] (post [.S] [] (fun s2 => (Q (.t [.i x1, .u (.b (ByteArray.toList s2 == ByteArray.toList s))]) [] : Prop))))))))) : PRun Tryz.prog 8 [] [.u (.s s)] Q :=
 funS2 mixTd1 Tryz.func8 (by kernel_rfl) (H := ⟨[((8, 6, 0), ⟨[(5, .I), (6, .I)], []⟩)], [], [], [], [], false, 64, KN.no, false, SP.no⟩) (n := 2) (by kernel_rfl) hh
theorem S26 {n : Int} {Q : V → Mem → Prop} (hh : bif decide (n < 0) then (bif decide (n > -10) then PRun Tryz.prog 26 [] [.i (IntKind.wrap .i64 (0 - n))] (post [.S] [] (fun s1 => (ByteArray.size (ByteArray.mk #[45]) + ByteArray.size s1 < 9223372036854775808 ∧ (Q (.u (.s (ByteArray.mk #[45] ++ s1))) []) : Prop))) else (10 : Int) ≠ 0 ∧ (PRun Tryz.prog 26 [] [.i (IntKind.wrap .i64 (Int.tdiv n 10))] (post [.S] [] (fun s2 => ((10 : Int) ≠ 0 ∧ (PRun Tryz.prog 26 [] [.i (IntKind.wrap .i64 (0 - Int.tmod n 10))] (post [.S] [] (fun s3 => (ByteArray.size s2 + ByteArray.size s3 < 9223372036854775808 ∧ (Q (.u (.s (s2 ++ s3))) []) : Prop)))) : Prop))))) else (bif decide (n > 9) then (10 : Int) ≠ 0 ∧ (PRun Tryz.prog 26 [] [.i (IntKind.wrap .i64 (Int.tdiv n 10))] (post [.S] [] (fun s4 => ((10 : Int) ≠ 0 ∧ (PRun Tryz.prog 26 [] [.i (Int.tmod n 10)] (post [.S] [] (fun s5 => (ByteArray.size s4 + ByteArray.size s5 < 9223372036854775808 ∧ (Q (.u (.s (s4 ++ s5))) []) : Prop)))) : Prop)))) else Q (.u (.s (strOf [IntKind.wrap .u8 (IntKind.wrap .i64 (48 + n))]))) [])) : PRun Tryz.prog 26 [] [.i n] Q :=
 funS2 mixTd1 Tryz.func26 (by kernel_rfl) (H := ⟨[], [], [], [], [], false, 64, KN.no, false, SP.no⟩) (n := 2) (by kernel_rfl) hh
theorem S18 {s : ByteArray} {Q : V → Mem → Prop} (hh : PRun Tryz.prog 28 [] [.u (.s s), .u (.i .u8 32)] (post [.L 1] [] (fun l1 => ∃ (I1 : List (List U) → Int → Prop) (f1 : List (List U) → Int → Nat), I1 [] 0 ∧ (∀ l2 : List (List U), ∀ x1 : Int, I1 l2 x1 → (bif decide (x1 < (List.length l1 : Int)) then elL l1 x1 (fun r1 => dS (ug r1 0) (fun s1 => (bif !(ByteArray.toList s1 == ByteArray.toList (ByteArray.mk #[])) then elL l1 x1 (fun r2 => dS (ug r2 0) (fun s2 => apOk l2 [[.s s2]] ∧ (I1 (l2 ++ [[.s s2]]) (IntKind.wrap .i64 (x1 + 1)) ∧ f1 (l2 ++ [[.s s2]]) (IntKind.wrap .i64 (x1 + 1)) < f1 l2 x1))) else I1 l2 (IntKind.wrap .i64 (x1 + 1)) ∧ f1 l2 (IntKind.wrap .i64 (x1 + 1)) < f1 l2 x1))) else Q (.l 1 l2) []))))) : PRun Tryz.prog 18 [] [.u (.s s)] Q :=
 funS2 mixTd1 Tryz.func18 (by kernel_rfl) (H := ⟨[((18, 4, 0), ⟨[(4, .one (.ow 9 1)), (5, .I)], []⟩)], [], [], [], [], false, 64, KN.no, false, SP.no⟩) (n := 2) (by kernel_rfl) hh
theorem S10 {s : ByteArray} {Q : V → Mem → Prop} (hh : PRun Tryz.prog 28 [] [.u (.s s), .u (.i .u8 44)] (post [.L 1] [] (fun l1 => ∃ (I1 : List (List U) → Int → Prop) (f1 : List (List U) → Int → Nat), I1 [] 0 ∧ (∀ l2 : List (List U), ∀ x1 : Int, I1 l2 x1 → (bif decide (x1 < (List.length l1 : Int)) then elL l1 x1 (fun r1 => dS (ug r1 0) (fun s1 => PRun Tryz.prog 20 [] [.u (.s s1), .u (.i .u8 120)] (post [.S, .S, .B] [] (fun s2 s3 b1 => (PRun Tryz.prog 8 [] [.u (.s s2)] (post [.I, .B] [] (fun x2 b2 => (PRun Tryz.prog 8 [] [.u (.s s3)] (post [.I, .B] [] (fun x3 b3 => (bif !b1 then Q (.t [.l 2 [], .u (.b false)]) [] else (bif !b2 then Q (.t [.l 2 [], .u (.b false)]) [] else (bif !b3 then Q (.t [.l 2 [], .u (.b false)]) [] else apOk l2 [[.n x2, .n x3]] ∧ (I1 (l2 ++ [[.n x2, .n x3]]) (IntKind.wrap .i64 (x1 + 1)) ∧ f1 (l2 ++ [[.n x2, .n x3]]) (IntKind.wrap .i64 (x1 + 1)) < f1 l2 x1))) : Prop))) : Prop))) : Prop))))) else (bif decide ((List.length l2 : Int) > 8) then Q (.t [.l 2 [], .u (.b false)]) [] else Q (.t [.l 2 l2, .u (.b true)]) [])))))) : PRun Tryz.prog 10 [] [.u (.s s)] Q :=
 funS2 mixTd1 Tryz.func10 (by kernel_rfl) (H := ⟨[((10, 4, 0), ⟨[(5, .one (.ow 39 2)), (6, .I)], []⟩)], [], [], [], [], false, 64, KN.no, false, SP.no⟩) (n := 2) (by kernel_rfl) hh
theorem S14 {s : ByteArray} {Q : V → Mem → Prop} (hh : ByteArray.size s + ByteArray.size (ByteArray.mk #[32]) < 9223372036854775808 ∧ (∃ (I1 : List (List U) → Int → Ob → Prop) (f1 : List (List U) → Int → Ob → Nat), I1 [] 0 (.si (s ++ ByteArray.mk #[32]) 0) ∧ (∀ l1 : List (List U), ∀ x1 : Int, ∀ X1 : Ob, I1 l1 x1 X1 → ∃ (s1 : ByteArray) (p1 : Nat), X1 = Ob.si s1 p1 ∧ (bif Nat.ble (p1 + 1) (ByteArray.size s1) then ((bif ((Utf8.decode s1 p1).1 : Int) != 32 then I1 l1 x1 (.si s1 (p1 + (Utf8.decode s1 p1).2)) ∧ f1 l1 x1 (.si s1 (p1 + (Utf8.decode s1 p1).2)) < f1 l1 x1 X1 else (bif decide ((p1 : Int) > x1) then 0 ≤ x1 ∧ (x1 ≤ (p1 : Int) ∧ (p1 : Int) ≤ (ByteArray.size s : Int) ∧ (apOk l1 [[.s (ByteArray.extract s (Int.toNat x1) (Int.toNat (p1 : Int)))]] ∧ (I1 (l1 ++ [[.s (ByteArray.extract s (Int.toNat x1) (Int.toNat (p1 : Int)))]]) (IntKind.wrap .i64 ((p1 : Int) + 1)) (.si s1 (p1 + (Utf8.decode s1 p1).2)) ∧ f1 (l1 ++ [[.s (ByteArray.extract s (Int.toNat x1) (Int.toNat (p1 : Int)))]]) (IntKind.wrap .i64 ((p1 : Int) + 1)) (.si s1 (p1 + (Utf8.decode s1 p1).2)) < f1 l1 x1 X1))) else I1 l1 (IntKind.wrap .i64 ((p1 : Int) + 1)) (.si s1 (p1 + (Utf8.decode s1 p1).2)) ∧ f1 l1 (IntKind.wrap .i64 ((p1 : Int) + 1)) (.si s1 (p1 + (Utf8.decode s1 p1).2)) < f1 l1 x1 X1)) : Prop) else (Q (.l 1 l1) [] : Prop))))) : PRun Tryz.prog 14 [] [.u (.s s)] Q :=
 funS2 mixTd1 Tryz.func14 (by kernel_rfl) (H := ⟨[((14, 4, 1), ⟨[(3, .one (.ow 9 1)), (4, .I)], [(0, .A)]⟩)], [], [], [], [], false, 64, KN.no, false, SP.no⟩) (n := 2) (by kernel_rfl) hh
theorem S9 {s : ByteArray} {Q : V → Mem → Prop} (hh : PRun Tryz.prog 27 [] [.u (.s s), .u (.s (ByteArray.mk #[44]))] (post [.L 1] [] (fun l1 => (bif decide ((List.length l1 : Int) > 8) then Q (.t [.l 2 [], .u (.b false)]) [] else ∃ (I1 : List (List U) → Int → Prop) (f1 : List (List U) → Int → Nat), I1 [] 0 ∧ (∀ l2 : List (List U), ∀ x1 : Int, I1 l2 x1 → (bif decide (x1 < (List.length l1 : Int)) then elL l1 x1 (fun r1 => dS (ug r1 0) (fun s1 => PRun Tryz.prog 16 [] [.u (.s s1), .u (.s (ByteArray.mk #[120]))] (post [.S, .S, .B] [] (fun s2 s3 b1 => (PRun Tryz.prog 7 [] [.u (.s s2)] (post [.I, .B] [] (fun x2 b2 => (PRun Tryz.prog 7 [] [.u (.s s3)] (post [.I, .B] [] (fun x3 b3 => (bif !b2 then Q (.t [.l 2 [], .u (.b false)]) [] else (bif !b3 then Q (.t [.l 2 [], .u (.b false)]) [] else apOk l2 [[.n x2, .n x3]] ∧ (I1 (l2 ++ [[.n x2, .n x3]]) (IntKind.wrap .i64 (x1 + 1)) ∧ f1 (l2 ++ [[.n x2, .n x3]]) (IntKind.wrap .i64 (x1 + 1)) < f1 l2 x1)) : Prop))) : Prop))) : Prop))))) else Q (.t [.l 2 l2, .u (.b true)]) [])) : Prop)))) : PRun Tryz.prog 9 [] [.u (.s s)] Q :=
 funS2 mixTd1 Tryz.func9 (by kernel_rfl) (H := ⟨[((9, 6, 0), ⟨[(5, .one (.ow 39 2)), (22, .I)], []⟩)], [], [], [], [], false, 64, KN.no, false, SP.no⟩) (n := 2) (by kernel_rfl) hh
theorem S53 {s : List (List U)} {Q : V → Mem → Prop} (hh : bif List.isEmpty s then ((Q (.l 2 []) [] : Prop) ∧ (apOk [] s ∧ (match s with | _ :: _ => (Q (.l 2 ([] ++ s)) []) | [] => (Q (.c 2 []) []) : Prop) : Prop)) else (apOk [] s ∧ (match s with | _ :: _ => (Q (.l 2 ([] ++ s)) []) | [] => (Q (.c 2 []) []) : Prop) : Prop)) : PRun Tryz.prog 53 [] [.l 2 s] Q :=
 funS2 mixTd1 Tryz.func53 (by kernel_rfl) (H := ⟨[], [], [], [], [], false, 64, KN.no, false, SP.no⟩) (n := 2) (by kernel_rfl) hh
theorem S12 {a : List (List U)} {b : List (List U)} {Q : V → Mem → Prop} (hh : bif (List.length a : Int) != (List.length b : Int) then Q (.u (.b false)) [] else ∃ (I1 : Int → Prop) (f1 : Int → Nat), I1 0 ∧ (∀ x1 : Int, I1 x1 → (bif decide (x1 < (List.length a : Int)) then (bif decide (x1 < (List.length b : Int)) then elL a x1 (fun r1 => dI .i64 (ug r1 0) (fun x2 => dI .i64 (ug r1 1) (fun x3 => elL b x1 (fun r2 => dI .i64 (ug r2 0) (fun x4 => dI .i64 (ug r2 1) (fun x5 => (bif !(x2 == x4 && (x3 == x5 && true)) then Q (.u (.b false)) [] else I1 (IntKind.wrap .i64 (x1 + 1)) ∧ f1 (IntKind.wrap .i64 (x1 + 1)) < f1 x1))))))) else Q (.u (.b true)) []) else Q (.u (.b true)) []))) : PRun Tryz.prog 12 [] [.l 2 a, .l 2 b] Q :=
 funS2 mixTd1 Tryz.func12 (by kernel_rfl) (H := ⟨[((12, 4, 0), ⟨[(5, .I)], []⟩)], [], [], [], [], false, 64, KN.no, false, SP.no⟩) (n := 2) (by kernel_rfl) hh
end Go.Proofs.YtaogfopaalancaaGreatDoor
/- What the functions do, written by program (psv.py) and held against the program by the kernel. -/
set_option linter.unusedVariables false
set_option maxRecDepth 100000
namespace Go.Proofs.YtaogfopaalancaaGreatDoor
open Go Go.Proofs
theorem mixTd2 : Tryz.prog.follows .mixedOrders = true := by kernel_rfl
theorem S15 {name : ByteArray} {Q : V → Mem → Prop} (hh : bif ByteArray.toList (ByteArray.mk #[109, 105, 110, 116]) == ByteArray.toList name then Q (.i 1) [] else (bif ByteArray.toList (ByteArray.mk #[115, 101, 101, 100]) == ByteArray.toList name then Q (.i 2) [] else (bif ByteArray.toList (ByteArray.mk #[100, 114, 97, 102, 116]) == ByteArray.toList name then Q (.i 3) [] else (bif ByteArray.toList (ByteArray.mk #[102, 111, 117, 110, 100]) == ByteArray.toList name then Q (.i 4) [] else (bif ByteArray.toList (ByteArray.mk #[101, 110, 114, 111, 108]) == ByteArray.toList name then Q (.i 5) [] else (bif ByteArray.toList (ByteArray.mk #[101, 120, 112, 101, 108]) == ByteArray.toList name then Q (.i 6) [] else (bif ByteArray.toList (ByteArray.mk #[112, 97, 121]) == ByteArray.toList name then Q (.i 7) [] else (bif ByteArray.toList (ByteArray.mk #[103, 105, 118, 101]) == ByteArray.toList name then Q (.i 8) [] else (bif ByteArray.toList (ByteArray.mk #[105, 110, 115, 116, 97, 108, 108]) == ByteArray.toList name then Q (.i 9) [] else (bif ByteArray.toList (ByteArray.mk #[112, 97, 117, 115, 101]) == ByteArray.toList name then Q (.i 10) [] else (bif ByteArray.toList (ByteArray.mk #[114, 101, 115, 117, 109, 101]) == ByteArray.toList name then Q (.i 11) [] else (bif ByteArray.toList (ByteArray.mk #[99, 97, 110, 99, 101, 108]) == ByteArray.toList name then Q (.i 12) [] else (bif ByteArray.toList (ByteArray.mk #[100, 101, 108, 105, 118, 101, 114]) == ByteArray.toList name then Q (.i 13) [] else (bif ByteArray.toList (ByteArray.mk #[105, 115, 115, 117, 101]) == ByteArray.toList name then Q (.i 14) [] else (bif ByteArray.toList (ByteArray.mk #[97, 99, 99, 101, 112, 116]) == ByteArray.toList name then Q (.i 15) [] else (bif ByteArray.toList (ByteArray.mk #[104, 97, 110, 100]) == ByteArray.toList name then Q (.i 16) [] else (bif ByteArray.toList (ByteArray.mk #[102, 97, 105, 108]) == ByteArray.toList name then Q (.i 17) [] else (bif ByteArray.toList (ByteArray.mk #[114, 101, 106, 101, 99, 116]) == ByteArray.toList name then Q (.i 18) [] else (bif ByteArray.toList (ByteArray.mk #[114, 101, 118, 111, 107, 101]) == ByteArray.toList name then Q (.i 19) [] else (bif ByteArray.toList (ByteArray.mk #[116, 105, 99, 107]) == ByteArray.toList name then Q (.i 20) [] else (bif ByteArray.toList (ByteArray.mk #[109, 111, 110, 101, 121]) == ByteArray.toList name then Q (.i 21) [] else (bif ByteArray.toList (ByteArray.mk #[115, 116, 97, 99, 107]) == ByteArray.toList name then Q (.i 22) [] else (bif ByteArray.toList (ByteArray.mk #[106, 111, 98]) == ByteArray.toList name then Q (.i 23) [] else (bif ByteArray.toList (ByteArray.mk #[100, 101, 97, 108]) == ByteArray.toList name then Q (.i 24) [] else (bif ByteArray.toList (ByteArray.mk #[99, 108, 111, 99, 107]) == ByteArray.toList name then Q (.i 25) [] else Q (.i 0) []))))))))))))))))))))))))) : PRun Tryz.prog 15 [] [.u (.s name)] Q :=
 funS2 mixTd2 Tryz.func15 (by kernel_rfl) (H := ⟨[], [], [36], [], [], false, 64, KN.no, false, SP.no⟩) (n := 3) (by kernel_rfl) hh
theorem S31 {kind : Int} {Q : V → Mem → Prop} (hh : bif decide (kind < 1) then Q (.u (.s (ByteArray.mk #[]))) [] else (bif decide (kind > 25) then Q (.u (.s (ByteArray.mk #[]))) [] else elL ([[.s (ByteArray.mk #[109, 105, 110, 116]), .s (ByteArray.mk #[97, 115, 32, 110])], [.s (ByteArray.mk #[115, 101, 101, 100]), .s (ByteArray.mk #[97, 115, 32, 100, 105, 118, 32, 112, 108, 97, 99, 101, 32, 116, 121, 112, 101, 32, 110])], [.s (ByteArray.mk #[100, 114, 97, 102, 116]), .s (ByteArray.mk #[97, 115, 32, 100, 105, 118, 32, 112, 108, 97, 99, 101, 32, 116, 121, 112, 101, 32, 109, 101, 32, 116, 101, 32, 114, 117, 110, 115])], [.s (ByteArray.mk #[102, 111, 117, 110, 100]), .s (ByteArray.mk #[119, 104, 111])], [.s (ByteArray.mk #[101, 110, 114, 111, 108]), .s (ByteArray.mk #[119, 104, 111, 32, 97, 115, 32, 116, 111, 32, 114, 111, 108, 101, 115])], [.s (ByteArray.mk #[101, 120, 112, 101, 108]), .s (ByteArray.mk #[119, 104, 111, 32, 97, 115, 32, 116, 111])], [.s (ByteArray.mk #[112, 97, 121]), .s (ByteArray.mk #[119, 104, 111, 32, 97, 115, 32, 116, 111, 32, 110])], [.s (ByteArray.mk #[103, 105, 118, 101]), .s (ByteArray.mk #[119, 104, 111, 32, 97, 115, 32, 100, 105, 118, 32, 116, 111, 32, 105, 110, 116, 111, 32, 112, 108, 97, 99, 101, 32, 116, 121, 112, 101, 32, 110])], [.s (ByteArray.mk #[105, 110, 115, 116, 97, 108, 108]), .s (ByteArray.mk #[119, 104, 111, 32, 97, 115, 32, 100, 105, 118, 32, 98, 97, 121, 32, 105, 100, 32, 116, 121, 112, 101, 32, 114, 117, 110, 115, 32, 99, 111, 112, 105, 101, 115])], [.s (ByteArray.mk #[112, 97, 117, 115, 101]), .s (ByteArray.mk #[119, 104, 111, 32, 105, 100])], [.s (ByteArray.mk #[114, 101, 115, 117, 109, 101]), .s (ByteArray.mk #[119, 104, 111, 32, 105, 100])], [.s (ByteArray.mk #[99, 97, 110, 99, 101, 108]), .s (ByteArray.mk #[119, 104, 111, 32, 105, 100])], [.s (ByteArray.mk #[100, 101, 108, 105, 118, 101, 114]), .s (ByteArray.mk #[119, 104, 111, 32, 105, 100])], [.s (ByteArray.mk #[105, 115, 115, 117, 101]), .s (ByteArray.mk #[119, 104, 111, 32, 97, 115, 32, 100, 105, 118, 32, 116, 121, 112, 101, 32, 116, 111, 32, 112, 108, 97, 99, 101, 32, 100, 101, 115, 116, 32, 110, 32, 112, 108, 101, 100, 103, 101, 32, 108, 97, 115, 116, 115, 32, 100, 97, 121, 115])], [.s (ByteArray.mk #[97, 99, 99, 101, 112, 116]), .s (ByteArray.mk #[119, 104, 111, 32, 97, 115, 32, 100, 105, 118, 32, 105, 100])], [.s (ByteArray.mk #[104, 97, 110, 100]), .s (ByteArray.mk #[119, 104, 111, 32, 105, 100])], [.s (ByteArray.mk #[102, 97, 105, 108]), .s (ByteArray.mk #[119, 104, 111, 32, 105, 100])], [.s (ByteArray.mk #[114, 101, 106, 101, 99, 116]), .s (ByteArray.mk #[119, 104, 111, 32, 105, 100])], [.s (ByteArray.mk #[114, 101, 118, 111, 107, 101]), .s (ByteArray.mk #[119, 104, 111, 32, 105, 100])], [.s (ByteArray.mk #[116, 105, 99, 107]), .s (ByteArray.mk #[110])], [.s (ByteArray.mk #[109, 111, 110, 101, 121]), .s (ByteArray.mk #[119, 104, 111, 32, 97, 115])], [.s (ByteArray.mk #[115, 116, 97, 99, 107]), .s (ByteArray.mk #[119, 104, 111, 32, 97, 115, 32, 100, 105, 118, 32, 112, 108, 97, 99, 101, 32, 116, 121, 112, 101])], [.s (ByteArray.mk #[106, 111, 98]), .s (ByteArray.mk #[119, 104, 111, 32, 105, 100])], [.s (ByteArray.mk #[100, 101, 97, 108]), .s (ByteArray.mk #[119, 104, 111, 32, 105, 100])], [.s (ByteArray.mk #[99, 108, 111, 99, 107]), .s (ByteArray.mk #[119, 104, 111])]] : List (List U)) (IntKind.wrap .i64 (kind - 1)) (fun r1 => dS (ug r1 0) (fun s1 => dS (ug r1 1) (fun s2 => Q (.u (.s s1)) []))))) : PRun Tryz.prog 31 [] [.i kind] Q :=
 funS2 mixTd2 Tryz.func31 (by kernel_rfl) (H := ⟨[], [], [36], [], [], false, 64, KN.no, false, SP.no⟩) (n := 3) (by kernel_rfl) hh
theorem S32 {kind : Int} {Q : V → Mem → Prop} (hh : bif decide (kind < 1) then Q (.l 1 []) [] else (bif decide (kind > 25) then Q (.l 1 []) [] else elL ([[.s (ByteArray.mk #[109, 105, 110, 116]), .s (ByteArray.mk #[97, 115, 32, 110])], [.s (ByteArray.mk #[115, 101, 101, 100]), .s (ByteArray.mk #[97, 115, 32, 100, 105, 118, 32, 112, 108, 97, 99, 101, 32, 116, 121, 112, 101, 32, 110])], [.s (ByteArray.mk #[100, 114, 97, 102, 116]), .s (ByteArray.mk #[97, 115, 32, 100, 105, 118, 32, 112, 108, 97, 99, 101, 32, 116, 121, 112, 101, 32, 109, 101, 32, 116, 101, 32, 114, 117, 110, 115])], [.s (ByteArray.mk #[102, 111, 117, 110, 100]), .s (ByteArray.mk #[119, 104, 111])], [.s (ByteArray.mk #[101, 110, 114, 111, 108]), .s (ByteArray.mk #[119, 104, 111, 32, 97, 115, 32, 116, 111, 32, 114, 111, 108, 101, 115])], [.s (ByteArray.mk #[101, 120, 112, 101, 108]), .s (ByteArray.mk #[119, 104, 111, 32, 97, 115, 32, 116, 111])], [.s (ByteArray.mk #[112, 97, 121]), .s (ByteArray.mk #[119, 104, 111, 32, 97, 115, 32, 116, 111, 32, 110])], [.s (ByteArray.mk #[103, 105, 118, 101]), .s (ByteArray.mk #[119, 104, 111, 32, 97, 115, 32, 100, 105, 118, 32, 116, 111, 32, 105, 110, 116, 111, 32, 112, 108, 97, 99, 101, 32, 116, 121, 112, 101, 32, 110])], [.s (ByteArray.mk #[105, 110, 115, 116, 97, 108, 108]), .s (ByteArray.mk #[119, 104, 111, 32, 97, 115, 32, 100, 105, 118, 32, 98, 97, 121, 32, 105, 100, 32, 116, 121, 112, 101, 32, 114, 117, 110, 115, 32, 99, 111, 112, 105, 101, 115])], [.s (ByteArray.mk #[112, 97, 117, 115, 101]), .s (ByteArray.mk #[119, 104, 111, 32, 105, 100])], [.s (ByteArray.mk #[114, 101, 115, 117, 109, 101]), .s (ByteArray.mk #[119, 104, 111, 32, 105, 100])], [.s (ByteArray.mk #[99, 97, 110, 99, 101, 108]), .s (ByteArray.mk #[119, 104, 111, 32, 105, 100])], [.s (ByteArray.mk #[100, 101, 108, 105, 118, 101, 114]), .s (ByteArray.mk #[119, 104, 111, 32, 105, 100])], [.s (ByteArray.mk #[105, 115, 115, 117, 101]), .s (ByteArray.mk #[119, 104, 111, 32, 97, 115, 32, 100, 105, 118, 32, 116, 121, 112, 101, 32, 116, 111, 32, 112, 108, 97, 99, 101, 32, 100, 101, 115, 116, 32, 110, 32, 112, 108, 101, 100, 103, 101, 32, 108, 97, 115, 116, 115, 32, 100, 97, 121, 115])], [.s (ByteArray.mk #[97, 99, 99, 101, 112, 116]), .s (ByteArray.mk #[119, 104, 111, 32, 97, 115, 32, 100, 105, 118, 32, 105, 100])], [.s (ByteArray.mk #[104, 97, 110, 100]), .s (ByteArray.mk #[119, 104, 111, 32, 105, 100])], [.s (ByteArray.mk #[102, 97, 105, 108]), .s (ByteArray.mk #[119, 104, 111, 32, 105, 100])], [.s (ByteArray.mk #[114, 101, 106, 101, 99, 116]), .s (ByteArray.mk #[119, 104, 111, 32, 105, 100])], [.s (ByteArray.mk #[114, 101, 118, 111, 107, 101]), .s (ByteArray.mk #[119, 104, 111, 32, 105, 100])], [.s (ByteArray.mk #[116, 105, 99, 107]), .s (ByteArray.mk #[110])], [.s (ByteArray.mk #[109, 111, 110, 101, 121]), .s (ByteArray.mk #[119, 104, 111, 32, 97, 115])], [.s (ByteArray.mk #[115, 116, 97, 99, 107]), .s (ByteArray.mk #[119, 104, 111, 32, 97, 115, 32, 100, 105, 118, 32, 112, 108, 97, 99, 101, 32, 116, 121, 112, 101])], [.s (ByteArray.mk #[106, 111, 98]), .s (ByteArray.mk #[119, 104, 111, 32, 105, 100])], [.s (ByteArray.mk #[100, 101, 97, 108]), .s (ByteArray.mk #[119, 104, 111, 32, 105, 100])], [.s (ByteArray.mk #[99, 108, 111, 99, 107]), .s (ByteArray.mk #[119, 104, 111])]] : List (List U)) (IntKind.wrap .i64 (kind - 1)) (fun r1 => dS (ug r1 0) (fun s1 => dS (ug r1 1) (fun s2 => PRun Tryz.prog 47 [] [.u (.s s2)] (post [.L 1] [] (fun l1 => (Q (.l 1 l1) [] : Prop)))))))) : PRun Tryz.prog 32 [] [.i kind] Q :=
 funS2 mixTd2 Tryz.func32 (by kernel_rfl) (H := ⟨[], [], [36], [], [], false, 64, KN.no, false, SP.no⟩) (n := 3) (by kernel_rfl) hh
theorem S33 {c_0 : Int} {c_1 : Int} {c_2 : Int} {c_3 : Int} {c_4 : Int} {c_5 : Int} {c_6 : Int} {c_7 : Int} {c_8 : Int} {c_9 : Int} {c_10 : Int} {c_11 : Int} {c_12 : Int} {c_13 : Int} {c_14 : Int} {c_15 : Int} {c_16 : Int} {c_17 : Int} {c_18 : Int} {c_19 : Int} {c_20 : List (List U)} {c_21 : List (List U)} {name : ByteArray} {Q : V → Mem → Prop} (hh : bif ByteArray.toList name == ByteArray.toList (ByteArray.mk #[119, 104, 111]) then Q (.t [.i c_1, .u (.b true)]) [] else (bif ByteArray.toList name == ByteArray.toList (ByteArray.mk #[97, 115]) then Q (.t [.i c_2, .u (.b true)]) [] else (bif ByteArray.toList name == ByteArray.toList (ByteArray.mk #[100, 105, 118]) then Q (.t [.i c_3, .u (.b true)]) [] else (bif ByteArray.toList name == ByteArray.toList (ByteArray.mk #[105, 100]) then Q (.t [.i c_4, .u (.b true)]) [] else (bif ByteArray.toList name == ByteArray.toList (ByteArray.mk #[116, 111]) then Q (.t [.i c_5, .u (.b true)]) [] else (bif ByteArray.toList name == ByteArray.toList (ByteArray.mk #[105, 110, 116, 111]) then Q (.t [.i c_6, .u (.b true)]) [] else (bif ByteArray.toList name == ByteArray.toList (ByteArray.mk #[112, 108, 97, 99, 101]) then Q (.t [.i c_7, .u (.b true)]) [] else (bif ByteArray.toList name == ByteArray.toList (ByteArray.mk #[100, 101, 115, 116]) then Q (.t [.i c_8, .u (.b true)]) [] else (bif ByteArray.toList name == ByteArray.toList (ByteArray.mk #[116, 121, 112, 101]) then Q (.t [.i c_9, .u (.b true)]) [] else (bif ByteArray.toList name == ByteArray.toList (ByteArray.mk #[110]) then Q (.t [.i c_10, .u (.b true)]) [] else (bif ByteArray.toList name == ByteArray.toList (ByteArray.mk #[112, 108, 101, 100, 103, 101]) then Q (.t [.i c_11, .u (.b true)]) [] else (bif ByteArray.toList name == ByteArray.toList (ByteArray.mk #[108, 97, 115, 116, 115]) then Q (.t [.i c_12, .u (.b true)]) [] else (bif ByteArray.toList name == ByteArray.toList (ByteArray.mk #[100, 97, 121, 115]) then Q (.t [.i c_13, .u (.b true)]) [] else (bif ByteArray.toList name == ByteArray.toList (ByteArray.mk #[114, 117, 110, 115]) then Q (.t [.i c_14, .u (.b true)]) [] else (bif ByteArray.toList name == ByteArray.toList (ByteArray.mk #[99, 111, 112, 105, 101, 115]) then Q (.t [.i c_15, .u (.b true)]) [] else (bif ByteArray.toList name == ByteArray.toList (ByteArray.mk #[114, 111, 108, 101, 115]) then Q (.t [.i c_16, .u (.b true)]) [] else (bif ByteArray.toList name == ByteArray.toList (ByteArray.mk #[109, 101]) then Q (.t [.i c_17, .u (.b true)]) [] else (bif ByteArray.toList name == ByteArray.toList (ByteArray.mk #[116, 101]) then Q (.t [.i c_18, .u (.b true)]) [] else (bif ByteArray.toList name == ByteArray.toList (ByteArray.mk #[98, 97, 121]) then Q (.t [.i c_19, .u (.b true)]) [] else Q (.t [.i 0, .u (.b false)]) []))))))))))))))))))) : PRun Tryz.prog 33 [] [.a [.i c_0, .i c_1, .i c_2, .i c_3, .i c_4, .i c_5, .i c_6, .i c_7, .i c_8, .i c_9, .i c_10, .i c_11, .i c_12, .i c_13, .i c_14, .i c_15, .i c_16, .i c_17, .i c_18, .i c_19, .l 2 c_20, .l 2 c_21], .u (.s name)] Q :=
 funS2 mixTd2 Tryz.func33 (by kernel_rfl) (H := ⟨[], [], [48], [], [], false, 64, KN.no, false, SP.no⟩) (n := 3) (by kernel_rfl) hh
theorem S39 {c_0 : Int} {c_1 : Int} {c_2 : Int} {c_3 : Int} {c_4 : Int} {c_5 : Int} {c_6 : Int} {c_7 : Int} {c_8 : Int} {c_9 : Int} {c_10 : Int} {c_11 : Int} {c_12 : Int} {c_13 : Int} {c_14 : Int} {c_15 : Int} {c_16 : Int} {c_17 : Int} {c_18 : Int} {c_19 : Int} {c_20 : List (List U)} {c_21 : List (List U)} {name : ByteArray} {n : Int} {Q : V → Mem → Prop} (hh : bif ByteArray.toList name == ByteArray.toList (ByteArray.mk #[119, 104, 111]) then PRun Tryz.prog 53 [] [.l 2 c_20] (post [.L 2] [] (fun l1 => (PRun Tryz.prog 53 [] [.l 2 c_21] (post [.L 2] [] (fun l2 => (Q (.t [.a [.i c_0, .i n, .i c_2, .i c_3, .i c_4, .i c_5, .i c_6, .i c_7, .i c_8, .i c_9, .i c_10, .i c_11, .i c_12, .i c_13, .i c_14, .i c_15, .i c_16, .i c_17, .i c_18, .i c_19, .l 2 l1, .l 2 l2], .u (.b true)]) [] : Prop))) : Prop))) else (bif ByteArray.toList name == ByteArray.toList (ByteArray.mk #[97, 115]) then PRun Tryz.prog 53 [] [.l 2 c_20] (post [.L 2] [] (fun l3 => (PRun Tryz.prog 53 [] [.l 2 c_21] (post [.L 2] [] (fun l4 => (Q (.t [.a [.i c_0, .i c_1, .i n, .i c_3, .i c_4, .i c_5, .i c_6, .i c_7, .i c_8, .i c_9, .i c_10, .i c_11, .i c_12, .i c_13, .i c_14, .i c_15, .i c_16, .i c_17, .i c_18, .i c_19, .l 2 l3, .l 2 l4], .u (.b true)]) [] : Prop))) : Prop))) else (bif ByteArray.toList name == ByteArray.toList (ByteArray.mk #[100, 105, 118]) then PRun Tryz.prog 53 [] [.l 2 c_20] (post [.L 2] [] (fun l5 => (PRun Tryz.prog 53 [] [.l 2 c_21] (post [.L 2] [] (fun l6 => (Q (.t [.a [.i c_0, .i c_1, .i c_2, .i n, .i c_4, .i c_5, .i c_6, .i c_7, .i c_8, .i c_9, .i c_10, .i c_11, .i c_12, .i c_13, .i c_14, .i c_15, .i c_16, .i c_17, .i c_18, .i c_19, .l 2 l5, .l 2 l6], .u (.b true)]) [] : Prop))) : Prop))) else (bif ByteArray.toList name == ByteArray.toList (ByteArray.mk #[105, 100]) then PRun Tryz.prog 53 [] [.l 2 c_20] (post [.L 2] [] (fun l7 => (PRun Tryz.prog 53 [] [.l 2 c_21] (post [.L 2] [] (fun l8 => (Q (.t [.a [.i c_0, .i c_1, .i c_2, .i c_3, .i n, .i c_5, .i c_6, .i c_7, .i c_8, .i c_9, .i c_10, .i c_11, .i c_12, .i c_13, .i c_14, .i c_15, .i c_16, .i c_17, .i c_18, .i c_19, .l 2 l7, .l 2 l8], .u (.b true)]) [] : Prop))) : Prop))) else (bif ByteArray.toList name == ByteArray.toList (ByteArray.mk #[116, 111]) then PRun Tryz.prog 53 [] [.l 2 c_20] (post [.L 2] [] (fun l9 => (PRun Tryz.prog 53 [] [.l 2 c_21] (post [.L 2] [] (fun l10 => (Q (.t [.a [.i c_0, .i c_1, .i c_2, .i c_3, .i c_4, .i n, .i c_6, .i c_7, .i c_8, .i c_9, .i c_10, .i c_11, .i c_12, .i c_13, .i c_14, .i c_15, .i c_16, .i c_17, .i c_18, .i c_19, .l 2 l9, .l 2 l10], .u (.b true)]) [] : Prop))) : Prop))) else (bif ByteArray.toList name == ByteArray.toList (ByteArray.mk #[105, 110, 116, 111]) then PRun Tryz.prog 53 [] [.l 2 c_20] (post [.L 2] [] (fun l11 => (PRun Tryz.prog 53 [] [.l 2 c_21] (post [.L 2] [] (fun l12 => (Q (.t [.a [.i c_0, .i c_1, .i c_2, .i c_3, .i c_4, .i c_5, .i n, .i c_7, .i c_8, .i c_9, .i c_10, .i c_11, .i c_12, .i c_13, .i c_14, .i c_15, .i c_16, .i c_17, .i c_18, .i c_19, .l 2 l11, .l 2 l12], .u (.b true)]) [] : Prop))) : Prop))) else (bif ByteArray.toList name == ByteArray.toList (ByteArray.mk #[112, 108, 97, 99, 101]) then PRun Tryz.prog 53 [] [.l 2 c_20] (post [.L 2] [] (fun l13 => (PRun Tryz.prog 53 [] [.l 2 c_21] (post [.L 2] [] (fun l14 => (Q (.t [.a [.i c_0, .i c_1, .i c_2, .i c_3, .i c_4, .i c_5, .i c_6, .i n, .i c_8, .i c_9, .i c_10, .i c_11, .i c_12, .i c_13, .i c_14, .i c_15, .i c_16, .i c_17, .i c_18, .i c_19, .l 2 l13, .l 2 l14], .u (.b true)]) [] : Prop))) : Prop))) else (bif ByteArray.toList name == ByteArray.toList (ByteArray.mk #[100, 101, 115, 116]) then PRun Tryz.prog 53 [] [.l 2 c_20] (post [.L 2] [] (fun l15 => (PRun Tryz.prog 53 [] [.l 2 c_21] (post [.L 2] [] (fun l16 => (Q (.t [.a [.i c_0, .i c_1, .i c_2, .i c_3, .i c_4, .i c_5, .i c_6, .i c_7, .i n, .i c_9, .i c_10, .i c_11, .i c_12, .i c_13, .i c_14, .i c_15, .i c_16, .i c_17, .i c_18, .i c_19, .l 2 l15, .l 2 l16], .u (.b true)]) [] : Prop))) : Prop))) else (bif ByteArray.toList name == ByteArray.toList (ByteArray.mk #[116, 121, 112, 101]) then PRun Tryz.prog 53 [] [.l 2 c_20] (post [.L 2] [] (fun l17 => (PRun Tryz.prog 53 [] [.l 2 c_21] (post [.L 2] [] (fun l18 => (Q (.t [.a [.i c_0, .i c_1, .i c_2, .i c_3, .i c_4, .i c_5, .i c_6, .i c_7, .i c_8, .i n, .i c_10, .i c_11, .i c_12, .i c_13, .i c_14, .i c_15, .i c_16, .i c_17, .i c_18, .i c_19, .l 2 l17, .l 2 l18], .u (.b true)]) [] : Prop))) : Prop))) else (bif ByteArray.toList name == ByteArray.toList (ByteArray.mk #[110]) then PRun Tryz.prog 53 [] [.l 2 c_20] (post [.L 2] [] (fun l19 => (PRun Tryz.prog 53 [] [.l 2 c_21] (post [.L 2] [] (fun l20 => (Q (.t [.a [.i c_0, .i c_1, .i c_2, .i c_3, .i c_4, .i c_5, .i c_6, .i c_7, .i c_8, .i c_9, .i n, .i c_11, .i c_12, .i c_13, .i c_14, .i c_15, .i c_16, .i c_17, .i c_18, .i c_19, .l 2 l19, .l 2 l20], .u (.b true)]) [] : Prop))) : Prop))) else (bif ByteArray.toList name == ByteArray.toList (ByteArray.mk #[112, 108, 101, 100, 103, 101]) then PRun Tryz.prog 53 [] [.l 2 c_20] (post [.L 2] [] (fun l21 => (PRun Tryz.prog 53 [] [.l 2 c_21] (post [.L 2] [] (fun l22 => (Q (.t [.a [.i c_0, .i c_1, .i c_2, .i c_3, .i c_4, .i c_5, .i c_6, .i c_7, .i c_8, .i c_9, .i c_10, .i n, .i c_12, .i c_13, .i c_14, .i c_15, .i c_16, .i c_17, .i c_18, .i c_19, .l 2 l21, .l 2 l22], .u (.b true)]) [] : Prop))) : Prop))) else (bif ByteArray.toList name == ByteArray.toList (ByteArray.mk #[108, 97, 115, 116, 115]) then PRun Tryz.prog 53 [] [.l 2 c_20] (post [.L 2] [] (fun l23 => (PRun Tryz.prog 53 [] [.l 2 c_21] (post [.L 2] [] (fun l24 => (Q (.t [.a [.i c_0, .i c_1, .i c_2, .i c_3, .i c_4, .i c_5, .i c_6, .i c_7, .i c_8, .i c_9, .i c_10, .i c_11, .i n, .i c_13, .i c_14, .i c_15, .i c_16, .i c_17, .i c_18, .i c_19, .l 2 l23, .l 2 l24], .u (.b true)]) [] : Prop))) : Prop))) else (bif ByteArray.toList name == ByteArray.toList (ByteArray.mk #[100, 97, 121, 115]) then PRun Tryz.prog 53 [] [.l 2 c_20] (post [.L 2] [] (fun l25 => (PRun Tryz.prog 53 [] [.l 2 c_21] (post [.L 2] [] (fun l26 => (Q (.t [.a [.i c_0, .i c_1, .i c_2, .i c_3, .i c_4, .i c_5, .i c_6, .i c_7, .i c_8, .i c_9, .i c_10, .i c_11, .i c_12, .i n, .i c_14, .i c_15, .i c_16, .i c_17, .i c_18, .i c_19, .l 2 l25, .l 2 l26], .u (.b true)]) [] : Prop))) : Prop))) else (bif ByteArray.toList name == ByteArray.toList (ByteArray.mk #[114, 117, 110, 115]) then PRun Tryz.prog 53 [] [.l 2 c_20] (post [.L 2] [] (fun l27 => (PRun Tryz.prog 53 [] [.l 2 c_21] (post [.L 2] [] (fun l28 => (Q (.t [.a [.i c_0, .i c_1, .i c_2, .i c_3, .i c_4, .i c_5, .i c_6, .i c_7, .i c_8, .i c_9, .i c_10, .i c_11, .i c_12, .i c_13, .i n, .i c_15, .i c_16, .i c_17, .i c_18, .i c_19, .l 2 l27, .l 2 l28], .u (.b true)]) [] : Prop))) : Prop))) else (bif ByteArray.toList name == ByteArray.toList (ByteArray.mk #[99, 111, 112, 105, 101, 115]) then PRun Tryz.prog 53 [] [.l 2 c_20] (post [.L 2] [] (fun l29 => (PRun Tryz.prog 53 [] [.l 2 c_21] (post [.L 2] [] (fun l30 => (Q (.t [.a [.i c_0, .i c_1, .i c_2, .i c_3, .i c_4, .i c_5, .i c_6, .i c_7, .i c_8, .i c_9, .i c_10, .i c_11, .i c_12, .i c_13, .i c_14, .i n, .i c_16, .i c_17, .i c_18, .i c_19, .l 2 l29, .l 2 l30], .u (.b true)]) [] : Prop))) : Prop))) else (bif ByteArray.toList name == ByteArray.toList (ByteArray.mk #[114, 111, 108, 101, 115]) then PRun Tryz.prog 53 [] [.l 2 c_20] (post [.L 2] [] (fun l31 => (PRun Tryz.prog 53 [] [.l 2 c_21] (post [.L 2] [] (fun l32 => (Q (.t [.a [.i c_0, .i c_1, .i c_2, .i c_3, .i c_4, .i c_5, .i c_6, .i c_7, .i c_8, .i c_9, .i c_10, .i c_11, .i c_12, .i c_13, .i c_14, .i c_15, .i n, .i c_17, .i c_18, .i c_19, .l 2 l31, .l 2 l32], .u (.b true)]) [] : Prop))) : Prop))) else (bif ByteArray.toList name == ByteArray.toList (ByteArray.mk #[109, 101]) then PRun Tryz.prog 53 [] [.l 2 c_20] (post [.L 2] [] (fun l33 => (PRun Tryz.prog 53 [] [.l 2 c_21] (post [.L 2] [] (fun l34 => (Q (.t [.a [.i c_0, .i c_1, .i c_2, .i c_3, .i c_4, .i c_5, .i c_6, .i c_7, .i c_8, .i c_9, .i c_10, .i c_11, .i c_12, .i c_13, .i c_14, .i c_15, .i c_16, .i n, .i c_18, .i c_19, .l 2 l33, .l 2 l34], .u (.b true)]) [] : Prop))) : Prop))) else (bif ByteArray.toList name == ByteArray.toList (ByteArray.mk #[116, 101]) then PRun Tryz.prog 53 [] [.l 2 c_20] (post [.L 2] [] (fun l35 => (PRun Tryz.prog 53 [] [.l 2 c_21] (post [.L 2] [] (fun l36 => (Q (.t [.a [.i c_0, .i c_1, .i c_2, .i c_3, .i c_4, .i c_5, .i c_6, .i c_7, .i c_8, .i c_9, .i c_10, .i c_11, .i c_12, .i c_13, .i c_14, .i c_15, .i c_16, .i c_17, .i n, .i c_19, .l 2 l35, .l 2 l36], .u (.b true)]) [] : Prop))) : Prop))) else (bif ByteArray.toList name == ByteArray.toList (ByteArray.mk #[98, 97, 121]) then PRun Tryz.prog 53 [] [.l 2 c_20] (post [.L 2] [] (fun l37 => (PRun Tryz.prog 53 [] [.l 2 c_21] (post [.L 2] [] (fun l38 => (Q (.t [.a [.i c_0, .i c_1, .i c_2, .i c_3, .i c_4, .i c_5, .i c_6, .i c_7, .i c_8, .i c_9, .i c_10, .i c_11, .i c_12, .i c_13, .i c_14, .i c_15, .i c_16, .i c_17, .i c_18, .i n, .l 2 l37, .l 2 l38], .u (.b true)]) [] : Prop))) : Prop))) else Q (.t [.a [.i 0, .i 0, .i 0, .i 0, .i 0, .i 0, .i 0, .i 0, .i 0, .i 0, .i 0, .i 0, .i 0, .i 0, .i 0, .i 0, .i 0, .i 0, .i 0, .i 0, .l 2 [], .l 2 []], .u (.b false)]) []))))))))))))))))))) : PRun Tryz.prog 39 [] [.a [.i c_0, .i c_1, .i c_2, .i c_3, .i c_4, .i c_5, .i c_6, .i c_7, .i c_8, .i c_9, .i c_10, .i c_11, .i c_12, .i c_13, .i c_14, .i c_15, .i c_16, .i c_17, .i c_18, .i c_19, .l 2 c_20, .l 2 c_21], .u (.s name), .i n] Q :=
 funS2 mixTd2 Tryz.func39 (by kernel_rfl) (H := ⟨[], [], [48], [], [], false, 64, KN.no, false, SP.no⟩) (n := 3) (by kernel_rfl) hh
theorem S40 {Q : V → Mem → Prop} (hh : Q (.l 1 [[.s (ByteArray.mk #[109, 105, 110, 116])], [.s (ByteArray.mk #[115, 101, 101, 100])], [.s (ByteArray.mk #[100, 114, 97, 102, 116])], [.s (ByteArray.mk #[102, 111, 117, 110, 100])], [.s (ByteArray.mk #[101, 110, 114, 111, 108])], [.s (ByteArray.mk #[101, 120, 112, 101, 108])], [.s (ByteArray.mk #[112, 97, 121])], [.s (ByteArray.mk #[103, 105, 118, 101])], [.s (ByteArray.mk #[105, 110, 115, 116, 97, 108, 108])], [.s (ByteArray.mk #[112, 97, 117, 115, 101])], [.s (ByteArray.mk #[114, 101, 115, 117, 109, 101])], [.s (ByteArray.mk #[99, 97, 110, 99, 101, 108])], [.s (ByteArray.mk #[100, 101, 108, 105, 118, 101, 114])], [.s (ByteArray.mk #[105, 115, 115, 117, 101])], [.s (ByteArray.mk #[97, 99, 99, 101, 112, 116])], [.s (ByteArray.mk #[104, 97, 110, 100])], [.s (ByteArray.mk #[102, 97, 105, 108])], [.s (ByteArray.mk #[114, 101, 106, 101, 99, 116])], [.s (ByteArray.mk #[114, 101, 118, 111, 107, 101])], [.s (ByteArray.mk #[116, 105, 99, 107])], [.s (ByteArray.mk #[109, 111, 110, 101, 121])], [.s (ByteArray.mk #[115, 116, 97, 99, 107])], [.s (ByteArray.mk #[106, 111, 98])], [.s (ByteArray.mk #[100, 101, 97, 108])], [.s (ByteArray.mk #[99, 108, 111, 99, 107])]]) []) : PRun Tryz.prog 40 [] [] Q :=
 funS2 mixTd2 Tryz.func40 (by kernel_rfl) (H := ⟨[], [], [], [], [], false, 64, KN.no, false, SP.no⟩) (n := 2) (by kernel_rfl) hh
theorem S22 {kind : Int} {Q : V → Mem → Prop} (hh : ∀ k1 : Prop, ((Q (.l 1 []) []) → k1) → (bif kind == 1 then Q (.l 1 [[.s (ByteArray.mk #[97, 115])], [.s (ByteArray.mk #[110])]]) [] else (bif kind == 2 then Q (.l 1 [[.s (ByteArray.mk #[97, 115])], [.s (ByteArray.mk #[100, 105, 118])], [.s (ByteArray.mk #[112, 108, 97, 99, 101])], [.s (ByteArray.mk #[116, 121, 112, 101])], [.s (ByteArray.mk #[110])]]) [] else (bif kind == 3 then Q (.l 1 [[.s (ByteArray.mk #[97, 115])], [.s (ByteArray.mk #[100, 105, 118])], [.s (ByteArray.mk #[112, 108, 97, 99, 101])], [.s (ByteArray.mk #[116, 121, 112, 101])], [.s (ByteArray.mk #[109, 101])], [.s (ByteArray.mk #[116, 101])], [.s (ByteArray.mk #[114, 117, 110, 115])]]) [] else ∀ k2 : Bool → Prop, (∀ b1 : Bool, ((bif b1 then Q (.l 1 [[.s (ByteArray.mk #[119, 104, 111])]]) [] else (bif kind == 5 then Q (.l 1 [[.s (ByteArray.mk #[119, 104, 111])], [.s (ByteArray.mk #[97, 115])], [.s (ByteArray.mk #[116, 111])], [.s (ByteArray.mk #[114, 111, 108, 101, 115])]]) [] else (bif kind == 6 then Q (.l 1 [[.s (ByteArray.mk #[119, 104, 111])], [.s (ByteArray.mk #[97, 115])], [.s (ByteArray.mk #[116, 111])]]) [] else (bif kind == 7 then Q (.l 1 [[.s (ByteArray.mk #[119, 104, 111])], [.s (ByteArray.mk #[97, 115])], [.s (ByteArray.mk #[116, 111])], [.s (ByteArray.mk #[110])]]) [] else (bif kind == 8 then Q (.l 1 [[.s (ByteArray.mk #[119, 104, 111])], [.s (ByteArray.mk #[97, 115])], [.s (ByteArray.mk #[100, 105, 118])], [.s (ByteArray.mk #[116, 111])], [.s (ByteArray.mk #[105, 110, 116, 111])], [.s (ByteArray.mk #[112, 108, 97, 99, 101])], [.s (ByteArray.mk #[116, 121, 112, 101])], [.s (ByteArray.mk #[110])]]) [] else (bif kind == 9 then Q (.l 1 [[.s (ByteArray.mk #[119, 104, 111])], [.s (ByteArray.mk #[97, 115])], [.s (ByteArray.mk #[100, 105, 118])], [.s (ByteArray.mk #[98, 97, 121])], [.s (ByteArray.mk #[105, 100])], [.s (ByteArray.mk #[116, 121, 112, 101])], [.s (ByteArray.mk #[114, 117, 110, 115])], [.s (ByteArray.mk #[99, 111, 112, 105, 101, 115])]]) [] else ∀ k3 : Bool → Prop, (∀ b2 : Bool, ((bif b2 then Q (.l 1 [[.s (ByteArray.mk #[119, 104, 111])], [.s (ByteArray.mk #[105, 100])]]) [] else (bif kind == 14 then Q (.l 1 [[.s (ByteArray.mk #[119, 104, 111])], [.s (ByteArray.mk #[97, 115])], [.s (ByteArray.mk #[100, 105, 118])], [.s (ByteArray.mk #[116, 121, 112, 101])], [.s (ByteArray.mk #[116, 111])], [.s (ByteArray.mk #[112, 108, 97, 99, 101])], [.s (ByteArray.mk #[100, 101, 115, 116])], [.s (ByteArray.mk #[110])], [.s (ByteArray.mk #[112, 108, 101, 100, 103, 101])], [.s (ByteArray.mk #[108, 97, 115, 116, 115])], [.s (ByteArray.mk #[100, 97, 121, 115])]]) [] else (bif kind == 15 then Q (.l 1 [[.s (ByteArray.mk #[119, 104, 111])], [.s (ByteArray.mk #[97, 115])], [.s (ByteArray.mk #[100, 105, 118])], [.s (ByteArray.mk #[105, 100])]]) [] else (bif kind == 20 then Q (.l 1 [[.s (ByteArray.mk #[110])]]) [] else (bif kind == 21 then Q (.l 1 [[.s (ByteArray.mk #[119, 104, 111])], [.s (ByteArray.mk #[97, 115])]]) [] else (bif kind == 22 then Q (.l 1 [[.s (ByteArray.mk #[119, 104, 111])], [.s (ByteArray.mk #[97, 115])], [.s (ByteArray.mk #[100, 105, 118])], [.s (ByteArray.mk #[112, 108, 97, 99, 101])], [.s (ByteArray.mk #[116, 121, 112, 101])]]) [] else k1))))))) → k3 b2) → (bif kind == 10 then k3 (kind == 10) else (bif kind == 11 then k3 (kind == 11) else (bif kind == 12 then k3 (kind == 12) else (bif kind == 13 then k3 (kind == 13) else (bif kind == 16 then k3 (kind == 16) else (bif kind == 17 then k3 (kind == 17) else (bif kind == 18 then k3 (kind == 18) else (bif kind == 19 then k3 (kind == 19) else (bif kind == 23 then k3 (kind == 23) else k3 (kind == 24))))))))))))))))) → k2 b1) → (bif kind == 4 then k2 (kind == 4) else k2 (kind == 25)))))) : PRun Tryz.prog 22 [] [.i kind] Q :=
 funS2 mixTd2 Tryz.func22 (by kernel_rfl) (H := ⟨[], [((22, 10, 0), ⟨[(13, .B)], []⟩), ((22, 31, 0), ⟨[(32, .B)], []⟩), ((22, 42, 0), ⟨[], []⟩)], [], [], [], false, 64, KN.no, false, SP.no⟩) (n := 2) (by kernel_rfl) hh
theorem S19 {s : ByteArray} {Q : V → Mem → Prop} (hh : PRun Tryz.prog 40 [] [] (post [.L 1] [] (fun l1 => ∃ (I1 : Int → Prop) (f1 : Int → Nat), I1 0 ∧ (∀ x1 : Int, I1 x1 → (bif decide (x1 < (List.length l1 : Int)) then elL l1 x1 (fun r1 => dS (ug r1 0) (fun s1 => (bif ByteArray.toList s1 == ByteArray.toList s then Q (.i (IntKind.wrap .i64 (x1 + 1))) [] else I1 (IntKind.wrap .i64 (x1 + 1)) ∧ f1 (IntKind.wrap .i64 (x1 + 1)) < f1 x1))) else Q (.i 0) []))))) : PRun Tryz.prog 19 [] [.u (.s s)] Q :=
 funS2 mixTd2 Tryz.func19 (by kernel_rfl) (H := ⟨[((19, 3, 0), ⟨[(4, .I)], []⟩)], [], [], [], [], false, 64, KN.no, false, SP.no⟩) (n := 2) (by kernel_rfl) hh
theorem S54 {Q : V → Mem → Prop} (hh : Q (.l 1 [[.s (ByteArray.mk #[119, 104, 111])], [.s (ByteArray.mk #[97, 115])], [.s (ByteArray.mk #[100, 105, 118])], [.s (ByteArray.mk #[105, 100])], [.s (ByteArray.mk #[116, 111])], [.s (ByteArray.mk #[105, 110, 116, 111])], [.s (ByteArray.mk #[112, 108, 97, 99, 101])], [.s (ByteArray.mk #[100, 101, 115, 116])], [.s (ByteArray.mk #[116, 121, 112, 101])], [.s (ByteArray.mk #[110])], [.s (ByteArray.mk #[112, 108, 101, 100, 103, 101])], [.s (ByteArray.mk #[108, 97, 115, 116, 115])], [.s (ByteArray.mk #[100, 97, 121, 115])], [.s (ByteArray.mk #[114, 117, 110, 115])], [.s (ByteArray.mk #[99, 111, 112, 105, 101, 115])], [.s (ByteArray.mk #[114, 111, 108, 101, 115])], [.s (ByteArray.mk #[109, 101])], [.s (ByteArray.mk #[116, 101])], [.s (ByteArray.mk #[98, 97, 121])]]) []) : PRun Tryz.prog 54 [] [] Q :=
 funS2 mixTd2 Tryz.func54 (by kernel_rfl) (H := ⟨[], [], [], [], [], false, 64, KN.no, false, SP.no⟩) (n := 2) (by kernel_rfl) hh
theorem S29 {c_0 : Int} {c_1 : Int} {c_2 : Int} {c_3 : Int} {c_4 : Int} {c_5 : Int} {c_6 : Int} {c_7 : Int} {c_8 : Int} {c_9 : Int} {c_10 : Int} {c_11 : Int} {c_12 : Int} {c_13 : Int} {c_14 : Int} {c_15 : Int} {c_16 : Int} {c_17 : Int} {c_18 : Int} {c_19 : Int} {c_20 : List (List U)} {c_21 : List (List U)} {Q : V → Mem → Prop} (hh : Q (.l 1 [[.n c_1], [.n c_2], [.n c_3], [.n c_4], [.n c_5], [.n c_6], [.n c_7], [.n c_8], [.n c_9], [.n c_10], [.n c_11], [.n c_12], [.n c_13], [.n c_14], [.n c_15], [.n c_16], [.n c_17], [.n c_18], [.n c_19]]) []) : PRun Tryz.prog 29 [] [.a [.i c_0, .i c_1, .i c_2, .i c_3, .i c_4, .i c_5, .i c_6, .i c_7, .i c_8, .i c_9, .i c_10, .i c_11, .i c_12, .i c_13, .i c_14, .i c_15, .i c_16, .i c_17, .i c_18, .i c_19, .l 2 c_20, .l 2 c_21]] Q :=
 funS2 mixTd2 Tryz.func29 (by kernel_rfl) (H := ⟨[], [], [], [], [], false, 64, KN.no, false, SP.no⟩) (n := 2) (by kernel_rfl) hh
theorem S42 {c_0 : Int} {c_1 : Int} {c_2 : Int} {c_3 : Int} {c_4 : Int} {c_5 : Int} {c_6 : Int} {c_7 : Int} {c_8 : Int} {c_9 : Int} {c_10 : Int} {c_11 : Int} {c_12 : Int} {c_13 : Int} {c_14 : Int} {c_15 : Int} {c_16 : Int} {c_17 : Int} {c_18 : Int} {c_19 : Int} {c_20 : List (List U)} {c_21 : List (List U)} {l : List (List U)} {Q : V → Mem → Prop} (hh : elL l 0 (fun r1 => dI .i64 (ug r1 0) (fun x1 => elL l 1 (fun r2 => dI .i64 (ug r2 0) (fun x2 => elL l 2 (fun r3 => dI .i64 (ug r3 0) (fun x3 => elL l 3 (fun r4 => dI .i64 (ug r4 0) (fun x4 => elL l 4 (fun r5 => dI .i64 (ug r5 0) (fun x5 => elL l 5 (fun r6 => dI .i64 (ug r6 0) (fun x6 => elL l 6 (fun r7 => dI .i64 (ug r7 0) (fun x7 => elL l 7 (fun r8 => dI .i64 (ug r8 0) (fun x8 => elL l 8 (fun r9 => dI .i64 (ug r9 0) (fun x9 => elL l 9 (fun r10 => dI .i64 (ug r10 0) (fun x10 => elL l 10 (fun r11 => dI .i64 (ug r11 0) (fun x11 => elL l 11 (fun r12 => dI .i64 (ug r12 0) (fun x12 => elL l 12 (fun r13 => dI .i64 (ug r13 0) (fun x13 => elL l 13 (fun r14 => dI .i64 (ug r14 0) (fun x14 => elL l 14 (fun r15 => dI .i64 (ug r15 0) (fun x15 => elL l 15 (fun r16 => dI .i64 (ug r16 0) (fun x16 => elL l 16 (fun r17 => dI .i64 (ug r17 0) (fun x17 => elL l 17 (fun r18 => dI .i64 (ug r18 0) (fun x18 => elL l 18 (fun r19 => dI .i64 (ug r19 0) (fun x19 => Q (.a [.i c_0, .i x1, .i x2, .i x3, .i x4, .i x5, .i x6, .i x7, .i x8, .i x9, .i x10, .i x11, .i x12, .i x13, .i x14, .i x15, .i x16, .i x17, .i x18, .i x19, .l 2 c_20, .l 2 c_21]) []))))))))))))))))))))))))))))))))))))))) : PRun Tryz.prog 42 [] [.a [.i c_0, .i c_1, .i c_2, .i c_3, .i c_4, .i c_5, .i c_6, .i c_7, .i c_8, .i c_9, .i c_10, .i c_11, .i c_12, .i c_13, .i c_14, .i c_15, .i c_16, .i c_17, .i c_18, .i c_19, .l 2 c_20, .l 2 c_21], .l 1 l] Q :=
 funS2 mixTd2 Tryz.func42 (by kernel_rfl) (H := ⟨[], [], [], [], [], false, 64, KN.no, false, SP.no⟩) (n := 2) (by kernel_rfl) hh
theorem S41 {field : ByteArray} {Q : V → Mem → Prop} (hh : PRun Tryz.prog 54 [] [] (post [.L 1] [] (fun l1 => ∃ (I1 : Int → Prop) (f1 : Int → Nat), I1 0 ∧ (∀ x1 : Int, I1 x1 → (bif decide (x1 < (List.length l1 : Int)) then elL l1 x1 (fun r1 => dS (ug r1 0) (fun s1 => (bif ByteArray.toList s1 == ByteArray.toList field then Q (.i x1) [] else I1 (IntKind.wrap .i64 (x1 + 1)) ∧ f1 (IntKind.wrap .i64 (x1 + 1)) < f1 x1))) else Q (.i (-1)) []))))) : PRun Tryz.prog 41 [] [.u (.s field)] Q :=
 funS2 mixTd2 Tryz.func41 (by kernel_rfl) (H := ⟨[((41, 3, 0), ⟨[(4, .I)], []⟩)], [], [], [], [], false, 64, KN.no, false, SP.no⟩) (n := 2) (by kernel_rfl) hh
theorem S11 {a_0 : Int} {a_1 : Int} {a_2 : Int} {a_3 : Int} {a_4 : Int} {a_5 : Int} {a_6 : Int} {a_7 : Int} {a_8 : Int} {a_9 : Int} {a_10 : Int} {a_11 : Int} {a_12 : Int} {a_13 : Int} {a_14 : Int} {a_15 : Int} {a_16 : Int} {a_17 : Int} {a_18 : Int} {a_19 : Int} {a_20 : List (List U)} {a_21 : List (List U)} {b_0 : Int} {b_1 : Int} {b_2 : Int} {b_3 : Int} {b_4 : Int} {b_5 : Int} {b_6 : Int} {b_7 : Int} {b_8 : Int} {b_9 : Int} {b_10 : Int} {b_11 : Int} {b_12 : Int} {b_13 : Int} {b_14 : Int} {b_15 : Int} {b_16 : Int} {b_17 : Int} {b_18 : Int} {b_19 : Int} {b_20 : List (List U)} {b_21 : List (List U)} {Q : V → Mem → Prop} (hh : PRun Tryz.prog 29 [] [.a [.i a_0, .i a_1, .i a_2, .i a_3, .i a_4, .i a_5, .i a_6, .i a_7, .i a_8, .i a_9, .i a_10, .i a_11, .i a_12, .i a_13, .i a_14, .i a_15, .i a_16, .i a_17, .i a_18, .i a_19, .l 2 a_20, .l 2 a_21]] (post [.L 1] [] (fun l1 => (PRun Tryz.prog 29 [] [.a [.i b_0, .i b_1, .i b_2, .i b_3, .i b_4, .i b_5, .i b_6, .i b_7, .i b_8, .i b_9, .i b_10, .i b_11, .i b_12, .i b_13, .i b_14, .i b_15, .i b_16, .i b_17, .i b_18, .i b_19, .l 2 b_20, .l 2 b_21]] (post [.L 1] [] (fun l2 => ∃ (I1 : Int → Prop) (f1 : Int → Nat), I1 0 ∧ (∀ x1 : Int, I1 x1 → (bif decide (x1 < (List.length l1 : Int)) then (bif decide (x1 < (List.length l2 : Int)) then elL l1 x1 (fun r1 => dI .i64 (ug r1 0) (fun x2 => elL l2 x1 (fun r2 => dI .i64 (ug r2 0) (fun x3 => (bif x2 != x3 then Q (.u (.b false)) [] else I1 (IntKind.wrap .i64 (x1 + 1)) ∧ f1 (IntKind.wrap .i64 (x1 + 1)) < f1 x1))))) else (bif a_0 == b_0 then PRun Tryz.prog 12 [] [.l 2 a_20, .l 2 b_20] (post [.B] [] (fun b1 => (bif b1 then PRun Tryz.prog 12 [] [.l 2 a_21, .l 2 b_21] (post [.B] [] (fun b2 => (Q (.u (.b b2)) [] : Prop))) else Q (.u (.b false)) [] : Prop))) else Q (.u (.b false)) [])) else (bif a_0 == b_0 then PRun Tryz.prog 12 [] [.l 2 a_20, .l 2 b_20] (post [.B] [] (fun b3 => (bif b3 then PRun Tryz.prog 12 [] [.l 2 a_21, .l 2 b_21] (post [.B] [] (fun b4 => (Q (.u (.b b4)) [] : Prop))) else Q (.u (.b false)) [] : Prop))) else Q (.u (.b false)) []))))) : Prop)))) : PRun Tryz.prog 11 [] [.a [.i a_0, .i a_1, .i a_2, .i a_3, .i a_4, .i a_5, .i a_6, .i a_7, .i a_8, .i a_9, .i a_10, .i a_11, .i a_12, .i a_13, .i a_14, .i a_15, .i a_16, .i a_17, .i a_18, .i a_19, .l 2 a_20, .l 2 a_21], .a [.i b_0, .i b_1, .i b_2, .i b_3, .i b_4, .i b_5, .i b_6, .i b_7, .i b_8, .i b_9, .i b_10, .i b_11, .i b_12, .i b_13, .i b_14, .i b_15, .i b_16, .i b_17, .i b_18, .i b_19, .l 2 b_20, .l 2 b_21]] Q :=
 funS2 mixTd2 Tryz.func11 (by kernel_rfl) (H := ⟨[((11, 3, 2), ⟨[(7, .I)], []⟩)], [], [], [], [], false, 64, KN.no, false, SP.no⟩) (n := 2) (by kernel_rfl) hh
end Go.Proofs.YtaogfopaalancaaGreatDoor
/- What the functions do, written by program (psv.py) and held against the program by the kernel. -/
set_option linter.unusedVariables false
set_option maxRecDepth 100000
namespace Go.Proofs.YtaogfopaalancaaGreatDoor
open Go Go.Proofs
theorem mixTd4 : Tryz.prog.follows .mixedOrders = true := by kernel_rfl
theorem S23 {c_0 : Int} {c_1 : Int} {c_2 : Int} {c_3 : Int} {c_4 : Int} {c_5 : Int} {c_6 : Int} {c_7 : Int} {c_8 : Int} {c_9 : Int} {c_10 : Int} {c_11 : Int} {c_12 : Int} {c_13 : Int} {c_14 : Int} {c_15 : Int} {c_16 : Int} {c_17 : Int} {c_18 : Int} {c_19 : Int} {c_20 : List (List U)} {c_21 : List (List U)} {field : ByteArray} {n : Int} {Q : V → Mem → Prop} (hh : PRun Tryz.prog 41 [] [.u (.s field)] (post [.I] [] (fun x1 => (bif decide (x1 < 0) then Q (.t [.a [.i 0, .i 0, .i 0, .i 0, .i 0, .i 0, .i 0, .i 0, .i 0, .i 0, .i 0, .i 0, .i 0, .i 0, .i 0, .i 0, .i 0, .i 0, .i 0, .i 0, .l 2 [], .l 2 []], .u (.b false)]) [] else 0 ≤ x1 ∧ x1 < 19 ∧ (PRun Tryz.prog 42 [] [.a [.i c_0, .i c_1, .i c_2, .i c_3, .i c_4, .i c_5, .i c_6, .i c_7, .i c_8, .i c_9, .i c_10, .i c_11, .i c_12, .i c_13, .i c_14, .i c_15, .i c_16, .i c_17, .i c_18, .i c_19, .l 2 c_20, .l 2 c_21], .l 1 (List.set [[.n c_1], [.n c_2], [.n c_3], [.n c_4], [.n c_5], [.n c_6], [.n c_7], [.n c_8], [.n c_9], [.n c_10], [.n c_11], [.n c_12], [.n c_13], [.n c_14], [.n c_15], [.n c_16], [.n c_17], [.n c_18], [.n c_19]] (Int.toNat x1) [.n n])] (post [.agg [.i .i64, .i .i64, .i .i64, .i .i64, .i .i64, .i .i64, .i .i64, .i .i64, .i .i64, .i .i64, .i .i64, .i .i64, .i .i64, .i .i64, .i .i64, .i .i64, .i .i64, .i .i64, .i .i64, .i .i64, .l 2, .l 2]] [] (fun x2 x3 x4 x5 x6 x7 x8 x9 x10 x11 x12 x13 x14 x15 x16 x17 x18 x19 x20 x21 l1 l2 => (Q (.t [.a [.i x2, .i x3, .i x4, .i x5, .i x6, .i x7, .i x8, .i x9, .i x10, .i x11, .i x12, .i x13, .i x14, .i x15, .i x16, .i x17, .i x18, .i x19, .i x20, .i x21, .l 2 l1, .l 2 l2], .u (.b true)]) [] : Prop)))) : Prop)))) : PRun Tryz.prog 23 [] [.a [.i c_0, .i c_1, .i c_2, .i c_3, .i c_4, .i c_5, .i c_6, .i c_7, .i c_8, .i c_9, .i c_10, .i c_11, .i c_12, .i c_13, .i c_14, .i c_15, .i c_16, .i c_17, .i c_18, .i c_19, .l 2 c_20, .l 2 c_21], .u (.s field), .i n] Q :=
 funS2 mixTd4 Tryz.func23 (by kernel_rfl) (H := ⟨[], [], [29], [], [], false, 64, KN.no, false, SP.no⟩) (n := 3) (by kernel_rfl) hh
end Go.Proofs.YtaogfopaalancaaGreatDoor
/- What the functions do, written by program (psv.py) and held against the program by the kernel. -/
set_option linter.unusedVariables false
set_option maxRecDepth 100000
namespace Go.Proofs.YtaogfopaalancaaGreatDoor
open Go Go.Proofs
theorem mixTd5 : Tryz.prog.follows .mixedOrders = true := by kernel_rfl
theorem S38 {s : List (List U)} {v : ByteArray} {Q : V → Mem → Prop} (hh : ∃ (I1 : Int → Prop) (f1 : Int → Nat), I1 0 ∧ (∀ x1 : Int, I1 x1 → (bif decide (x1 < (List.length s : Int)) then elL s x1 (fun r1 => dS (ug r1 0) (fun s1 => (bif ByteArray.toList v == ByteArray.toList s1 then Q (.u (.b (decide (x1 ≥ 0)))) [] else I1 (IntKind.wrap .i64 (x1 + 1)) ∧ f1 (IntKind.wrap .i64 (x1 + 1)) < f1 x1))) else Q (.u (.b false)) []))) : PRun Tryz.prog 38 [] [.l 1 s, .u (.s v)] Q :=
 funS2 mixTd5 Tryz.func38 (by kernel_rfl) (H := ⟨[((52, 2, 0), ⟨[(8, .I)], []⟩)], [], [52], [], [], false, 64, KN.no, false, SP.no⟩) (n := 3) (by kernel_rfl) hh
theorem S30 {c_0 : Int} {c_1 : Int} {c_2 : Int} {c_3 : Int} {c_4 : Int} {c_5 : Int} {c_6 : Int} {c_7 : Int} {c_8 : Int} {c_9 : Int} {c_10 : Int} {c_11 : Int} {c_12 : Int} {c_13 : Int} {c_14 : Int} {c_15 : Int} {c_16 : Int} {c_17 : Int} {c_18 : Int} {c_19 : Int} {c_20 : List (List U)} {c_21 : List (List U)} {Q : V → Mem → Prop} (hh : PRun Tryz.prog 32 [] [.i c_0] (post [.L 1] [] (fun l1 => ∀ k1 : Bool → Prop, (∀ b1 : Bool, (∀ k2 : Bool → Prop, (∀ b2 : Bool, ((bif (List.length l1 : Int) == 0 then Q (.i 1) [] else (bif !b2 then Q (.i 1) [] else PRun Tryz.prog 47 [] [.u (.s (ByteArray.mk #[119, 104, 111, 32, 97, 115, 32, 100, 105, 118, 32, 105, 100, 32, 116, 111, 32, 105, 110, 116, 111, 32, 112, 108, 97, 99, 101, 32, 100, 101, 115, 116, 32, 116, 121, 112, 101, 32, 110, 32, 112, 108, 101, 100, 103, 101, 32, 108, 97, 115, 116, 115, 32, 100, 97, 121, 115, 32, 114, 117, 110, 115, 32, 99, 111, 112, 105, 101, 115, 32, 114, 111, 108, 101, 115, 32, 109, 101, 32, 116, 101, 32, 98, 97, 121]))] (post [.L 1] [] (fun l2 => ∃ (I1 : Int → Prop) (f1 : Int → Nat), I1 0 ∧ (∀ x1 : Int, I1 x1 → (bif decide (x1 < (List.length l2 : Int)) then elL l2 x1 (fun r1 => dS (ug r1 0) (fun s1 => (bif ByteArray.toList s1 == ByteArray.toList (ByteArray.mk #[119, 104, 111]) then (bif c_1 != 0 then PRun Tryz.prog 38 [] [.l 1 l1, .u (.s s1)] (post [.B] [] (fun b3 => (bif !b3 then Q (.i 1) [] else I1 (IntKind.wrap .i64 (x1 + 1)) ∧ f1 (IntKind.wrap .i64 (x1 + 1)) < f1 x1 : Prop))) else I1 (IntKind.wrap .i64 (x1 + 1)) ∧ f1 (IntKind.wrap .i64 (x1 + 1)) < f1 x1) else (bif ByteArray.toList s1 == ByteArray.toList (ByteArray.mk #[97, 115]) then (bif c_2 != 0 then PRun Tryz.prog 38 [] [.l 1 l1, .u (.s s1)] (post [.B] [] (fun b4 => (bif !b4 then Q (.i 1) [] else I1 (IntKind.wrap .i64 (x1 + 1)) ∧ f1 (IntKind.wrap .i64 (x1 + 1)) < f1 x1 : Prop))) else I1 (IntKind.wrap .i64 (x1 + 1)) ∧ f1 (IntKind.wrap .i64 (x1 + 1)) < f1 x1) else (bif ByteArray.toList s1 == ByteArray.toList (ByteArray.mk #[100, 105, 118]) then (bif c_3 != 0 then PRun Tryz.prog 38 [] [.l 1 l1, .u (.s s1)] (post [.B] [] (fun b5 => (bif !b5 then Q (.i 1) [] else I1 (IntKind.wrap .i64 (x1 + 1)) ∧ f1 (IntKind.wrap .i64 (x1 + 1)) < f1 x1 : Prop))) else I1 (IntKind.wrap .i64 (x1 + 1)) ∧ f1 (IntKind.wrap .i64 (x1 + 1)) < f1 x1) else (bif ByteArray.toList s1 == ByteArray.toList (ByteArray.mk #[105, 100]) then (bif c_4 != 0 then PRun Tryz.prog 38 [] [.l 1 l1, .u (.s s1)] (post [.B] [] (fun b6 => (bif !b6 then Q (.i 1) [] else I1 (IntKind.wrap .i64 (x1 + 1)) ∧ f1 (IntKind.wrap .i64 (x1 + 1)) < f1 x1 : Prop))) else I1 (IntKind.wrap .i64 (x1 + 1)) ∧ f1 (IntKind.wrap .i64 (x1 + 1)) < f1 x1) else (bif ByteArray.toList s1 == ByteArray.toList (ByteArray.mk #[116, 111]) then (bif c_5 != 0 then PRun Tryz.prog 38 [] [.l 1 l1, .u (.s s1)] (post [.B] [] (fun b7 => (bif !b7 then Q (.i 1) [] else I1 (IntKind.wrap .i64 (x1 + 1)) ∧ f1 (IntKind.wrap .i64 (x1 + 1)) < f1 x1 : Prop))) else I1 (IntKind.wrap .i64 (x1 + 1)) ∧ f1 (IntKind.wrap .i64 (x1 + 1)) < f1 x1) else (bif ByteArray.toList s1 == ByteArray.toList (ByteArray.mk #[105, 110, 116, 111]) then (bif c_6 != 0 then PRun Tryz.prog 38 [] [.l 1 l1, .u (.s s1)] (post [.B] [] (fun b8 => (bif !b8 then Q (.i 1) [] else I1 (IntKind.wrap .i64 (x1 + 1)) ∧ f1 (IntKind.wrap .i64 (x1 + 1)) < f1 x1 : Prop))) else I1 (IntKind.wrap .i64 (x1 + 1)) ∧ f1 (IntKind.wrap .i64 (x1 + 1)) < f1 x1) else (bif ByteArray.toList s1 == ByteArray.toList (ByteArray.mk #[112, 108, 97, 99, 101]) then (bif c_7 != 0 then PRun Tryz.prog 38 [] [.l 1 l1, .u (.s s1)] (post [.B] [] (fun b9 => (bif !b9 then Q (.i 1) [] else I1 (IntKind.wrap .i64 (x1 + 1)) ∧ f1 (IntKind.wrap .i64 (x1 + 1)) < f1 x1 : Prop))) else I1 (IntKind.wrap .i64 (x1 + 1)) ∧ f1 (IntKind.wrap .i64 (x1 + 1)) < f1 x1) else (bif ByteArray.toList s1 == ByteArray.toList (ByteArray.mk #[100, 101, 115, 116]) then (bif c_8 != 0 then PRun Tryz.prog 38 [] [.l 1 l1, .u (.s s1)] (post [.B] [] (fun b10 => (bif !b10 then Q (.i 1) [] else I1 (IntKind.wrap .i64 (x1 + 1)) ∧ f1 (IntKind.wrap .i64 (x1 + 1)) < f1 x1 : Prop))) else I1 (IntKind.wrap .i64 (x1 + 1)) ∧ f1 (IntKind.wrap .i64 (x1 + 1)) < f1 x1) else (bif ByteArray.toList s1 == ByteArray.toList (ByteArray.mk #[116, 121, 112, 101]) then (bif c_9 != 0 then PRun Tryz.prog 38 [] [.l 1 l1, .u (.s s1)] (post [.B] [] (fun b11 => (bif !b11 then Q (.i 1) [] else I1 (IntKind.wrap .i64 (x1 + 1)) ∧ f1 (IntKind.wrap .i64 (x1 + 1)) < f1 x1 : Prop))) else I1 (IntKind.wrap .i64 (x1 + 1)) ∧ f1 (IntKind.wrap .i64 (x1 + 1)) < f1 x1) else (bif ByteArray.toList s1 == ByteArray.toList (ByteArray.mk #[110]) then (bif c_10 != 0 then PRun Tryz.prog 38 [] [.l 1 l1, .u (.s s1)] (post [.B] [] (fun b12 => (bif !b12 then Q (.i 1) [] else I1 (IntKind.wrap .i64 (x1 + 1)) ∧ f1 (IntKind.wrap .i64 (x1 + 1)) < f1 x1 : Prop))) else I1 (IntKind.wrap .i64 (x1 + 1)) ∧ f1 (IntKind.wrap .i64 (x1 + 1)) < f1 x1) else (bif ByteArray.toList s1 == ByteArray.toList (ByteArray.mk #[112, 108, 101, 100, 103, 101]) then (bif c_11 != 0 then PRun Tryz.prog 38 [] [.l 1 l1, .u (.s s1)] (post [.B] [] (fun b13 => (bif !b13 then Q (.i 1) [] else I1 (IntKind.wrap .i64 (x1 + 1)) ∧ f1 (IntKind.wrap .i64 (x1 + 1)) < f1 x1 : Prop))) else I1 (IntKind.wrap .i64 (x1 + 1)) ∧ f1 (IntKind.wrap .i64 (x1 + 1)) < f1 x1) else (bif ByteArray.toList s1 == ByteArray.toList (ByteArray.mk #[108, 97, 115, 116, 115]) then (bif c_12 != 0 then PRun Tryz.prog 38 [] [.l 1 l1, .u (.s s1)] (post [.B] [] (fun b14 => (bif !b14 then Q (.i 1) [] else I1 (IntKind.wrap .i64 (x1 + 1)) ∧ f1 (IntKind.wrap .i64 (x1 + 1)) < f1 x1 : Prop))) else I1 (IntKind.wrap .i64 (x1 + 1)) ∧ f1 (IntKind.wrap .i64 (x1 + 1)) < f1 x1) else (bif ByteArray.toList s1 == ByteArray.toList (ByteArray.mk #[100, 97, 121, 115]) then (bif c_13 != 0 then PRun Tryz.prog 38 [] [.l 1 l1, .u (.s s1)] (post [.B] [] (fun b15 => (bif !b15 then Q (.i 1) [] else I1 (IntKind.wrap .i64 (x1 + 1)) ∧ f1 (IntKind.wrap .i64 (x1 + 1)) < f1 x1 : Prop))) else I1 (IntKind.wrap .i64 (x1 + 1)) ∧ f1 (IntKind.wrap .i64 (x1 + 1)) < f1 x1) else (bif ByteArray.toList s1 == ByteArray.toList (ByteArray.mk #[114, 117, 110, 115]) then (bif c_14 != 0 then PRun Tryz.prog 38 [] [.l 1 l1, .u (.s s1)] (post [.B] [] (fun b16 => (bif !b16 then Q (.i 1) [] else I1 (IntKind.wrap .i64 (x1 + 1)) ∧ f1 (IntKind.wrap .i64 (x1 + 1)) < f1 x1 : Prop))) else I1 (IntKind.wrap .i64 (x1 + 1)) ∧ f1 (IntKind.wrap .i64 (x1 + 1)) < f1 x1) else (bif ByteArray.toList s1 == ByteArray.toList (ByteArray.mk #[99, 111, 112, 105, 101, 115]) then (bif c_15 != 0 then PRun Tryz.prog 38 [] [.l 1 l1, .u (.s s1)] (post [.B] [] (fun b17 => (bif !b17 then Q (.i 1) [] else I1 (IntKind.wrap .i64 (x1 + 1)) ∧ f1 (IntKind.wrap .i64 (x1 + 1)) < f1 x1 : Prop))) else I1 (IntKind.wrap .i64 (x1 + 1)) ∧ f1 (IntKind.wrap .i64 (x1 + 1)) < f1 x1) else (bif ByteArray.toList s1 == ByteArray.toList (ByteArray.mk #[114, 111, 108, 101, 115]) then (bif c_16 != 0 then PRun Tryz.prog 38 [] [.l 1 l1, .u (.s s1)] (post [.B] [] (fun b18 => (bif !b18 then Q (.i 1) [] else I1 (IntKind.wrap .i64 (x1 + 1)) ∧ f1 (IntKind.wrap .i64 (x1 + 1)) < f1 x1 : Prop))) else I1 (IntKind.wrap .i64 (x1 + 1)) ∧ f1 (IntKind.wrap .i64 (x1 + 1)) < f1 x1) else (bif ByteArray.toList s1 == ByteArray.toList (ByteArray.mk #[109, 101]) then (bif c_17 != 0 then PRun Tryz.prog 38 [] [.l 1 l1, .u (.s s1)] (post [.B] [] (fun b19 => (bif !b19 then Q (.i 1) [] else I1 (IntKind.wrap .i64 (x1 + 1)) ∧ f1 (IntKind.wrap .i64 (x1 + 1)) < f1 x1 : Prop))) else I1 (IntKind.wrap .i64 (x1 + 1)) ∧ f1 (IntKind.wrap .i64 (x1 + 1)) < f1 x1) else (bif ByteArray.toList s1 == ByteArray.toList (ByteArray.mk #[116, 101]) then (bif c_18 != 0 then PRun Tryz.prog 38 [] [.l 1 l1, .u (.s s1)] (post [.B] [] (fun b20 => (bif !b20 then Q (.i 1) [] else I1 (IntKind.wrap .i64 (x1 + 1)) ∧ f1 (IntKind.wrap .i64 (x1 + 1)) < f1 x1 : Prop))) else I1 (IntKind.wrap .i64 (x1 + 1)) ∧ f1 (IntKind.wrap .i64 (x1 + 1)) < f1 x1) else (bif ByteArray.toList s1 == ByteArray.toList (ByteArray.mk #[98, 97, 121]) then (bif c_19 != 0 then PRun Tryz.prog 38 [] [.l 1 l1, .u (.s s1)] (post [.B] [] (fun b21 => (bif !b21 then Q (.i 1) [] else I1 (IntKind.wrap .i64 (x1 + 1)) ∧ f1 (IntKind.wrap .i64 (x1 + 1)) < f1 x1 : Prop))) else I1 (IntKind.wrap .i64 (x1 + 1)) ∧ f1 (IntKind.wrap .i64 (x1 + 1)) < f1 x1) else False))))))))))))))))))))) else Q (.i 0) []))))))) → k2 b2) → (bif c_0 != 14 then k2 (IntKind.wrap .i64 ((List.length c_20 : Int) + (List.length c_21 : Int)) == 0) else k2 b1)) → k1 b1) → (bif decide ((List.length c_20 : Int) ≤ 8) then k1 (decide ((List.length c_21 : Int) ≤ 8)) else k1 false)))) : PRun Tryz.prog 30 [] [.a [.i c_0, .i c_1, .i c_2, .i c_3, .i c_4, .i c_5, .i c_6, .i c_7, .i c_8, .i c_9, .i c_10, .i c_11, .i c_12, .i c_13, .i c_14, .i c_15, .i c_16, .i c_17, .i c_18, .i c_19, .l 2 c_20, .l 2 c_21]] Q :=
 funS2 mixTd5 Tryz.func30 (by kernel_rfl) (H := ⟨[((30, 8, 1), ⟨[(40, .I)], []⟩)], [((30, 3, 1), ⟨[(4, .B)], []⟩), ((30, 5, 1), ⟨[(4, .B)], []⟩)], [48], [], [], false, 64, KN.no, false, SP.no⟩) (n := 3) (by kernel_rfl) hh
theorem S17 {c_0 : Int} {c_1 : Int} {c_2 : Int} {c_3 : Int} {c_4 : Int} {c_5 : Int} {c_6 : Int} {c_7 : Int} {c_8 : Int} {c_9 : Int} {c_10 : Int} {c_11 : Int} {c_12 : Int} {c_13 : Int} {c_14 : Int} {c_15 : Int} {c_16 : Int} {c_17 : Int} {c_18 : Int} {c_19 : Int} {c_20 : List (List U)} {c_21 : List (List U)} {name : ByteArray} {text : ByteArray} {Q : V → Mem → Prop} (hh : bif c_0 == 14 then (bif ByteArray.toList name == ByteArray.toList (ByteArray.mk #[103, 105, 118, 101, 115]) then PRun Tryz.prog 9 [] [.u (.s text)] (post [.L 2, .B] [] (fun l1 b1 => (bif ByteArray.toList name == ByteArray.toList (ByteArray.mk #[103, 105, 118, 101, 115]) then Q (.t [.a [.i c_0, .i c_1, .i c_2, .i c_3, .i c_4, .i c_5, .i c_6, .i c_7, .i c_8, .i c_9, .i c_10, .i c_11, .i c_12, .i c_13, .i c_14, .i c_15, .i c_16, .i c_17, .i c_18, .i c_19, .l 2 l1, .l 2 c_21], .u (.b b1)]) [] else Q (.t [.a [.i c_0, .i c_1, .i c_2, .i c_3, .i c_4, .i c_5, .i c_6, .i c_7, .i c_8, .i c_9, .i c_10, .i c_11, .i c_12, .i c_13, .i c_14, .i c_15, .i c_16, .i c_17, .i c_18, .i c_19, .l 2 c_20, .l 2 l1], .u (.b b1)]) [] : Prop))) else (bif ByteArray.toList name == ByteArray.toList (ByteArray.mk #[119, 97, 110, 116, 115]) then PRun Tryz.prog 9 [] [.u (.s text)] (post [.L 2, .B] [] (fun l2 b2 => (bif ByteArray.toList name == ByteArray.toList (ByteArray.mk #[103, 105, 118, 101, 115]) then Q (.t [.a [.i c_0, .i c_1, .i c_2, .i c_3, .i c_4, .i c_5, .i c_6, .i c_7, .i c_8, .i c_9, .i c_10, .i c_11, .i c_12, .i c_13, .i c_14, .i c_15, .i c_16, .i c_17, .i c_18, .i c_19, .l 2 l2, .l 2 c_21], .u (.b b2)]) [] else Q (.t [.a [.i c_0, .i c_1, .i c_2, .i c_3, .i c_4, .i c_5, .i c_6, .i c_7, .i c_8, .i c_9, .i c_10, .i c_11, .i c_12, .i c_13, .i c_14, .i c_15, .i c_16, .i c_17, .i c_18, .i c_19, .l 2 c_20, .l 2 l2], .u (.b b2)]) [] : Prop))) else PRun Tryz.prog 7 [] [.u (.s text)] (post [.I, .B] [] (fun x1 b3 => (bif !b3 then Q (.t [.a [.i c_0, .i c_1, .i c_2, .i c_3, .i c_4, .i c_5, .i c_6, .i c_7, .i c_8, .i c_9, .i c_10, .i c_11, .i c_12, .i c_13, .i c_14, .i c_15, .i c_16, .i c_17, .i c_18, .i c_19, .l 2 c_20, .l 2 c_21], .u (.b false)]) [] else PRun Tryz.prog 32 [] [.i c_0] (post [.L 1] [] (fun l3 => (PRun Tryz.prog 38 [] [.l 1 l3, .u (.s name)] (post [.B] [] (fun b4 => (bif !b4 then Q (.t [.a [.i c_0, .i c_1, .i c_2, .i c_3, .i c_4, .i c_5, .i c_6, .i c_7, .i c_8, .i c_9, .i c_10, .i c_11, .i c_12, .i c_13, .i c_14, .i c_15, .i c_16, .i c_17, .i c_18, .i c_19, .l 2 c_20, .l 2 c_21], .u (.b false)]) [] else PRun Tryz.prog 39 [] [.a [.i c_0, .i c_1, .i c_2, .i c_3, .i c_4, .i c_5, .i c_6, .i c_7, .i c_8, .i c_9, .i c_10, .i c_11, .i c_12, .i c_13, .i c_14, .i c_15, .i c_16, .i c_17, .i c_18, .i c_19, .l 2 c_20, .l 2 c_21], .u (.s name), .i x1] (post [.agg [.i .i64, .i .i64, .i .i64, .i .i64, .i .i64, .i .i64, .i .i64, .i .i64, .i .i64, .i .i64, .i .i64, .i .i64, .i .i64, .i .i64, .i .i64, .i .i64, .i .i64, .i .i64, .i .i64, .i .i64, .l 2, .l 2], .B] [] (fun x2 x3 x4 x5 x6 x7 x8 x9 x10 x11 x12 x13 x14 x15 x16 x17 x18 x19 x20 x21 l4 l5 b5 => (Q (.t [.a [.i x2, .i x3, .i x4, .i x5, .i x6, .i x7, .i x8, .i x9, .i x10, .i x11, .i x12, .i x13, .i x14, .i x15, .i x16, .i x17, .i x18, .i x19, .i x20, .i x21, .l 2 l4, .l 2 l5], .u (.b b5)]) [] : Prop))) : Prop))) : Prop))) : Prop))))) else PRun Tryz.prog 7 [] [.u (.s text)] (post [.I, .B] [] (fun x22 b6 => (bif !b6 then Q (.t [.a [.i c_0, .i c_1, .i c_2, .i c_3, .i c_4, .i c_5, .i c_6, .i c_7, .i c_8, .i c_9, .i c_10, .i c_11, .i c_12, .i c_13, .i c_14, .i c_15, .i c_16, .i c_17, .i c_18, .i c_19, .l 2 c_20, .l 2 c_21], .u (.b false)]) [] else PRun Tryz.prog 32 [] [.i c_0] (post [.L 1] [] (fun l6 => (PRun Tryz.prog 38 [] [.l 1 l6, .u (.s name)] (post [.B] [] (fun b7 => (bif !b7 then Q (.t [.a [.i c_0, .i c_1, .i c_2, .i c_3, .i c_4, .i c_5, .i c_6, .i c_7, .i c_8, .i c_9, .i c_10, .i c_11, .i c_12, .i c_13, .i c_14, .i c_15, .i c_16, .i c_17, .i c_18, .i c_19, .l 2 c_20, .l 2 c_21], .u (.b false)]) [] else PRun Tryz.prog 39 [] [.a [.i c_0, .i c_1, .i c_2, .i c_3, .i c_4, .i c_5, .i c_6, .i c_7, .i c_8, .i c_9, .i c_10, .i c_11, .i c_12, .i c_13, .i c_14, .i c_15, .i c_16, .i c_17, .i c_18, .i c_19, .l 2 c_20, .l 2 c_21], .u (.s name), .i x22] (post [.agg [.i .i64, .i .i64, .i .i64, .i .i64, .i .i64, .i .i64, .i .i64, .i .i64, .i .i64, .i .i64, .i .i64, .i .i64, .i .i64, .i .i64, .i .i64, .i .i64, .i .i64, .i .i64, .i .i64, .i .i64, .l 2, .l 2], .B] [] (fun x23 x24 x25 x26 x27 x28 x29 x30 x31 x32 x33 x34 x35 x36 x37 x38 x39 x40 x41 x42 l7 l8 b8 => (Q (.t [.a [.i x23, .i x24, .i x25, .i x26, .i x27, .i x28, .i x29, .i x30, .i x31, .i x32, .i x33, .i x34, .i x35, .i x36, .i x37, .i x38, .i x39, .i x40, .i x41, .i x42, .l 2 l7, .l 2 l8], .u (.b b8)]) [] : Prop))) : Prop))) : Prop))) : Prop)))) : PRun Tryz.prog 17 [] [.a [.i c_0, .i c_1, .i c_2, .i c_3, .i c_4, .i c_5, .i c_6, .i c_7, .i c_8, .i c_9, .i c_10, .i c_11, .i c_12, .i c_13, .i c_14, .i c_15, .i c_16, .i c_17, .i c_18, .i c_19, .l 2 c_20, .l 2 c_21], .u (.s name), .u (.s text)] Q :=
 funS2 mixTd5 Tryz.func17 (by kernel_rfl) (H := ⟨[], [], [], [], [], false, 64, KN.no, false, SP.no⟩) (n := 2) (by kernel_rfl) hh
end Go.Proofs.YtaogfopaalancaaGreatDoor
/- What the functions do, written by program (psv.py) and held against the program by the kernel. -/
set_option linter.unusedVariables false
set_option maxRecDepth 100000
namespace Go.Proofs.YtaogfopaalancaaGreatDoor
open Go Go.Proofs
theorem mixTd3 : Tryz.prog.follows .mixedOrders = true := by kernel_rfl
theorem S35 {l : List (List U)} {Q : V → Mem → Prop} (hh : ∃ (I1 : List (List U) → Int → Prop) (f1 : List (List U) → Int → Nat), I1 [] 0 ∧ (∀ l1 : List (List U), ∀ x1 : Int, I1 l1 x1 → (bif decide (x1 < (List.length l : Int)) then elL l x1 (fun r1 => dI .i64 (ug r1 0) (fun x2 => dI .i64 (ug r1 1) (fun x3 => PRun Tryz.prog 34 [] [.i x2] (post [.S] [] (fun s1 => (ByteArray.size s1 + ByteArray.size (ByteArray.mk #[120]) < 9223372036854775808 ∧ (PRun Tryz.prog 34 [] [.i x3] (post [.S] [] (fun s2 => (ByteArray.size (s1 ++ ByteArray.mk #[120]) + ByteArray.size s2 < 9223372036854775808 ∧ (apOk l1 [[.s (s1 ++ ByteArray.mk #[120] ++ s2)]] ∧ (I1 (l1 ++ [[.s (s1 ++ ByteArray.mk #[120] ++ s2)]]) (IntKind.wrap .i64 (x1 + 1)) ∧ f1 (l1 ++ [[.s (s1 ++ ByteArray.mk #[120] ++ s2)]]) (IntKind.wrap .i64 (x1 + 1)) < f1 l1 x1)) : Prop)))) : Prop)))))) else PRun Tryz.prog 50 [] [.l 1 l1, .u (.s (ByteArray.mk #[44]))] (post [.S] [] (fun s3 => (Q (.u (.s s3)) [] : Prop)))))) : PRun Tryz.prog 35 [] [.l 2 l] Q :=
 funS2 mixTd3 Tryz.func35 (by kernel_rfl) (H := ⟨[((35, 3, 0), ⟨[(3, .one (.ow 9 1)), (8, .I)], []⟩)], [], [], [], [], false, 64, KN.no, false, SP.no⟩) (n := 2) (by kernel_rfl) hh
theorem S13 {c_0 : Int} {c_1 : Int} {c_2 : Int} {c_3 : Int} {c_4 : Int} {c_5 : Int} {c_6 : Int} {c_7 : Int} {c_8 : Int} {c_9 : Int} {c_10 : Int} {c_11 : Int} {c_12 : Int} {c_13 : Int} {c_14 : Int} {c_15 : Int} {c_16 : Int} {c_17 : Int} {c_18 : Int} {c_19 : Int} {c_20 : List (List U)} {c_21 : List (List U)} {Q : V → Mem → Prop} (hh : PRun Tryz.prog 30 [] [.a [.i c_0, .i c_1, .i c_2, .i c_3, .i c_4, .i c_5, .i c_6, .i c_7, .i c_8, .i c_9, .i c_10, .i c_11, .i c_12, .i c_13, .i c_14, .i c_15, .i c_16, .i c_17, .i c_18, .i c_19, .l 2 c_20, .l 2 c_21]] (post [.I] [] (fun x1 => (bif x1 != 0 then Q (.t [.u (.s (ByteArray.mk #[])), .i x1]) [] else PRun Tryz.prog 31 [] [.i c_0] (post [.S] [] (fun s1 => (PRun Tryz.prog 32 [] [.i c_0] (post [.L 1] [] (fun l1 => ∃ (I1 : ByteArray → Int → Prop) (f1 : ByteArray → Int → Nat), I1 s1 0 ∧ (∀ s2 : ByteArray, ∀ x2 : Int, I1 s2 x2 → (bif decide (x2 < (List.length l1 : Int)) then elL l1 x2 (fun r1 => dS (ug r1 0) (fun s3 => PRun Tryz.prog 33 [] [.a [.i c_0, .i c_1, .i c_2, .i c_3, .i c_4, .i c_5, .i c_6, .i c_7, .i c_8, .i c_9, .i c_10, .i c_11, .i c_12, .i c_13, .i c_14, .i c_15, .i c_16, .i c_17, .i c_18, .i c_19, .l 2 c_20, .l 2 c_21], .u (.s s3)] (post [.I, .B] [] (fun x3 b1 => (bif x3 != 0 then ByteArray.size (ByteArray.mk #[32]) + ByteArray.size s3 < 9223372036854775808 ∧ (ByteArray.size (ByteArray.mk #[32] ++ s3) + ByteArray.size (ByteArray.mk #[61]) < 9223372036854775808 ∧ (PRun Tryz.prog 34 [] [.i x3] (post [.S] [] (fun s4 => (ByteArray.size (ByteArray.mk #[32] ++ s3 ++ ByteArray.mk #[61]) + ByteArray.size s4 < 9223372036854775808 ∧ (ByteArray.size s2 + ByteArray.size (ByteArray.mk #[32] ++ s3 ++ ByteArray.mk #[61] ++ s4) < 9223372036854775808 ∧ (I1 (s2 ++ (ByteArray.mk #[32] ++ s3 ++ ByteArray.mk #[61] ++ s4)) (IntKind.wrap .i64 (x2 + 1)) ∧ f1 (s2 ++ (ByteArray.mk #[32] ++ s3 ++ ByteArray.mk #[61] ++ s4)) (IntKind.wrap .i64 (x2 + 1)) < f1 s2 x2)) : Prop))))) else I1 s2 (IntKind.wrap .i64 (x2 + 1)) ∧ f1 s2 (IntKind.wrap .i64 (x2 + 1)) < f1 s2 x2 : Prop))))) else (bif decide ((List.length c_20 : Int) > 0) then PRun Tryz.prog 35 [] [.l 2 c_20] (post [.S] [] (fun s5 => (ByteArray.size (ByteArray.mk #[32, 103, 105, 118, 101, 115, 61]) + ByteArray.size s5 < 9223372036854775808 ∧ (ByteArray.size s2 + ByteArray.size (ByteArray.mk #[32, 103, 105, 118, 101, 115, 61] ++ s5) < 9223372036854775808 ∧ (bif decide ((List.length c_21 : Int) > 0) then PRun Tryz.prog 35 [] [.l 2 c_21] (post [.S] [] (fun s6 => (ByteArray.size (ByteArray.mk #[32, 119, 97, 110, 116, 115, 61]) + ByteArray.size s6 < 9223372036854775808 ∧ (ByteArray.size (s2 ++ (ByteArray.mk #[32, 103, 105, 118, 101, 115, 61] ++ s5)) + ByteArray.size (ByteArray.mk #[32, 119, 97, 110, 116, 115, 61] ++ s6) < 9223372036854775808 ∧ (Q (.t [.u (.s (s2 ++ (ByteArray.mk #[32, 103, 105, 118, 101, 115, 61] ++ s5) ++ (ByteArray.mk #[32, 119, 97, 110, 116, 115, 61] ++ s6))), .i 0]) [])) : Prop))) else Q (.t [.u (.s (s2 ++ (ByteArray.mk #[32, 103, 105, 118, 101, 115, 61] ++ s5))), .i 0]) [])) : Prop))) else (bif decide ((List.length c_21 : Int) > 0) then PRun Tryz.prog 35 [] [.l 2 c_21] (post [.S] [] (fun s7 => (ByteArray.size (ByteArray.mk #[32, 119, 97, 110, 116, 115, 61]) + ByteArray.size s7 < 9223372036854775808 ∧ (ByteArray.size s2 + ByteArray.size (ByteArray.mk #[32, 119, 97, 110, 116, 115, 61] ++ s7) < 9223372036854775808 ∧ (Q (.t [.u (.s (s2 ++ (ByteArray.mk #[32, 119, 97, 110, 116, 115, 61] ++ s7))), .i 0]) [])) : Prop))) else Q (.t [.u (.s s2), .i 0]) [])))))) : Prop))) : Prop)))) : PRun Tryz.prog 13 [] [.a [.i c_0, .i c_1, .i c_2, .i c_3, .i c_4, .i c_5, .i c_6, .i c_7, .i c_8, .i c_9, .i c_10, .i c_11, .i c_12, .i c_13, .i c_14, .i c_15, .i c_16, .i c_17, .i c_18, .i c_19, .l 2 c_20, .l 2 c_21]] Q :=
 funS2 mixTd3 Tryz.func13 (by kernel_rfl) (H := ⟨[((13, 6, 1), ⟨[(5, .S), (22, .I)], []⟩)], [], [], [], [], false, 64, KN.no, false, SP.no⟩) (n := 2) (by kernel_rfl) hh
theorem S5 {line : ByteArray} {Q : V → Mem → Prop} (hh : PRun Tryz.prog 14 [] [.u (.s line)] (post [.L 1] [] (fun l1 => (bif decide ((ByteArray.size line : Int) > 1024) then Q (.t [.a [.i 0, .i 0, .i 0, .i 0, .i 0, .i 0, .i 0, .i 0, .i 0, .i 0, .i 0, .i 0, .i 0, .i 0, .i 0, .i 0, .i 0, .i 0, .i 0, .i 0, .l 2 [], .l 2 []], .i 2]) [] else (bif (List.length l1 : Int) == 0 then Q (.t [.a [.i 0, .i 0, .i 0, .i 0, .i 0, .i 0, .i 0, .i 0, .i 0, .i 0, .i 0, .i 0, .i 0, .i 0, .i 0, .i 0, .i 0, .i 0, .i 0, .i 0, .l 2 [], .l 2 []], .i 2]) [] else elL l1 0 (fun r1 => dS (ug r1 0) (fun s1 => PRun Tryz.prog 15 [] [.u (.s s1)] (post [.I] [] (fun x1 => (bif x1 == 0 then Q (.t [.a [.i 0, .i 0, .i 0, .i 0, .i 0, .i 0, .i 0, .i 0, .i 0, .i 0, .i 0, .i 0, .i 0, .i 0, .i 0, .i 0, .i 0, .i 0, .i 0, .i 0, .l 2 [], .l 2 []], .i 2]) [] else 0 ≤ (1 : Int) ∧ ((1 : Int) ≤ (List.length l1 : Int) ∧ (List.length l1 : Int) ≤ (List.length l1 : Int) ∧ (∃ (I1 : Int → Int → Int → Int → Int → Int → Int → Int → Int → Int → Int → Int → Int → Int → Int → Int → Int → Int → Int → Int → Int → List (List U) → List (List U) → Int → Int → Int → Int → Int → Int → Int → Int → Int → Int → Int → Int → Int → Int → Int → Int → Int → Int → Int → Int → List (List U) → List (List U) → List (MK × List U) → Prop) (f1 : Int → Int → Int → Int → Int → Int → Int → Int → Int → Int → Int → Int → Int → Int → Int → Int → Int → Int → Int → Int → Int → List (List U) → List (List U) → Int → Int → Int → Int → Int → Int → Int → Int → Int → Int → Int → Int → Int → Int → Int → Int → Int → Int → Int → Int → List (List U) → List (List U) → List (MK × List U) → Nat), I1 0 0 0 0 0 0 0 0 0 0 0 0 0 0 0 0 0 0 0 0 0 [] [] x1 0 0 0 0 0 0 0 0 0 0 0 0 0 0 0 0 0 0 0 [] [] [] ∧ (∀ x2 : Int, ∀ x3 : Int, ∀ x4 : Int, ∀ x5 : Int, ∀ x6 : Int, ∀ x7 : Int, ∀ x8 : Int, ∀ x9 : Int, ∀ x10 : Int, ∀ x11 : Int, ∀ x12 : Int, ∀ x13 : Int, ∀ x14 : Int, ∀ x15 : Int, ∀ x16 : Int, ∀ x17 : Int, ∀ x18 : Int, ∀ x19 : Int, ∀ x20 : Int, ∀ x21 : Int, ∀ x22 : Int, ∀ l2 : List (List U), ∀ l3 : List (List U), ∀ x23 : Int, ∀ x24 : Int, ∀ x25 : Int, ∀ x26 : Int, ∀ x27 : Int, ∀ x28 : Int, ∀ x29 : Int, ∀ x30 : Int, ∀ x31 : Int, ∀ x32 : Int, ∀ x33 : Int, ∀ x34 : Int, ∀ x35 : Int, ∀ x36 : Int, ∀ x37 : Int, ∀ x38 : Int, ∀ x39 : Int, ∀ x40 : Int, ∀ x41 : Int, ∀ x42 : Int, ∀ l4 : List (List U), ∀ l5 : List (List U), ∀ m1 : List (MK × List U), I1 x2 x3 x4 x5 x6 x7 x8 x9 x10 x11 x12 x13 x14 x15 x16 x17 x18 x19 x20 x21 x22 l2 l3 x23 x24 x25 x26 x27 x28 x29 x30 x31 x32 x33 x34 x35 x36 x37 x38 x39 x40 x41 x42 l4 l5 m1 → (bif decide (x2 < (List.length (List.drop 1 (List.take (List.length l1) l1)) : Int)) then elL (List.drop 1 (List.take (List.length l1) l1)) x2 (fun r2 => dS (ug r2 0) (fun s2 => PRun Tryz.prog 16 [] [.u (.s s2), .u (.s (ByteArray.mk #[61]))] (post [.S, .S, .B] [] (fun s3 s4 b1 => ∀ k1 : Int → Int → Int → Int → Int → Int → Int → Int → Int → Int → Int → Int → Int → Int → Int → Int → Int → Int → Int → Int → List (List U) → List (List U) → Prop, (∀ x43 : Int, ∀ x44 : Int, ∀ x45 : Int, ∀ x46 : Int, ∀ x47 : Int, ∀ x48 : Int, ∀ x49 : Int, ∀ x50 : Int, ∀ x51 : Int, ∀ x52 : Int, ∀ x53 : Int, ∀ x54 : Int, ∀ x55 : Int, ∀ x56 : Int, ∀ x57 : Int, ∀ x58 : Int, ∀ x59 : Int, ∀ x60 : Int, ∀ x61 : Int, ∀ x62 : Int, ∀ l6 : List (List U), ∀ l7 : List (List U), (PRun Tryz.prog 17 [] [.a [.i x23, .i x24, .i x25, .i x26, .i x27, .i x28, .i x29, .i x30, .i x31, .i x32, .i x33, .i x34, .i x35, .i x36, .i x37, .i x38, .i x39, .i x40, .i x41, .i x42, .l 2 l4, .l 2 l5], .u (.s s3), .u (.s s4)] (post [.agg [.i .i64, .i .i64, .i .i64, .i .i64, .i .i64, .i .i64, .i .i64, .i .i64, .i .i64, .i .i64, .i .i64, .i .i64, .i .i64, .i .i64, .i .i64, .i .i64, .i .i64, .i .i64, .i .i64, .i .i64, .l 2, .l 2], .B] [] (fun x63 x64 x65 x66 x67 x68 x69 x70 x71 x72 x73 x74 x75 x76 x77 x78 x79 x80 x81 x82 l8 l9 b2 => (bif !b2 then Q (.t [.a [.i 0, .i 0, .i 0, .i 0, .i 0, .i 0, .i 0, .i 0, .i 0, .i 0, .i 0, .i 0, .i 0, .i 0, .i 0, .i 0, .i 0, .i 0, .i 0, .i 0, .l 2 [], .l 2 []], .i 2]) [] else I1 (IntKind.wrap .i64 (x2 + 1)) x43 x44 x45 x46 x47 x48 x49 x50 x51 x52 x53 x54 x55 x56 x57 x58 x59 x60 x61 x62 l6 l7 x63 x64 x65 x66 x67 x68 x69 x70 x71 x72 x73 x74 x75 x76 x77 x78 x79 x80 x81 x82 l8 l9 (rSet m1 (.s s3) [.b true]) ∧ f1 (IntKind.wrap .i64 (x2 + 1)) x43 x44 x45 x46 x47 x48 x49 x50 x51 x52 x53 x54 x55 x56 x57 x58 x59 x60 x61 x62 l6 l7 x63 x64 x65 x66 x67 x68 x69 x70 x71 x72 x73 x74 x75 x76 x77 x78 x79 x80 x81 x82 l8 l9 (rSet m1 (.s s3) [.b true]) < f1 x2 x3 x4 x5 x6 x7 x8 x9 x10 x11 x12 x13 x14 x15 x16 x17 x18 x19 x20 x21 x22 l2 l3 x23 x24 x25 x26 x27 x28 x29 x30 x31 x32 x33 x34 x35 x36 x37 x38 x39 x40 x41 x42 l4 l5 m1 : Prop)))) → k1 x43 x44 x45 x46 x47 x48 x49 x50 x51 x52 x53 x54 x55 x56 x57 x58 x59 x60 x61 x62 l6 l7) → (bif !b1 then Q (.t [.a [.i 0, .i 0, .i 0, .i 0, .i 0, .i 0, .i 0, .i 0, .i 0, .i 0, .i 0, .i 0, .i 0, .i 0, .i 0, .i 0, .i 0, .i 0, .i 0, .i 0, .l 2 [], .l 2 []], .i 2]) [] else mO (rGet m1 (.s s3)) (fun r3 => (dB (ug r3 0) (fun b3 => (bif b3 then Q (.t [.a [.i 0, .i 0, .i 0, .i 0, .i 0, .i 0, .i 0, .i 0, .i 0, .i 0, .i 0, .i 0, .i 0, .i 0, .i 0, .i 0, .i 0, .i 0, .i 0, .i 0, .l 2 [], .l 2 []], .i 2]) [] else k1 x3 x4 x5 x6 x7 x8 x9 x10 x11 x12 x13 x14 x15 x16 x17 x18 x19 x20 x21 x22 l2 l3)) : Prop)) (k1 x3 x4 x5 x6 x7 x8 x9 x10 x11 x12 x13 x14 x15 x16 x17 x18 x19 x20 x21 x22 l2 l3)))))) else Q (.t [.a [.i x23, .i x24, .i x25, .i x26, .i x27, .i x28, .i x29, .i x30, .i x31, .i x32, .i x33, .i x34, .i x35, .i x36, .i x37, .i x38, .i x39, .i x40, .i x41, .i x42, .l 2 l4, .l 2 l5], .i 0]) [])))) : Prop)))))) : Prop)))) : PRun Tryz.prog 5 [] [.u (.s line)] Q :=
 funS2 mixTd3 Tryz.func5 (by kernel_rfl) (H := ⟨[((5, 9, 3), ⟨[(36, .I)], [(0, .c [.i .i64, .i .i64, .i .i64, .i .i64, .i .i64, .i .i64, .i .i64, .i .i64, .i .i64, .i .i64, .i .i64, .i .i64, .i .i64, .i .i64, .i .i64, .i .i64, .i .i64, .i .i64, .i .i64, .i .i64, .ow 39 2, .ow 39 2]), (1, .c [.i .i64, .i .i64, .i .i64, .i .i64, .i .i64, .i .i64, .i .i64, .i .i64, .i .i64, .i .i64, .i .i64, .i .i64, .i .i64, .i .i64, .i .i64, .i .i64, .i .i64, .i .i64, .i .i64, .i .i64, .l 2, .l 2]), (2, .mp .s 1 false)]⟩)], [((5, 14, 5), ⟨[], [(0, .c [.i .i64, .i .i64, .i .i64, .i .i64, .i .i64, .i .i64, .i .i64, .i .i64, .i .i64, .i .i64, .i .i64, .i .i64, .i .i64, .i .i64, .i .i64, .i .i64, .i .i64, .i .i64, .i .i64, .i .i64, .ow 39 2, .ow 39 2])]⟩)], [], [], [], false, 64, KN.no, false, SP.no⟩) (n := 2) (by kernel_rfl) hh
theorem S6 {line : ByteArray} {Q : V → Mem → Prop} (hh : PRun Tryz.prog 18 [] [.u (.s line)] (post [.L 1] [] (fun l1 => (bif decide ((ByteArray.size line : Int) > 1024) then Q (.t [.a [.i 0, .i 0, .i 0, .i 0, .i 0, .i 0, .i 0, .i 0, .i 0, .i 0, .i 0, .i 0, .i 0, .i 0, .i 0, .i 0, .i 0, .i 0, .i 0, .i 0, .l 2 [], .l 2 []], .i 2]) [] else (bif (List.length l1 : Int) == 0 then Q (.t [.a [.i 0, .i 0, .i 0, .i 0, .i 0, .i 0, .i 0, .i 0, .i 0, .i 0, .i 0, .i 0, .i 0, .i 0, .i 0, .i 0, .i 0, .i 0, .i 0, .i 0, .l 2 [], .l 2 []], .i 2]) [] else elL l1 0 (fun r1 => dS (ug r1 0) (fun s1 => PRun Tryz.prog 19 [] [.u (.s s1)] (post [.I] [] (fun x1 => (bif x1 == 0 then Q (.t [.a [.i 0, .i 0, .i 0, .i 0, .i 0, .i 0, .i 0, .i 0, .i 0, .i 0, .i 0, .i 0, .i 0, .i 0, .i 0, .i 0, .i 0, .i 0, .i 0, .i 0, .l 2 [], .l 2 []], .i 2]) [] else ∃ (I1 : List (List U) → Int → Int → Int → Int → Int → Int → Int → Int → Int → Int → Int → Int → Int → Int → Int → Int → Int → Int → Int → Int → Int → List (List U) → List (List U) → Int → Int → Int → Int → Int → Int → Int → Int → Int → Int → Int → Int → Int → Int → Int → Int → Int → Int → Int → Int → List (List U) → List (List U) → Prop) (f1 : List (List U) → Int → Int → Int → Int → Int → Int → Int → Int → Int → Int → Int → Int → Int → Int → Int → Int → Int → Int → Int → Int → Int → List (List U) → List (List U) → Int → Int → Int → Int → Int → Int → Int → Int → Int → Int → Int → Int → Int → Int → Int → Int → Int → Int → Int → Int → List (List U) → List (List U) → Nat), I1 [] 1 0 0 0 0 0 0 0 0 0 0 0 0 0 0 0 0 0 0 0 0 [] [] x1 0 0 0 0 0 0 0 0 0 0 0 0 0 0 0 0 0 0 0 [] [] ∧ (∀ l2 : List (List U), ∀ x2 : Int, ∀ x3 : Int, ∀ x4 : Int, ∀ x5 : Int, ∀ x6 : Int, ∀ x7 : Int, ∀ x8 : Int, ∀ x9 : Int, ∀ x10 : Int, ∀ x11 : Int, ∀ x12 : Int, ∀ x13 : Int, ∀ x14 : Int, ∀ x15 : Int, ∀ x16 : Int, ∀ x17 : Int, ∀ x18 : Int, ∀ x19 : Int, ∀ x20 : Int, ∀ x21 : Int, ∀ x22 : Int, ∀ l3 : List (List U), ∀ l4 : List (List U), ∀ x23 : Int, ∀ x24 : Int, ∀ x25 : Int, ∀ x26 : Int, ∀ x27 : Int, ∀ x28 : Int, ∀ x29 : Int, ∀ x30 : Int, ∀ x31 : Int, ∀ x32 : Int, ∀ x33 : Int, ∀ x34 : Int, ∀ x35 : Int, ∀ x36 : Int, ∀ x37 : Int, ∀ x38 : Int, ∀ x39 : Int, ∀ x40 : Int, ∀ x41 : Int, ∀ x42 : Int, ∀ l5 : List (List U), ∀ l6 : List (List U), I1 l2 x2 x3 x4 x5 x6 x7 x8 x9 x10 x11 x12 x13 x14 x15 x16 x17 x18 x19 x20 x21 x22 l3 l4 x23 x24 x25 x26 x27 x28 x29 x30 x31 x32 x33 x34 x35 x36 x37 x38 x39 x40 x41 x42 l5 l6 → (bif decide (x2 < (List.length l1 : Int)) then elL l1 x2 (fun r2 => dS (ug r2 0) (fun s2 => PRun Tryz.prog 20 [] [.u (.s s2), .u (.i .u8 61)] (post [.S, .S, .B] [] (fun s3 s4 b1 => (bif !b1 then Q (.t [.a [.i 0, .i 0, .i 0, .i 0, .i 0, .i 0, .i 0, .i 0, .i 0, .i 0, .i 0, .i 0, .i 0, .i 0, .i 0, .i 0, .i 0, .i 0, .i 0, .i 0, .l 2 [], .l 2 []], .i 2]) [] else PRun Tryz.prog 21 [.w 9 1 l2] [.w 0, .u (.s s3)] (post [.B] [.row 9 1] (fun b2 l7 => (bif b2 then Q (.t [.a [.i 0, .i 0, .i 0, .i 0, .i 0, .i 0, .i 0, .i 0, .i 0, .i 0, .i 0, .i 0, .i 0, .i 0, .i 0, .i 0, .i 0, .i 0, .i 0, .i 0, .l 2 [], .l 2 []], .i 2]) [] else apOk l7 [[.s s3]] ∧ (bif x23 == 14 then (bif ByteArray.toList s3 == ByteArray.toList (ByteArray.mk #[103, 105, 118, 101, 115]) then PRun Tryz.prog 10 [] [.u (.s s4)] (post [.L 2, .B] [] (fun l8 b3 => (bif !b3 then Q (.t [.a [.i 0, .i 0, .i 0, .i 0, .i 0, .i 0, .i 0, .i 0, .i 0, .i 0, .i 0, .i 0, .i 0, .i 0, .i 0, .i 0, .i 0, .i 0, .i 0, .i 0, .l 2 [], .l 2 []], .i 2]) [] else (bif ByteArray.toList s3 == ByteArray.toList (ByteArray.mk #[103, 105, 118, 101, 115]) then I1 (l7 ++ [[.s s3]]) (IntKind.wrap .i64 (x2 + 1)) x3 x4 x5 x6 x7 x8 x9 x10 x11 x12 x13 x14 x15 x16 x17 x18 x19 x20 x21 x22 l3 l4 x23 x24 x25 x26 x27 x28 x29 x30 x31 x32 x33 x34 x35 x36 x37 x38 x39 x40 x41 x42 l8 l6 ∧ f1 (l7 ++ [[.s s3]]) (IntKind.wrap .i64 (x2 + 1)) x3 x4 x5 x6 x7 x8 x9 x10 x11 x12 x13 x14 x15 x16 x17 x18 x19 x20 x21 x22 l3 l4 x23 x24 x25 x26 x27 x28 x29 x30 x31 x32 x33 x34 x35 x36 x37 x38 x39 x40 x41 x42 l8 l6 < f1 l2 x2 x3 x4 x5 x6 x7 x8 x9 x10 x11 x12 x13 x14 x15 x16 x17 x18 x19 x20 x21 x22 l3 l4 x23 x24 x25 x26 x27 x28 x29 x30 x31 x32 x33 x34 x35 x36 x37 x38 x39 x40 x41 x42 l5 l6 else I1 (l7 ++ [[.s s3]]) (IntKind.wrap .i64 (x2 + 1)) x3 x4 x5 x6 x7 x8 x9 x10 x11 x12 x13 x14 x15 x16 x17 x18 x19 x20 x21 x22 l3 l4 x23 x24 x25 x26 x27 x28 x29 x30 x31 x32 x33 x34 x35 x36 x37 x38 x39 x40 x41 x42 l5 l8 ∧ f1 (l7 ++ [[.s s3]]) (IntKind.wrap .i64 (x2 + 1)) x3 x4 x5 x6 x7 x8 x9 x10 x11 x12 x13 x14 x15 x16 x17 x18 x19 x20 x21 x22 l3 l4 x23 x24 x25 x26 x27 x28 x29 x30 x31 x32 x33 x34 x35 x36 x37 x38 x39 x40 x41 x42 l5 l8 < f1 l2 x2 x3 x4 x5 x6 x7 x8 x9 x10 x11 x12 x13 x14 x15 x16 x17 x18 x19 x20 x21 x22 l3 l4 x23 x24 x25 x26 x27 x28 x29 x30 x31 x32 x33 x34 x35 x36 x37 x38 x39 x40 x41 x42 l5 l6) : Prop))) else (bif ByteArray.toList s3 == ByteArray.toList (ByteArray.mk #[119, 97, 110, 116, 115]) then PRun Tryz.prog 10 [] [.u (.s s4)] (post [.L 2, .B] [] (fun l9 b4 => (bif !b4 then Q (.t [.a [.i 0, .i 0, .i 0, .i 0, .i 0, .i 0, .i 0, .i 0, .i 0, .i 0, .i 0, .i 0, .i 0, .i 0, .i 0, .i 0, .i 0, .i 0, .i 0, .i 0, .l 2 [], .l 2 []], .i 2]) [] else (bif ByteArray.toList s3 == ByteArray.toList (ByteArray.mk #[103, 105, 118, 101, 115]) then I1 (l7 ++ [[.s s3]]) (IntKind.wrap .i64 (x2 + 1)) x3 x4 x5 x6 x7 x8 x9 x10 x11 x12 x13 x14 x15 x16 x17 x18 x19 x20 x21 x22 l3 l4 x23 x24 x25 x26 x27 x28 x29 x30 x31 x32 x33 x34 x35 x36 x37 x38 x39 x40 x41 x42 l9 l6 ∧ f1 (l7 ++ [[.s s3]]) (IntKind.wrap .i64 (x2 + 1)) x3 x4 x5 x6 x7 x8 x9 x10 x11 x12 x13 x14 x15 x16 x17 x18 x19 x20 x21 x22 l3 l4 x23 x24 x25 x26 x27 x28 x29 x30 x31 x32 x33 x34 x35 x36 x37 x38 x39 x40 x41 x42 l9 l6 < f1 l2 x2 x3 x4 x5 x6 x7 x8 x9 x10 x11 x12 x13 x14 x15 x16 x17 x18 x19 x20 x21 x22 l3 l4 x23 x24 x25 x26 x27 x28 x29 x30 x31 x32 x33 x34 x35 x36 x37 x38 x39 x40 x41 x42 l5 l6 else I1 (l7 ++ [[.s s3]]) (IntKind.wrap .i64 (x2 + 1)) x3 x4 x5 x6 x7 x8 x9 x10 x11 x12 x13 x14 x15 x16 x17 x18 x19 x20 x21 x22 l3 l4 x23 x24 x25 x26 x27 x28 x29 x30 x31 x32 x33 x34 x35 x36 x37 x38 x39 x40 x41 x42 l5 l9 ∧ f1 (l7 ++ [[.s s3]]) (IntKind.wrap .i64 (x2 + 1)) x3 x4 x5 x6 x7 x8 x9 x10 x11 x12 x13 x14 x15 x16 x17 x18 x19 x20 x21 x22 l3 l4 x23 x24 x25 x26 x27 x28 x29 x30 x31 x32 x33 x34 x35 x36 x37 x38 x39 x40 x41 x42 l5 l9 < f1 l2 x2 x3 x4 x5 x6 x7 x8 x9 x10 x11 x12 x13 x14 x15 x16 x17 x18 x19 x20 x21 x22 l3 l4 x23 x24 x25 x26 x27 x28 x29 x30 x31 x32 x33 x34 x35 x36 x37 x38 x39 x40 x41 x42 l5 l6) : Prop))) else PRun Tryz.prog 8 [] [.u (.s s4)] (post [.I, .B] [] (fun x43 b5 => (bif !b5 then Q (.t [.a [.i 0, .i 0, .i 0, .i 0, .i 0, .i 0, .i 0, .i 0, .i 0, .i 0, .i 0, .i 0, .i 0, .i 0, .i 0, .i 0, .i 0, .i 0, .i 0, .i 0, .l 2 [], .l 2 []], .i 2]) [] else PRun Tryz.prog 22 [] [.i x23] (post [.L 1] [] (fun l10 => (PRun Tryz.prog 21 [] [.l 1 l10, .u (.s s3)] (post [.B] [] (fun b6 => (bif !b6 then Q (.t [.a [.i 0, .i 0, .i 0, .i 0, .i 0, .i 0, .i 0, .i 0, .i 0, .i 0, .i 0, .i 0, .i 0, .i 0, .i 0, .i 0, .i 0, .i 0, .i 0, .i 0, .l 2 [], .l 2 []], .i 2]) [] else PRun Tryz.prog 23 [] [.a [.i x23, .i x24, .i x25, .i x26, .i x27, .i x28, .i x29, .i x30, .i x31, .i x32, .i x33, .i x34, .i x35, .i x36, .i x37, .i x38, .i x39, .i x40, .i x41, .i x42, .l 2 l5, .l 2 l6], .u (.s s3), .i x43] (post [.agg [.i .i64, .i .i64, .i .i64, .i .i64, .i .i64, .i .i64, .i .i64, .i .i64, .i .i64, .i .i64, .i .i64, .i .i64, .i .i64, .i .i64, .i .i64, .i .i64, .i .i64, .i .i64, .i .i64, .i .i64, .l 2, .l 2], .B] [] (fun x44 x45 x46 x47 x48 x49 x50 x51 x52 x53 x54 x55 x56 x57 x58 x59 x60 x61 x62 x63 l11 l12 b7 => (I1 (l7 ++ [[.s s3]]) (IntKind.wrap .i64 (x2 + 1)) x3 x4 x5 x6 x7 x8 x9 x10 x11 x12 x13 x14 x15 x16 x17 x18 x19 x20 x21 x22 l3 l4 x44 x45 x46 x47 x48 x49 x50 x51 x52 x53 x54 x55 x56 x57 x58 x59 x60 x61 x62 x63 l11 l12 ∧ f1 (l7 ++ [[.s s3]]) (IntKind.wrap .i64 (x2 + 1)) x3 x4 x5 x6 x7 x8 x9 x10 x11 x12 x13 x14 x15 x16 x17 x18 x19 x20 x21 x22 l3 l4 x44 x45 x46 x47 x48 x49 x50 x51 x52 x53 x54 x55 x56 x57 x58 x59 x60 x61 x62 x63 l11 l12 < f1 l2 x2 x3 x4 x5 x6 x7 x8 x9 x10 x11 x12 x13 x14 x15 x16 x17 x18 x19 x20 x21 x22 l3 l4 x23 x24 x25 x26 x27 x28 x29 x30 x31 x32 x33 x34 x35 x36 x37 x38 x39 x40 x41 x42 l5 l6 : Prop))) : Prop))) : Prop))) : Prop))))) else PRun Tryz.prog 8 [] [.u (.s s4)] (post [.I, .B] [] (fun x64 b8 => (bif !b8 then Q (.t [.a [.i 0, .i 0, .i 0, .i 0, .i 0, .i 0, .i 0, .i 0, .i 0, .i 0, .i 0, .i 0, .i 0, .i 0, .i 0, .i 0, .i 0, .i 0, .i 0, .i 0, .l 2 [], .l 2 []], .i 2]) [] else PRun Tryz.prog 22 [] [.i x23] (post [.L 1] [] (fun l13 => (PRun Tryz.prog 21 [] [.l 1 l13, .u (.s s3)] (post [.B] [] (fun b9 => (bif !b9 then Q (.t [.a [.i 0, .i 0, .i 0, .i 0, .i 0, .i 0, .i 0, .i 0, .i 0, .i 0, .i 0, .i 0, .i 0, .i 0, .i 0, .i 0, .i 0, .i 0, .i 0, .i 0, .l 2 [], .l 2 []], .i 2]) [] else PRun Tryz.prog 23 [] [.a [.i x23, .i x24, .i x25, .i x26, .i x27, .i x28, .i x29, .i x30, .i x31, .i x32, .i x33, .i x34, .i x35, .i x36, .i x37, .i x38, .i x39, .i x40, .i x41, .i x42, .l 2 l5, .l 2 l6], .u (.s s3), .i x64] (post [.agg [.i .i64, .i .i64, .i .i64, .i .i64, .i .i64, .i .i64, .i .i64, .i .i64, .i .i64, .i .i64, .i .i64, .i .i64, .i .i64, .i .i64, .i .i64, .i .i64, .i .i64, .i .i64, .i .i64, .i .i64, .l 2, .l 2], .B] [] (fun x65 x66 x67 x68 x69 x70 x71 x72 x73 x74 x75 x76 x77 x78 x79 x80 x81 x82 x83 x84 l14 l15 b10 => (I1 (l7 ++ [[.s s3]]) (IntKind.wrap .i64 (x2 + 1)) x3 x4 x5 x6 x7 x8 x9 x10 x11 x12 x13 x14 x15 x16 x17 x18 x19 x20 x21 x22 l3 l4 x65 x66 x67 x68 x69 x70 x71 x72 x73 x74 x75 x76 x77 x78 x79 x80 x81 x82 x83 x84 l14 l15 ∧ f1 (l7 ++ [[.s s3]]) (IntKind.wrap .i64 (x2 + 1)) x3 x4 x5 x6 x7 x8 x9 x10 x11 x12 x13 x14 x15 x16 x17 x18 x19 x20 x21 x22 l3 l4 x65 x66 x67 x68 x69 x70 x71 x72 x73 x74 x75 x76 x77 x78 x79 x80 x81 x82 x83 x84 l14 l15 < f1 l2 x2 x3 x4 x5 x6 x7 x8 x9 x10 x11 x12 x13 x14 x15 x16 x17 x18 x19 x20 x21 x22 l3 l4 x23 x24 x25 x26 x27 x28 x29 x30 x31 x32 x33 x34 x35 x36 x37 x38 x39 x40 x41 x42 l5 l6 : Prop))) : Prop))) : Prop))) : Prop)))) : Prop))) : Prop))))) else Q (.t [.a [.i x23, .i x24, .i x25, .i x26, .i x27, .i x28, .i x29, .i x30, .i x31, .i x32, .i x33, .i x34, .i x35, .i x36, .i x37, .i x38, .i x39, .i x40, .i x41, .i x42, .l 2 l5, .l 2 l6], .i 0]) [])) : Prop)))))) : Prop)))) : PRun Tryz.prog 6 [] [.u (.s line)] Q :=
 funS2 mixTd3 Tryz.func6 (by kernel_rfl) (H := ⟨[((6, 9, 2), ⟨[(6, .one (.ow 9 1)), (7, .I)], [(0, .c [.i .i64, .i .i64, .i .i64, .i .i64, .i .i64, .i .i64, .i .i64, .i .i64, .i .i64, .i .i64, .i .i64, .i .i64, .i .i64, .i .i64, .i .i64, .i .i64, .i .i64, .i .i64, .i .i64, .i .i64, .l 2, .l 2]), (1, .c [.i .i64, .i .i64, .i .i64, .i .i64, .i .i64, .i .i64, .i .i64, .i .i64, .i .i64, .i .i64, .i .i64, .i .i64, .i .i64, .i .i64, .i .i64, .i .i64, .i .i64, .i .i64, .i .i64, .i .i64, .l 2, .l 2])]⟩)], [], [], [21], [], false, 64, KN.no, false, SP.no⟩) (n := 2) (by kernel_rfl) hh
theorem S4 {Q : V → Mem → Prop} (hh : PRun Tryz.prog 5 [] [.u (.s (ByteArray.mk #[32, 32, 105, 115, 115, 117, 101, 32, 119, 97, 110, 116, 115, 61, 50, 120, 49, 32, 119, 104, 111, 61, 49, 32, 103, 105, 118, 101, 115, 61, 49, 120, 53, 44, 51, 120, 50, 32, 110, 61, 45, 55, 32, 97, 115, 61, 50, 32]))] (post [.agg [.i .i64, .i .i64, .i .i64, .i .i64, .i .i64, .i .i64, .i .i64, .i .i64, .i .i64, .i .i64, .i .i64, .i .i64, .i .i64, .i .i64, .i .i64, .i .i64, .i .i64, .i .i64, .i .i64, .i .i64, .l 2, .l 2], .I] [] (fun x1 x2 x3 x4 x5 x6 x7 x8 x9 x10 x11 x12 x13 x14 x15 x16 x17 x18 x19 x20 l1 l2 x21 => (PRun Tryz.prog 13 [] [.a [.i x1, .i x2, .i x3, .i x4, .i x5, .i x6, .i x7, .i x8, .i x9, .i x10, .i x11, .i x12, .i x13, .i x14, .i x15, .i x16, .i x17, .i x18, .i x19, .i x20, .l 2 l1, .l 2 l2]] (post [.S, .I] [] (fun s1 x22 => (PRun Tryz.prog 5 [] [.u (.s (ByteArray.mk #[116, 105, 99, 107, 32, 110, 61, 49, 32, 110, 61, 49]))] (post [.agg [.i .i64, .i .i64, .i .i64, .i .i64, .i .i64, .i .i64, .i .i64, .i .i64, .i .i64, .i .i64, .i .i64, .i .i64, .i .i64, .i .i64, .i .i64, .i .i64, .i .i64, .i .i64, .i .i64, .i .i64, .l 2, .l 2], .I] [] (fun x23 x24 x25 x26 x27 x28 x29 x30 x31 x32 x33 x34 x35 x36 x37 x38 x39 x40 x41 x42 l3 l4 x43 => (PRun Tryz.prog 7 [] [.u (.s (ByteArray.mk #[45, 57, 50, 50, 51, 51, 55, 50, 48, 51, 54, 56, 53, 52, 55, 55, 53, 56, 48, 56]))] (post [.I, .B] [] (fun x44 b1 => (PRun Tryz.prog 7 [] [.u (.s (ByteArray.mk #[48, 49]))] (post [.I, .B] [] (fun x45 b2 => (bif x21 == 0 then PRun Tryz.prog 11 [] [.a [.i x1, .i x2, .i x3, .i x4, .i x5, .i x6, .i x7, .i x8, .i x9, .i x10, .i x11, .i x12, .i x13, .i x14, .i x15, .i x16, .i x17, .i x18, .i x19, .i x20, .l 2 l1, .l 2 l2], .a [.i 14, .i 1, .i 2, .i 0, .i 0, .i 0, .i 0, .i 0, .i 0, .i 0, .i (-7), .i 0, .i 0, .i 0, .i 0, .i 0, .i 0, .i 0, .i 0, .i 0, .l 2 [[.n 1, .n 5], [.n 3, .n 2]], .l 2 [[.n 2, .n 1]]]] (post [.B] [] (fun b3 => (bif b3 then (bif ByteArray.toList s1 == ByteArray.toList (ByteArray.mk #[105, 115, 115, 117, 101, 32, 119, 104, 111, 61, 49, 32, 97, 115, 61, 50, 32, 110, 61, 45, 55, 32, 103, 105, 118, 101, 115, 61, 49, 120, 53, 44, 51, 120, 50, 32, 119, 97, 110, 116, 115, 61, 50, 120, 49]) then (bif x22 == 0 then (bif x43 == 2 then (bif x44 == -9223372036854775808 then (bif b1 then Q (.u (.b (!b2))) [] else Q (.u (.b false)) []) else Q (.u (.b false)) []) else Q (.u (.b false)) []) else Q (.u (.b false)) []) else Q (.u (.b false)) []) else Q (.u (.b false)) [] : Prop))) else Q (.u (.b false)) [] : Prop))) : Prop))) : Prop))) : Prop))) : Prop)))) : PRun Tryz.prog 4 [] [] Q :=
 funS2 mixTd3 Tryz.func4 (by kernel_rfl) (H := ⟨[], [], [], [], [], false, 64, KN.no, false, SP.no⟩) (n := 2) (by kernel_rfl) hh
theorem S3 {line : ByteArray} {text : ByteArray} {Q : V → Mem → Prop} (hh : bif decide ((ByteArray.size line : Int) > 2048) then PRun Tryz.prog 4 [] [] (post [.B] [] (fun b1 => (Q (.u (.b b1)) [] : Prop))) else (bif decide ((ByteArray.size text : Int) > 200) then PRun Tryz.prog 4 [] [] (post [.B] [] (fun b2 => (Q (.u (.b b2)) [] : Prop))) else PRun Tryz.prog 5 [] [.u (.s line)] (post [.agg [.i .i64, .i .i64, .i .i64, .i .i64, .i .i64, .i .i64, .i .i64, .i .i64, .i .i64, .i .i64, .i .i64, .i .i64, .i .i64, .i .i64, .i .i64, .i .i64, .i .i64, .i .i64, .i .i64, .i .i64, .l 2, .l 2], .I] [] (fun x1 x2 x3 x4 x5 x6 x7 x8 x9 x10 x11 x12 x13 x14 x15 x16 x17 x18 x19 x20 l1 l2 x21 => (PRun Tryz.prog 6 [] [.u (.s line)] (post [.agg [.i .i64, .i .i64, .i .i64, .i .i64, .i .i64, .i .i64, .i .i64, .i .i64, .i .i64, .i .i64, .i .i64, .i .i64, .i .i64, .i .i64, .i .i64, .i .i64, .i .i64, .i .i64, .i .i64, .i .i64, .l 2, .l 2], .I] [] (fun x22 x23 x24 x25 x26 x27 x28 x29 x30 x31 x32 x33 x34 x35 x36 x37 x38 x39 x40 x41 l3 l4 x42 => (PRun Tryz.prog 7 [] [.u (.s text)] (post [.I, .B] [] (fun x43 b3 => (PRun Tryz.prog 8 [] [.u (.s text)] (post [.I, .B] [] (fun x44 b4 => ∀ k1 : Int → Prop, (∀ x45 : Int, (PRun Tryz.prog 9 [] [.u (.s text)] (post [.L 2, .B] [] (fun l5 b5 => (PRun Tryz.prog 10 [] [.u (.s text)] (post [.L 2, .B] [] (fun l6 b6 => (PRun Tryz.prog 11 [] [.a [.i x1, .i x2, .i x3, .i x4, .i x5, .i x6, .i x7, .i x8, .i x9, .i x10, .i x11, .i x12, .i x13, .i x14, .i x15, .i x16, .i x17, .i x18, .i x19, .i x20, .l 2 l1, .l 2 l2], .a [.i x22, .i x23, .i x24, .i x25, .i x26, .i x27, .i x28, .i x29, .i x30, .i x31, .i x32, .i x33, .i x34, .i x35, .i x36, .i x37, .i x38, .i x39, .i x40, .i x41, .l 2 l3, .l 2 l4]] (post [.B] [] (fun b7 => (bif b7 then (bif x21 == x42 then (bif x43 == x45 then (bif b3 == b4 then PRun Tryz.prog 12 [] [.l 2 l5, .l 2 l6] (post [.B] [] (fun b8 => (bif b8 then (bif b5 == b6 then PRun Tryz.prog 4 [] [] (post [.B] [] (fun b9 => (Q (.u (.b b9)) [] : Prop))) else Q (.u (.b false)) []) else Q (.u (.b false)) [] : Prop))) else Q (.u (.b false)) []) else Q (.u (.b false)) []) else Q (.u (.b false)) []) else Q (.u (.b false)) [] : Prop))) : Prop))) : Prop)))) → k1 x45) → (bif !b4 then k1 0 else k1 x44))) : Prop))) : Prop))) : Prop))))) : PRun Tryz.prog 3 [] [.u (.s line), .u (.s text)] Q :=
 funS2 mixTd3 Tryz.func3 (by kernel_rfl) (H := ⟨[], [((3, 9, 2), ⟨[(11, .I)], []⟩)], [], [], [], false, 64, KN.no, false, SP.no⟩) (n := 2) (by kernel_rfl) hh
end Go.Proofs.YtaogfopaalancaaGreatDoor
/- From the symbolic engine's runs to the rows. -/
set_option linter.unusedVariables false
namespace Go.Proofs.YtaogfopaalancaaGreatDoor
open Go Go.Proofs Go.ChangeShapes Go.WideShapes Go.ChangeAt Go.RowKit
theorem Tryz.own : ownKnob Tryz.prog.godebug = none := by kernel_rfl
theorem Tryz.laidOut : laidOutB Tryz.prog = true := by kernel_rfl
theorem belowOf {W W' : World} (k : Keep W.heap W'.heap) (s : Same W W') : RowKit.Below W.heap.size W W' :=
 ⟨s.os, s.tape, s.output, k.size, fun b hb => k.blk b hb (by simp)⟩
theorem rd_scalar {D : Fz} {v : Value} {x : U} (hv : ∀ cs, v ≠ .agg cs) (h : RdL D v.cells.toList [x]) : Rd D v x := by
 have e : v.cells.toList = [v] := by cases v <;> first | rfl | exact absurd rfl (hv _)
 rw [e] at h
 cases h with | cons a _ => exact a
theorem rd_string {P : Program} {w : World} {r : Reach} {b t : Nat} {v : Value} {D : Fz} {x : U} (hv : Value.okWide P w r b t v) (hu : P.underlying t = some .string) (h : RdL D v.cells.toList [x]) : Rd D v x := by
 refine rd_scalar (fun cs e => ?_) h
 subst e
 unfold Value.okWide at hv
 rw [hu] at hv
 simp only [Cell.okWide, hu, Cell.ok] at hv
theorem SAt.all (h : Heap) [GlH h] : SAt (allD h) [] [] [] [] h := ⟨rfl, rfl, fun i L ab ch h => by simp at h, by simpa using St.all h⟩
end Go.Proofs.YtaogfopaalancaaGreatDoor
/- The library's functions on texts and numbers, by its own contracts. -/
set_option linter.unusedVariables false
namespace Go.Proofs.YtaogfopaalancaaGreatDoor
open Go Go.Proofs Go.Shelf Go.Lib
variable {Q : V → Mem → Prop}
theorem tab_is {P : Program} {w : World} {D : Fz} {C : List Chunk} {name : String} {g : Nat} {k : IntKind} {zs : List Int} (hg : P.globalNamed name = some g) (S : St D C w.heap) (t : GTab D.f g k zs) : TabIs P w name k zs := by
 obtain ⟨T, z, e⟩ := t
 unfold TabIs World.var?
 rw [hg]
 simp only [Option.bind_some, (S.fz _ _ e).1]
theorem cell_is {w : World} {D : Fz} {C : List Chunk} {g : Nat} {v : Value} {T : TypeId} {z : Nat × Nat} (S : St D C w.heap) (e : D.f g = some (.cells #[v] T z)) : w.cell? ⟨g, 0, none⟩ = some v := by
 show hcell w.heap _ = _
 rw [hcell_of (S.fz _ _ e).1]; rfl
theorem gSp : Tryz.prog.globalNamed "strings.asciiSpace" = some 0 := by kernel_rfl
theorem gPw : Tryz.prog.globalNamed "internal/strconv.uint64pow10" = some 4 := by kernel_rfl
theorem keep_app (h : Heap) (os : Array Obj) : Keep h (h ++ os) := ⟨by simp, fun b hb _ => by simp [Array.getElem?_append, hb]⟩
theorem callCut : Callable Tryz.prog 16 := ⟨_, Tryz.func16, by kernel_rfl, by kernel_rfl⟩
theorem callSplit : Callable Tryz.prog 27 := ⟨_, Tryz.func27, by kernel_rfl, by kernel_rfl⟩
theorem callFields : Callable Tryz.prog 47 := ⟨_, Tryz.func47, by kernel_rfl, by kernel_rfl⟩
theorem callItoa : Callable Tryz.prog 34 := ⟨_, Tryz.func34, by kernel_rfl, by kernel_rfl⟩
theorem callJoin : Callable Tryz.prog 50 := ⟨_, Tryz.func50, by kernel_rfl, by kernel_rfl⟩
theorem sCut_S (c : UInt8) {l : Bs} (hl : l.length < 4294967281) (k : Q (.t [.u (.s (bA (cutC c l).1)), .u (.s (bA (cutC c l).2.1)), .u (.b (cutC c l).2.2)]) []) : PRun Tryz.prog 16 [] [.u (.s (bA l)), .u (.s (bA [c]))] Q := by
 refine .keep fun D C h vs S F => ?_
 obtain ⟨v, w, rfl, h1, h2⟩ := F.two
 rw [Rd.str_iff.1 h1.u_inv, Rd.str_iff.1 h2.u_inv]
 refine ⟨callCut, fun w hw => ?_⟩
 subst hw
 obtain ⟨m, T, z, e⟩ := D.gl.ml
 refine (Any.strings_Cut Tryz.lays145 (bA l) (bA [c]) m w hl (cell_is S e)).mono ?_
 rintro e w' ⟨rfl, n, rfl⟩
 refine ⟨_, rfl, ⟨.refl _ _, _, .t (.cons (.u (.str _)) (.cons (.u (.str _)) (.cons (.u (.bool _)) .nil))), ?_⟩, ⟨rfl, rfl, rfl, trivial⟩⟩
 show Q (.t [.u (.s (bA (cut l [c]).1)), .u (.s (bA (cut l [c]).2.1)), .u (.b (cut l [c]).2.2)]) []
 rw [cut_lib]
 exact k
theorem sSplit_S (c : UInt8) {l : Bs} (hl : l.length < 4294967281) (k : Q (.l 1 ((splitC c l).map eB)) []) : PRun Tryz.prog 27 [] [.u (.s (bA l)), .u (.s (bA [c]))] Q := by
 refine PRun.texts (T := Tryz.laysM146_ren.t 9) (fun D C h vs S F => ?_) k
 obtain ⟨v, w, rfl, h1, h2⟩ := F.two
 rw [Rd.str_iff.1 h1.u_inv, Rd.str_iff.1 h2.u_inv]
 refine ⟨callSplit, fun w hw => ?_⟩
 subst hw
 obtain ⟨m, T, z, e⟩ := D.gl.ml
 refine (Any.strings_Split { Tryz.laysM146 with } Tryz.laysM146.i9 (bA l) (bA [c]) m w hl (cell_is S e) (Nat.le_refl 1)).mono ?_
 rintro e w' ⟨rfl, rfl⟩
 obtain ⟨g1, g2⟩ := split_lib c l.length l (Nat.le_refl _)
 have e1 : countB (bA l) (bA [c]) + 1 = (splitC c l).length := g2
 have e2 : (splitB (bA [c]) 0 (countB (bA l) (bA [c])) (bA l)).map Value.string = (splitC c l).map fun x => Value.string (bA x) := by
  have : (splitB (bA [c]) 0 (countB (bA l) (bA [c])) (bA l)).map (·.data.toList) = splitC c l := by rw [splitB_data]; exact g1
  rw [← this, List.map_map]; rfl
 rw [e1, e2]
 exact ⟨_, rfl, ⟨rfl, rfl⟩, ⟨rfl, rfl, rfl, trivial⟩⟩
theorem sFields_S {l : Bs} (hl : l.length < 4294967281) (ha : l.all (fun b => Nat.blt b.toNat 128) = true) (k : Q (.l 1 ((fields l).map eB)) []) : PRun Tryz.prog 47 [] [.u (.s (bA l))] Q := by
 refine PRun.texts (T := Tryz.laysM157_ren.t 9) (fun D C h vs S F => ?_) k
 obtain ⟨v, rfl, h1⟩ := F.one
 rw [Rd.str_iff.1 h1.u_inv]
 refine ⟨callFields, fun w hw => ?_⟩
 subst hw
 refine (Any.strings_Fields_laid Tryz.laysM157 (bA l) w hl (fun j b hb => ?_) (tab_is gSp S D.gl.sp)).mono ?_
 · have := List.all_eq_true.1 ha b (List.mem_of_getElem? hb)
   exact Nat.le_of_ble_eq_true this
 rintro e w' ⟨rfl, rfl⟩
 exact ⟨_, rfl, ⟨rfl, rfl⟩, ⟨rfl, rfl, rfl, trivial⟩⟩
theorem itoa_S {n : Int} (h0 : -9223372036854775808 ≤ n) (h1 : n ≤ 9223372036854775807) (k : Q (.u (.s (bA (itoa n)))) []) : PRun Tryz.prog 34 [] [.i n] Q := by
 refine .keep fun D C h vs S F => ?_
 obtain ⟨v, rfl, hv⟩ := F.one
 rw [Rd.int_iff.1 hv.u_inv]
 refine ⟨callItoa, fun w hw => ?_⟩
 subst hw
 refine (Any.strconv_Itoa Tryz.laysM171 n h0 h1 w (tab_is gPw S D.gl.pw)).mono ?_
 rintro e w' ⟨rfl, j, os, rfl⟩
 exact ⟨_, rfl, ⟨keep_app _ _, _, .u (.str _), k⟩, ⟨rfl, rfl, rfl, trivial⟩⟩
theorem rd_texts {D : Fz} {C : List Chunk} {h : Heap} {a : Option Addr} {n c : Nat} {l : List Bs} (S : St D C h) (hr : Rd D (.slice a n c) (.l 1 (l.map eB))) :
 (l = [] ∧ n = 0) ∨ ∃ b o, a = some ⟨b, o, none⟩ ∧ n = l.length ∧ l.length ≤ c ∧ b < h.size ∧ ∀ (j : Nat) x, l[j]? = some x → hcell h ⟨b, o + j, none⟩ = some (.string (bA x)) := by
 generalize hl : l.map eB = rows at hr
 cases hr with
 | nil => exact .inl ⟨by simpa using hl, rfl⟩
 | row b o c arr T f rows sz v h1 h2 h3 h4 h5 =>
   subst hl
   refine .inr ⟨b, o, rfl, by simp, by simpa using h2, lt_of_get (S.fz _ _ h1).1, fun j x hx => ?_⟩
   have e1 : (l.map eB)[j]? = some (eB x) := by rw [List.getElem?_map, hx]; rfl
   have e2 := h4 j 0 _ _ e1 rfl
   have e3 := Rd.str_iff.1 (h5 j 0 _ _ e1 rfl)
   rw [hcell_of (S.fz _ _ h1).1, ← e3, ← e2]
   simp
theorem sJoin_S {l : List Bs} {sep : Bs} (hl : l.length ≤ 1000000) (hj : (join l sep).length ≤ 140737488355328) (k : Q (.u (.s (bA (join l sep)))) []) : PRun Tryz.prog 50 [] [.l 1 (l.map eB), .u (.s (bA sep))] Q := by
 refine .keep fun D C h vs S F => ?_
 obtain ⟨v, w, rfl, h1, h2⟩ := F.two
 rw [Rd.str_iff.1 h2.u_inv]
 obtain ⟨a, c, rfl, -⟩ := h1.l_inv
 refine ⟨callJoin, fun w hw => ?_⟩
 subst hw
 rw [List.length_map] at *
 rcases rd_texts S h1.u_inv with ⟨rfl, hn⟩ | ⟨b, o, rfl, hn, hc, hb, hx⟩
 · refine (Any.strings_Join_none Tryz.lays156 Tryz.Builder_Extra_156 a c (bA sep) w).mono ?_
   rintro e w' ⟨rfl, rfl⟩
   exact ⟨_, rfl, ⟨.refl _ _, _, .u (.str _), k⟩, ⟨rfl, rfl, rfl, trivial⟩⟩
 · have e : (l.map bA).length = l.length := List.length_map _
   have e2 : (l.map bA).map (·.data.toList) = l := by rw [List.map_map]; exact List.map_id _
   have := Any.strings_Join Tryz.lays156 Tryz.Builder_Extra_156 b o c (l.map bA) (bA sep) w (fun j x hx' => by
    rw [List.getElem?_map] at hx'
    obtain ⟨y, hy, rfl⟩ := Option.map_eq_some_iff.1 hx'
    exact hx j y hy) hb (by rw [e]; omega) (by rw [e]; exact hc) (by rw [e2]; exact hj)
   rw [e, e2] at this
   refine this.mono ?_
   rintro e w' ⟨rfl, bw⟩
   exact ⟨_, rfl, ⟨⟨bw.size, fun b hb _ => bw.block b hb⟩, _, .u (.str _), k⟩, ⟨bw.tape, bw.os, bw.output, trivial⟩⟩
end Go.Proofs.YtaogfopaalancaaGreatDoor
/- Texts: the reference's parts and numbers. -/
set_option linter.unusedVariables false
namespace Go.Proofs.YtaogfopaalancaaGreatDoor
open Go Go.Proofs Go.Lib
variable {Q : V → Mem → Prop}
theorem bEq (a b : Bs) : (ByteArray.toList (bA a) == ByteArray.toList (bA b)) = decide (a = b) := by
 rw [ByteArray.toList_eq, ByteArray.toList_eq]
 rw [Bool.eq_iff_iff]; simp
section
variable {L t l : Bs} {a : UInt8} {x : Int}
theorem At.c1 (p : At L x t (a :: l)) : decide (x < (ByteArray.size (bA L) : Int)) = true := decide_eq_true p.suf.lt.2
theorem At.c0 (p : At L x t []) : decide (x < (ByteArray.size (bA L) : Int)) = false := decide_eq_false p.suf.nlt
theorem At.cg (p : At L x t (a :: l)) : Array.getD (bA L).data (Int.toNat x) 0 = a := by
 rw [bA_get, List.getD, p.suf.get]; rfl
theorem At.kx (p : At L x t (a :: l)) : Int.toNat x = t.length := by rw [p.k]; simp
theorem At.cl (p : At L x t (a :: l)) : ByteArray.extract (bA L) 0 (Int.toNat x) = bA t := by
 rw [bA_ext, p.kx, p.e]; simp
theorem At.cx (p : At L x t (a :: l)) : ByteArray.extract (bA L) (Int.toNat x) (Int.toNat (IntKind.wrap .i64 (x + 1))) = bA [a] := by
 rw [p.suf.wr, bA_ext, show (x + 1).toNat = t.length + 1 by have := p.k; omega, p.kx, p.e]
 simp [List.take_append]
theorem At.cr (p : At L x t (a :: l)) : ByteArray.extract (bA L) (Int.toNat (IntKind.wrap .i64 (x + 1))) (Int.toNat (ByteArray.size (bA L) : Int)) = bA l := by
 rw [p.suf.wr, bA_ext, show (x + 1).toNat = t.length + 1 by have := p.k; omega, show Int.toNat (ByteArray.size (bA L) : Int) = L.length from rfl, List.take_length, p.e]
 simp [List.drop_append]
end
theorem in_S {l : List Bs} {s : Bs} (hl : l.length ≤ 1000000000000) (k : Q (.u (.b (decide (s ∈ l)))) []) : PRun Tryz.prog 21 [] [.l 1 (l.map eB), .u (.s (bA s))] Q := by
 refine S21 ⟨AtI l fun t _ => s ∉ t, SufM l, .zero hl (by simp), ?_⟩
 rintro x ⟨t, _ | ⟨a, r⟩, p, h⟩
 · rw [p.d0, cond_false]
   rw [p.all] at h
   simpa [h] using k
 · rw [p.d1, cond_true, p.el]
   simp only [ug0, dS_s, bEq]
   refine cIf (fun e => ?_) fun e => ?_
   · have : s ∈ l := by rw [p.e]; simp [e]
     simpa [this] using k
   · exact p.step (by simp [h]; exact Ne.symm e)
theorem rcut_S {c : UInt8} {l : Bs} (hl : l.length ≤ 1000000000000) (k : Q (.t [.u (.s (bA (cutC c l).1)), .u (.s (bA (cutC c l).2.1)), .u (.b (cutC c l).2.2)]) []) : PRun Tryz.prog 20 [] [.u (.s (bA l)), .u (.i .u8 c.toNat)] Q := by
 refine S20 ⟨AtI l fun t r => cutA c t r = cutC c l, SufM l, .zero hl rfl, ?_⟩
 rintro x ⟨t, _ | ⟨a, r⟩, p, h⟩
 · rw [p.c0, cond_false]
   rw [← h, cutA, p.all] at k
   exact k
 · rw [p.c1, cond_true, p.cg]
   refine ⟨p.suf.lt.1, p.suf.lt.2, cEq (fun e => ?_) fun e => ?_⟩
   · obtain rfl : a = c := u8_ext (by omega)
     rw [cutA, if_pos rfl] at h
     rw [← h] at k
     have := p.suf.lt
     have hz := bA_size l
     rw [p.cl, p.cr, p.suf.wr]
     exact ⟨by omega, by omega, by omega, by omega, Int.le_refl _, k⟩
   · rw [cutA, if_neg (fun hh => e (by rw [hh]))] at h
     exact p.step h
theorem rsplit_S {c : UInt8} {l : Bs} (hl : l.length ≤ 900000) (k : Q (.l 1 ((splitC c l).map eB)) []) : PRun Tryz.prog 28 [] [.u (.s (bA l)), .u (.i .u8 c.toNat)] Q := by
 refine S28 ⟨fun out part x => ∃ t r, At l x t r ∧ ∃ o q, out = o.map eB ∧ part = bA q ∧ o ++ splitA c q r = splitC c l ∧ o.length + q.length ≤ t.length, fun _ _ x => SufM l x, ⟨[], l, .zero (by omega), [], [], rfl, rfl, rfl, by simp⟩, ?_⟩
 rintro _ _ x ⟨t, _ | ⟨a, r⟩, p, o, q, rfl, rfl, h, hb⟩
 · rw [p.c0, cond_false]
   rw [p.all] at hb
   rw [splitA] at h
   rw [← h, List.map_append] at k
   exact ⟨by simp [apOk]; omega, k⟩
 · rw [p.c1, cond_true, p.cg]
   have ht : t.length + 1 ≤ l.length := by rw [p.e]; simp
   refine ⟨p.suf.lt.1, p.suf.lt.2, cEq (fun e => ?_) fun e => ?_⟩
   · obtain rfl : a = c := u8_ext (by omega)
     rw [splitA, if_pos rfl] at h
     rw [p.suf.wr]
     exact ⟨by simp [apOk]; omega, ⟨_, r, p.succ, o ++ [q], [], by simp, rfl, by rw [← h]; simp, by simp; omega⟩, p.suf.me⟩
   · rw [splitA, if_neg (fun hh => e (by rw [hh]))] at h
     have := p.suf.lt
     have hz := bA_size l
     rw [p.cx, bA_app, p.suf.wr, bA_size q, bA_size [a]]
     exact ⟨by omega, by omega, by omega, by rw [List.length_singleton]; omega, ⟨_, r, p.succ, o, q ++ [a], rfl, rfl, h, by simp; omega⟩, p.suf.me⟩
theorem strOf1 (n : Int) : strOf [n] = bA [UInt8.ofNat n.toNat] := rfl
theorem u8w {x : Int} (h : 0 ≤ x) (h2 : x < 256) : IntKind.wrap .u8 x = x := by
 rw [IntKind.wrap_u8]; omega
theorem num0_S : ∀ u : Nat, u ≤ 9223372036854775808 → (u : Int) ≤ 9223372036854775807 → ∀ {Q : V → Mem → Prop}, Q (.u (.s (bA (decDigits u)))) [] → PRun Tryz.prog 26 [] [.i u] Q := by
 intro u
 induction u using Nat.strongRecOn with
 | _ u ih =>
   intro hu hu' Q k
   refine S26 ?_
   rw [decide_eq_false (by omega), cond_false]
   refine cIf (fun h9 => ?_) fun h9 => ?_
   · have e1 : Int.tdiv (u : Int) 10 = ((u / 10 : Nat) : Int) := by rw [Int.tdiv_eq_ediv_of_nonneg (by omega)]; omega
     have e2 : Int.tmod (u : Int) 10 = ((u % 10 : Nat) : Int) := by rw [Int.tmod_eq_emod_of_nonneg (by omega)]; omega
     rw [e1, e2, w64 (by omega) (by omega)]
     refine ⟨by omega, ih (u / 10) (by omega) (by omega) (by omega) ?_⟩
     rw [post_S]
     refine ⟨by omega, ih (u % 10) (by omega) (by omega) (by omega) ?_⟩
     rw [post_S, bA_app, bA_size, bA_size]
     have d1 := (dec_len (u := u / 10) (by omega)).2
     have d2 := (dec_len (u := u % 10) (by omega)).2
     have : decDigits u = decDigits (u / 10) ++ decDigits (u % 10) := by
      rw [decDigits, dif_neg (by omega), decDigits_one (i := u % 10) (by omega)]
     rw [← this]
     exact ⟨by omega, k⟩
   · rw [w64 (by omega) (by omega), u8w (by omega) (by omega), strOf1, show ((48 : Int) + u).toNat = 48 + u by omega, ← decDigits_one (by omega)]
     exact k
theorem num1_S : ∀ u : Nat, 1 ≤ u → u ≤ 9223372036854775808 → ∀ {Q : V → Mem → Prop}, Q (.u (.s (bA (45 :: decDigits u)))) [] → PRun Tryz.prog 26 [] [.i (-(u : Int))] Q := by
 intro u
 induction u using Nat.strongRecOn with
 | _ u ih =>
   intro h1 hu Q k
   refine S26 ?_
   rw [decide_eq_true (by omega), cond_true]
   refine cIf (fun h9 => ?_) fun h9 => ?_
   · rw [show (0 : Int) - -(u : Int) = u by omega, w64 (by omega) (by omega)]
     refine num0_S u (by omega) (by omega) ?_
     rw [post_S]
     have d1 := (dec_len (u := u) (by omega)).2
     refine ⟨?_, k⟩
     show 1 + (decDigits u).length < _
     omega
   · have e1 : Int.tdiv (-(u : Int)) 10 = -((u / 10 : Nat) : Int) := by rw [Int.neg_tdiv, Int.tdiv_eq_ediv_of_nonneg (by omega)]; omega
     have e2 : Int.tmod (-(u : Int)) 10 = -((u % 10 : Nat) : Int) := by rw [Int.neg_tmod, Int.tmod_eq_emod_of_nonneg (by omega)]; omega
     rw [e1, e2, w64 (by omega) (by omega)]
     refine ⟨by omega, ih (u / 10) (by omega) (by omega) (by omega) ?_⟩
     rw [post_S, show (0 : Int) - -((u % 10 : Nat) : Int) = ((u % 10 : Nat) : Int) by omega, w64 (by omega) (by omega)]
     refine ⟨by omega, num0_S (u % 10) (by omega) (by omega) ?_⟩
     rw [post_S, bA_app, bA_size, bA_size]
     have d1 := (dec_len (u := u / 10) (by omega)).2
     have d2 := (dec_len (u := u % 10) (by omega)).2
     have : decDigits u = decDigits (u / 10) ++ decDigits (u % 10) := by
      rw [decDigits, dif_neg (by omega), decDigits_one (i := u % 10) (by omega)]
     rw [List.cons_append, ← this]
     exact ⟨by simp only [List.length_cons]; omega, k⟩
theorem rnum_S {n : Int} (h0 : -9223372036854775808 ≤ n) (h1 : n ≤ 9223372036854775807) (k : Q (.u (.s (bA (itoa n)))) []) : PRun Tryz.prog 26 [] [.i n] Q := by
 unfold itoa at k
 by_cases h : n < 0
 · rw [if_pos h] at k
   have e : n = -(n.natAbs : Int) := by omega
   generalize n.natAbs = u at *
   subst e
   exact num1_S u (by omega) (by omega) k
 · rw [if_neg h] at k
   obtain ⟨u, rfl⟩ := Int.eq_ofNat_of_zero_le (show 0 ≤ n by omega)
   exact num0_S u (by omega) (by omega) k
theorem dig_S {L t r : Bs} {c : UInt8} {n x : Int} (p : At L x t (c :: r)) (h1 : -9223372036854775808 ≤ n) (h2 : n ≤ 0) {F A : Prop} (kf : refD (c :: r) n = none → F)
 (ka : refD (c :: r) n = refD r (10 * n - ((c.toNat : Int) - 48)) → -9223372036854775808 ≤ 10 * n - ((c.toNat : Int) - 48) → 10 * n - ((c.toNat : Int) - 48) ≤ 0 →
  IntKind.wrap .i64 (IntKind.wrap .i64 (10 * n) - IntKind.wrap .i64 (IntKind.wrap .u8 ((UInt8.toNat (Array.getD (bA L).data (Int.toNat x) 0) : Int) - 48))) = 10 * n - ((c.toNat : Int) - 48) → A) :
 0 ≤ x ∧ x < (ByteArray.size (bA L) : Int) ∧ (bif decide ((UInt8.toNat (Array.getD (bA L).data (Int.toNat x) 0) : Int) < 48) then F else 0 ≤ x ∧ x < (ByteArray.size (bA L) : Int) ∧ (bif decide ((UInt8.toNat (Array.getD (bA L).data (Int.toNat x) 0) : Int) > 57) then F else (bif decide (n < -922337203685477580) then F else 0 ≤ x ∧ x < (ByteArray.size (bA L) : Int) ∧
   (bif decide (IntKind.wrap .i64 (10 * n) < IntKind.wrap .i64 (-9223372036854775808 + IntKind.wrap .i64 (IntKind.wrap .u8 ((UInt8.toNat (Array.getD (bA L).data (Int.toNat x) 0) : Int) - 48)))) then F else A)))) := by
 have b1 := p.suf.lt
 have hz := bA_size L
 rw [p.cg] at *
 refine ⟨b1.1, by omega, cIf (fun e => kf (by rw [refD, if_pos (by omega)])) fun e1 => ⟨b1.1, by omega, cIf (fun e => kf (by rw [refD, if_pos (by omega)])) fun e2 => cIf (fun e => kf (by rw [refD, if_pos (by omega)])) fun e3 => ⟨b1.1, by omega, ?_⟩⟩⟩
 have w1 : IntKind.wrap .u8 ((c.toNat : Int) - 48) = (c.toNat : Int) - 48 := u8w (by omega) (by omega)
 have w2 : IntKind.wrap .i64 (10 * n) = 10 * n := w64 (by omega) (by omega)
 have w3 : IntKind.wrap .i64 ((c.toNat : Int) - 48) = (c.toNat : Int) - 48 := w64 (by omega) (by omega)
 rw [w1, w2, w3]
 rw [w64 (x := -9223372036854775808 + ((c.toNat : Int) - 48)) (by omega) (by omega)]
 refine cIf (fun e => kf (by rw [refD, if_neg (by omega), if_pos (by omega)])) fun e4 => ka (by rw [refD, if_neg (by omega), if_neg (by omega)]) (by omega) (by omega) (by rw [w2, w1, w3]; exact w64 (by omega) (by omega))
theorem rNumber_S {l : Bs} (hl : l.length ≤ 1000000000000) (k1 : ∀ v, numL l = some v → Q (.t [.i v, .u (.b true)]) []) (k0 : numL l = none → ∀ n, Q (.t [.i n, .u (.b false)]) []) : PRun Tryz.prog 8 [] [.u (.s (bA l))] Q := by
 have hz := bA_size l
 have hv := refV_num l
 refine S8 (cIf (fun e => ?_) fun e1 => cIf (fun e => ?_) fun e2 => ⟨by omega, by omega, ?_⟩)
 · rw [refV, if_pos (by omega)] at hv
   exact k0 hv.symm _
 · rw [refV, if_pos (by omega)] at hv
   exact k0 hv.symm _
 have bad : refD (if l.head? = some 45 then l.tail else l) 0 = none → ∀ n, Q (.t [.i n, .u (.b false)]) [] := fun h => k0 (by
  rw [← hv, refV, if_neg (by omega)]
  by_cases hb : l.head? = some 45
  · rw [if_pos hb] at h ⊢; rw [h]
  · rw [if_neg hb] at h ⊢; rw [h])
 have fin : ∀ v, -9223372036854775808 ≤ v → v ≤ 9223372036854775807 → refV l = some v → PRun Tryz.prog 26 [] [.i v] (post [.S] [] fun s1 => Q (.t [.i v, .u (.b (ByteArray.toList s1 == ByteArray.toList (bA l)))]) []) := fun v h1 h2 h3 => by
  refine rnum_S h1 h2 ?_
  rw [post_S, bEq]
  rw [h3] at hv
  simp only at hv
  by_cases he : itoa v = l
  · rw [if_pos he] at hv
    rw [decide_eq_true he]; exact k1 v hv.symm
  · rw [if_neg he] at hv
    rw [decide_eq_false he]; exact k0 hv.symm v
 obtain ⟨c0, l0, hc⟩ : ∃ c0 l0, l = c0 :: l0 := by
  cases l with
  | nil => rw [hz] at e1; exact absurd (show ((([] : Bs).length : Nat) : Int) < 1 by decide) e1
  | cons c0 l0 => exact ⟨c0, l0, rfl⟩
 have g0 : Array.getD (bA l).data (Int.toNat 0) 0 = c0 := by subst hc; rfl
 rw [g0]
 have hd0 : (l.head? = some 45) ↔ ((c0.toNat : Int) == 45) = true := by
  rw [hc, List.head?_cons]
  constructor
  · intro hh; cases hh; rfl
  · intro hh
    have : (c0.toNat : Int) = 45 := by simpa using hh
    rw [show c0 = 45 from u8_ext (by show c0.toNat = 45; omega)]
 refine ⟨fun n x => ∃ t r, At l x t r ∧ -9223372036854775808 ≤ n ∧ n ≤ 0 ∧ (t = [] → n = 0) ∧ (¬ (t = [] ∧ l.head? = some 45) → refD r n = refD (if l.head? = some 45 then l.tail else l) 0), fun _ x => SufM l x,
  ⟨[], l, .zero hl, by omega, by omega, fun _ => rfl, fun h => by rw [if_neg (fun hb => h ⟨rfl, hb⟩)]⟩, ?_⟩
 rintro n x ⟨t, _ | ⟨c, r⟩, p, h1, h2, h3, h4⟩
 · rw [p.c0, cond_false]
   have ht : t ≠ [] := fun e => by have := p.all; rw [e, hc] at this; cases this
   have h5 := h4 fun h => ht h.1
   rw [refD] at h5
   by_cases hb : l.head? = some 45
   · rw [hd0.1 hb, Bool.not_true, cond_false]
     rw [if_pos hb] at h5
     exact fin n (by omega) (by omega) (by rw [refV, if_neg (by omega), if_pos hb, ← h5])
   · have hb' : ((c0.toNat : Int) == 45) = false := by rw [← Bool.not_eq_true]; exact fun h => hb (hd0.2 h)
     rw [hb', Bool.not_false, cond_true]
     rw [if_neg hb] at h5
     refine cEq (fun e => ?_) fun e => ?_
     · rw [refV, if_neg (by omega), if_neg hb, ← h5] at hv
       simp only [if_pos e] at hv
       exact k0 hv.symm 0
     · rw [show (0 : Int) - n = -n by omega, w64 (by omega) (by omega)]
       exact fin (-n) (by omega) (by omega) (by rw [refV, if_neg (by omega), if_neg hb, ← h5]; simp only [if_neg e])
 · rw [p.c1, cond_true]
   have dig : ¬ (t = [] ∧ l.head? = some 45) → _ := fun hh => dig_S (F := Q (.t [.i 0, .u (.b false)]) []) (A := (∃ t r, At l (IntKind.wrap .i64 (x + 1)) t r ∧ -9223372036854775808 ≤ IntKind.wrap .i64 (IntKind.wrap .i64 (10 * n) - IntKind.wrap .i64 (IntKind.wrap .u8 ((UInt8.toNat (Array.getD (bA l).data (Int.toNat x) 0) : Int) - 48))) ∧ IntKind.wrap .i64 (IntKind.wrap .i64 (10 * n) - IntKind.wrap .i64 (IntKind.wrap .u8 ((UInt8.toNat (Array.getD (bA l).data (Int.toNat x) 0) : Int) - 48))) ≤ 0 ∧ (t = [] → IntKind.wrap .i64 (IntKind.wrap .i64 (10 * n) - IntKind.wrap .i64 (IntKind.wrap .u8 ((UInt8.toNat (Array.getD (bA l).data (Int.toNat x) 0) : Int) - 48))) = 0) ∧ (¬ (t = [] ∧ l.head? = some 45) → refD r (IntKind.wrap .i64 (IntKind.wrap .i64 (10 * n) - IntKind.wrap .i64 (IntKind.wrap .u8 ((UInt8.toNat (Array.getD (bA l).data (Int.toNat x) 0) : Int) - 48)))) = refD (if l.head? = some 45 then l.tail else l) 0)) ∧ SufM l (IntKind.wrap .i64 (x + 1)) < SufM l x) p h1 h2 (fun h => bad (by rw [← h4 hh, h]) 0) fun a1 a2 a3 a4 => by
    rw [a4, p.suf.wr]
    exact ⟨⟨t ++ [c], r, p.succ, a2, a3, fun h => by simp at h, fun _ => by rw [← a1, h4 hh]⟩, p.suf.me⟩
   refine cEq (fun e => ?_) fun e => ?_
   · have ht : t = [] := by have := p.k; exact List.eq_nil_of_length_eq_zero (by omega)
     by_cases hb : l.head? = some 45
     · rw [hd0.1 hb, cond_true, p.suf.wr]
       refine ⟨⟨t ++ [c], r, p.succ, h1, h2, fun h => by simp at h, fun _ => ?_⟩, p.suf.me⟩
       rw [if_pos hb, h3 ht]
       have := p.e
       rw [ht, List.nil_append] at this
       rw [this, List.tail_cons]
     · have hb' : ((c0.toNat : Int) == 45) = false := by rw [← Bool.not_eq_true]; exact fun h => hb (hd0.2 h)
       rw [hb', cond_false]
       exact dig fun h => hb h.2
   · exact dig fun h => e (by have := p.k; rw [h.1] at this; simpa using this)
end Go.Proofs.YtaogfopaalancaaGreatDoor
/- The code's numbers: by the kit's walk, as the library hands out an error. -/
set_option linter.unusedVariables false
namespace Go.Proofs.YtaogfopaalancaaGreatDoor
open Go Go.Proofs Go.Lib Go.Shelf Go.RowKit
variable {Q : V → Mem → Prop}
theorem tab_below {w w' : World} {name : String} {k : IntKind} {zs : List Int} {g : Nat} (hg : Tryz.prog.globalNamed name = some g) (hlt : g < w.heap.size) (b : Below w.heap.size w w') (h : TabIs Tryz.prog w name k zs) : TabIs Tryz.prog w' name k zs := by
 unfold TabIs World.var? at *
 rw [hg] at *
 simp only [Option.bind_some] at *
 rw [b.block g hlt]; exact h
theorem below_grow {n : Nat} {w w' : World} (b : Below n w w') (hn : n ≤ w'.heap.size) (j : Nat) (os : Array Obj) : Below n w (Sort.grow (w'.drewN j) os) :=
 ⟨b.os, b.tape, b.output, Nat.le_trans b.size (by simp [Sort.grow]), fun k hk => by
  rw [← b.block k hk]
  show (w'.heap ++ os)[k]? = _
  rw [Array.getElem?_append_left (by omega)]⟩
set_option maxRecDepth 100000 in
theorem number_ok (s : ByteArray) (v : Int) (b : Bool) (hb : b = (itoa v == s.toList)) (h : parseIntB 64 s.data.toList = .ok v) (h0 : -9223372036854775808 ≤ v) (h1 : v ≤ 9223372036854775807) (hmax : s.size ≤ 9223372036854775806) (w : World) (hlt : 4 < w.heap.size) (htab : TabIs Tryz.prog w "internal/strconv.uint64pow10" .u64 pow10Tab) :
 Calls Tryz.prog 7 #[.string s] w fun e w' => e = .returned (.tuple #[.int .i64 (cond b v 0), .bool b]) ∧ Below w.heap.size w w' := by
 go_enter Tryz.func7, Tryz.ntmps7
 go_wp2_with (first
  | (go_at_call 24; refine (Any.strconv_ParseInt_10_at64_ok Tryz.laysC174 s hmax v h _).mono ?_; rintro e w' ⟨rfl, hw⟩
     have hw1 : Below w.heap.size w w' := by
      rcases hw with rfl | ⟨t, rfl⟩
      · exact .refl _ _
      · exact Go.Joins.below_bytesWorld _ _ _ _ (Nat.le_refl _)
     clear hw)
  | (go_at_call 25; refine (Any.strconv_FormatInt_10 Tryz.laysM173 v h0 h1 _ (tab_below gPw hlt (by assumption) htab)).mono ?_; rintro e w' ⟨rfl, j, os, rfl⟩))
 · have hx : (!itoa v == s.toList) = true := by assumption
   rw [← hb] at hx
   obtain rfl : b = false := by simpa using hx
   go_ret2
   exact ⟨rfl, below_grow hw1 hw1.size _ _⟩
 · have hx : (!itoa v == s.toList) = false := by assumption
   rw [← hb] at hx
   obtain rfl : b = true := by simpa using hx
   go_ret2
   exact ⟨rfl, below_grow hw1 hw1.size _ _⟩
set_option maxRecDepth 100000 in
theorem number_bad (s : ByteArray) (h : ∀ v, parseIntB 64 s.data.toList ≠ .ok v) (hlim : s.size ≤ 281474976710656) (w : World) (hs : ∃ t p, w.cell? ⟨2, 0, none⟩ = some (.iface t p)) (hr : ∃ t p, w.cell? ⟨3, 0, none⟩ = some (.iface t p)) :
 Calls Tryz.prog 7 #[.string s] w fun e w' => e = .returned (.tuple #[.int .i64 0, .bool false]) ∧ Below w.heap.size w w' := by
 obtain ⟨t1, p1, hs⟩ := hs
 obtain ⟨t2, p2, hr⟩ := hr
 have key : Calls Tryz.prog 24 #[.string s, .int .i64 10, .int .i64 64] w fun e w' => (∃ n t p, e = .returned (.tuple #[.int .i64 n, .iface t p])) ∧ Below w.heap.size w w' := by
  rcases hp : parseIntB 64 s.data.toList with v | _ | _
  · exact absurd hp (h v)
  · exact (Any.strconv_ParseInt_10_at64_syntax Tryz.laysC174 s hlim hp _ w hs (.inr ⟨_, _, rfl⟩)).mono fun e w' ⟨N, he, _, _, hb⟩ => ⟨⟨_, _, _, he⟩, hb⟩
  · exact (Any.strconv_ParseInt_10_at64_range Tryz.laysC174 s hlim hp _ w hr (.inr ⟨_, _, rfl⟩)).mono fun e w' ⟨N, he, _, _, hb⟩ => ⟨⟨_, _, _, he⟩, hb⟩
 go_enter Tryz.func7, Tryz.ntmps7
 go_wp2_with (go_at_call 24; refine key.mono ?_; rintro e w' ⟨⟨n, t, p, rfl⟩, hw⟩)
 go_ret2
 exact ⟨rfl, by assumption⟩
theorem callNum : Callable Tryz.prog 7 := ⟨_, Tryz.func7, by kernel_rfl, by kernel_rfl⟩
theorem number_S {l : Bs} (hl : l.length ≤ 1000000000000) (k1 : ∀ v, numL l = some v → Q (.t [.i v, .u (.b true)]) []) (k0 : numL l = none → Q (.t [.i 0, .u (.b false)]) []) : PRun Tryz.prog 7 [] [.u (.s (bA l))] Q := by
 refine .keep fun D C h vs S F => ?_
 obtain ⟨v, rfl, hv⟩ := F.one
 rw [Rd.str_iff.1 hv.u_inv]
 refine ⟨callNum, fun w hw => ?_⟩
 subst hw
 have hz := bA_size l
 by_cases hp : ∃ v, parseIntB 64 l = .ok v
 · obtain ⟨v, hp⟩ := hp
   have hin := parse_in hp
   obtain ⟨T, z, e⟩ := D.gl.pw
   refine (number_ok (bA l) v _ rfl hp hin.1 hin.2 (by omega) w (lt_of_get (S.fz _ _ e).1) (tab_is gPw S D.gl.pw)).mono ?_
   rintro e w' ⟨rfl, hb⟩
   refine ⟨_, rfl, ⟨⟨hb.size, fun b hb' _ => hb.block b hb'⟩, _, .t (.cons (.u (.int _ _)) (.cons (.u (.bool _)) .nil)), ?_⟩, ⟨hb.tape, hb.os, hb.output, trivial⟩⟩
   have e1 : (itoa v == (bA l).toList) = decide (itoa v = l) := by
    rw [ByteArray.toList_eq, Bool.eq_iff_iff]; simp
   rw [e1]
   by_cases he : itoa v = l
   · rw [decide_eq_true he]
     exact k1 v (numL_iff.2 ⟨hin.1, hin.2, he⟩)
   · rw [decide_eq_false he]
     refine k0 ?_
     cases hn : numL l with
     | none => rfl
     | some u =>
       obtain ⟨g1, g2, rfl⟩ := numL_iff.1 hn
       rw [parse_itoa g1 g2] at hp
       cases hp
       exact absurd rfl he
 · obtain ⟨t1, p1, T1, z1, e1⟩ := D.gl.es
   obtain ⟨t2, p2, T2, z2, e2⟩ := D.gl.er
   refine (number_bad (bA l) (fun v hv => hp ⟨v, hv⟩) (by omega) w ⟨_, _, cell_is S e1⟩ ⟨_, _, cell_is S e2⟩).mono ?_
   rintro e w' ⟨rfl, hb⟩
   refine ⟨_, rfl, ⟨⟨hb.size, fun b hb' _ => hb.block b hb'⟩, _, .t (.cons (.u (.int _ _)) (.cons (.u (.bool _)) .nil)), k0 ?_⟩, ⟨hb.tape, hb.os, hb.output, trivial⟩⟩
   cases hn : numL l with
   | none => rfl
   | some u =>
     obtain ⟨g1, g2, rfl⟩ := numL_iff.1 hn
     exact absurd ⟨u, parse_itoa g1 g2⟩ hp
end Go.Proofs.YtaogfopaalancaaGreatDoor
/- Texts: words and stacks of both sides. -/
set_option linter.unusedVariables false
namespace Go.Proofs.YtaogfopaalancaaGreatDoor
open Go Go.Proofs Go.Lib
variable {Q : V → Mem → Prop}
theorem splitA_len (c : UInt8) : ∀ l p, (splitA c p l).length ≤ l.length + 1
 | [], p => by simp [splitA]
 | b :: l, p => by
   rw [splitA]; split
   · have := splitA_len c l []; simp; omega
   · have := splitA_len c l (p ++ [b]); simp; omega
theorem rwords_S {l : Bs} (hl : l.length ≤ 900000) (k : Q (.l 1 ((wordsL l).map eB)) []) : PRun Tryz.prog 18 [] [.u (.s (bA l))] Q := by
 refine S18 (rsplit_S (c := 32) hl ?_)
 rw [post_L]
 have hlen : (splitC 32 l).length ≤ l.length + 1 := splitA_len 32 l []
 refine ⟨fun out x => ∃ o, out = o.map eB ∧ AtI (splitC 32 l) (fun t r => o = t.filter (fun p => !p.isEmpty)) x, fun _ x => SufM (splitC 32 l) x, ⟨[], rfl, .zero (by omega) rfl⟩, ?_⟩
 rintro _ x ⟨o, rfl, t, _ | ⟨a, r⟩, p, rfl⟩
 · rw [p.d0, cond_false, p.all]
   exact k
 · rw [p.d1, cond_true, p.el, p.el]
   simp only [ug0, dS_s]
   rw [show ByteArray.mk #[] = bA [] from rfl, bEq]
   have ht : t.length + 1 ≤ l.length + 1 := by have := congrArg List.length p.e; rw [List.length_append, List.length_cons] at this; omega
   have hf := List.length_filter_le (fun p : Bs => !p.isEmpty) t
   by_cases ha : a = []
   · rw [decide_eq_true ha, Bool.not_true, cond_false]
     rw [p.suf.wr]
     refine ⟨⟨_, rfl, t ++ [a], r, p.succ, ?_⟩, p.suf.me⟩
     show t.filter (fun p : Bs => !p.isEmpty) = (t ++ [a]).filter fun p => !p.isEmpty
     rw [List.filter_append, ha]; simp
   · rw [decide_eq_false ha, Bool.not_false, cond_true]
     refine ⟨by simp only [apOk, List.length_map, List.length_singleton]; omega, ?_⟩
     rw [p.suf.wr]
     refine ⟨⟨t.filter (fun p => !p.isEmpty) ++ [a], by simp, t ++ [a], r, p.succ, ?_⟩, p.suf.me⟩
     show t.filter (fun p : Bs => !p.isEmpty) ++ [a] = (t ++ [a]).filter fun p => !p.isEmpty
     rw [List.filter_append]
     cases a with
     | nil => exact absurd rfl ha
     | cons => rfl
theorem si_inj (D : Fz) {s s' : ByteArray} {p p' : Nat} (h : Ob.si s p = Ob.si s' p') : s = s' ∧ p = p' := by
 have h1 := congrArg Ob.f h
 have h2 : ([(0, Obj.stringIter s p)] : Chunk) = [(0, .stringIter s' p')] := (congrFun (congrFun (congrFun h1 D) 0) [(0, .stringIter s p)]).mp rfl
 injection h2 with h3
 injection h3 with _ h3
 injection h3 with h3 h4
 exact ⟨h3, h4⟩
noncomputable def siM (X : Ob) : Nat := open Classical in if h : ∃ q : ByteArray × Nat, X = Ob.si q.1 q.2 then h.choose.1.size - h.choose.2 else 0
theorem siM_si (D : Fz) (s : ByteArray) (p : Nat) : siM (.si s p) = s.size - p := by
 unfold siM
 have h : ∃ q : ByteArray × Nat, Ob.si s p = Ob.si q.1 q.2 := ⟨(s, p), rfl⟩
 rw [dif_pos h]
 obtain ⟨h1, h2⟩ := si_inj D h.choose_spec
 rw [← h1, ← h2]
theorem get_bang (l : Bs) (j : Nat) : (bA l).get! j = l.getD j 0 := by
 show (Array.mk l)[j]! = _
 by_cases h : j < l.length
 · simp [h, List.getD]
 · simp [h, List.getD]; rfl
theorem not_sp {b : UInt8} (h : b.toNat / 64 = 2) : b ≠ 32 := fun e => by rw [e] at h; exact absurd h (by decide)
theorem dec_sp {l : Bs} {p : Nat} (hp : p < l.length) : ((Utf8.decode (bA l) p).1 = 32 ↔ l.getD p 0 = 32) ∧ 1 ≤ (Utf8.decode (bA l) p).2 ∧
 p + (Utf8.decode (bA l) p).2 ≤ l.length ∧ ∀ j, p < j → j < p + (Utf8.decode (bA l) p).2 → l.getD j 0 ≠ 32 := by
 have hz : ((l.getD p 0).toNat = 32 ↔ l.getD p 0 = 32) := ⟨fun h => u8_ext h, fun h => by rw [h]; rfl⟩
 have big : ∀ {c : Nat}, 128 ≤ c → ¬ (l.getD p 0).toNat < 128 → (c = 32 ↔ l.getD p 0 = 32) := fun hc hb => ⟨fun e => by omega, fun e => by rw [e] at hb; exact absurd (by decide) hb⟩
 have one : ¬ (l.getD p 0).toNat < 128 → ((Utf8.runeError, 1).1 = 32 ↔ l.getD p 0 = 32) ∧ 1 ≤ (Utf8.runeError, 1).2 ∧ p + (Utf8.runeError, 1).2 ≤ l.length ∧ ∀ j, p < j → j < p + (Utf8.runeError, 1).2 → l.getD j 0 ≠ 32 := fun hb =>
  ⟨big (by decide) hb, Nat.le_refl _, hp, fun j h1 h2 => by simp only at h2; omega⟩
 unfold Utf8.decode
 simp only [get_bang, Nat.add_zero, bA_size]
 split
 · exact ⟨hz, Nat.le_refl _, hp, fun j h1 h2 => by simp only at h2; omega⟩
 rename_i hb
 split
 · rename_i h
   simp only [Bool.and_eq_true, beq_iff_eq, decide_eq_true_eq] at h
   split
   · rename_i hc
     refine ⟨big hc hb, Nat.le_of_ble_eq_true rfl, h.2.1, fun j h1 h2 => ?_⟩
     simp only at h2
     rw [show j = p + 1 by omega]; exact not_sp h.2.2
   · exact one hb
 split
 · rename_i h
   simp only [Bool.and_eq_true, beq_iff_eq, decide_eq_true_eq] at h
   split
   · rename_i hc
     simp only [Bool.and_eq_true, decide_eq_true_eq] at hc
     refine ⟨big (by omega) hb, Nat.le_of_ble_eq_true rfl, h.2.1, fun j h1 h2 => ?_⟩
     simp only at h2
     rcases (show j = p + 1 ∨ j = p + 2 by omega) with rfl | rfl
     · exact not_sp h.1.2.2
     · exact not_sp h.2.2
   · exact one hb
 split
 · rename_i h
   simp only [Bool.and_eq_true, beq_iff_eq, decide_eq_true_eq] at h
   split
   · rename_i hc
     simp only [Bool.and_eq_true, decide_eq_true_eq] at hc
     refine ⟨big (by omega) hb, Nat.le_of_ble_eq_true rfl, h.2.1, fun j h1 h2 => ?_⟩
     simp only at h2
     rcases (show j = p + 1 ∨ j = p + 2 ∨ j = p + 3 by omega) with rfl | rfl | rfl
     · exact not_sp h.1.1.2.2
     · exact not_sp h.1.2.2
     · exact not_sp h.2.2
   · exact one hb
 · exact one hb
theorem words_nil : wordsL [] = [] := rfl
theorem words_S {l : Bs} (hl : l.length ≤ 900000) (k : Q (.l 1 ((wordsL l).map eB)) []) : PRun Tryz.prog 14 [] [.u (.s (bA l))] Q := by
 refine (Classical.em (Nonempty Fz)).elim (fun hD => ?_) fun hD => fun D => absurd ⟨D⟩ hD
 obtain ⟨D0⟩ := hD
 have hz := bA_size l
 refine S14 ⟨by show (l.length : Nat) + 1 < _; omega, ?_⟩
 rw [show ByteArray.mk #[32] = bA [32] from rfl, bA_app]
 obtain ⟨L, hL⟩ : ∃ L, L = l ++ [32] := ⟨_, rfl⟩
 rw [← hL]
 have hLl : L.length = l.length + 1 := by rw [hL]; simp
 have hLw : wordsL L = wordsL l := by rw [hL, words_sp]
 refine ⟨fun out x X => ∃ f p o, X = Ob.si (bA L) p ∧ x = (f : Nat) ∧ f ≤ p ∧ p ≤ L.length ∧ (∀ j, f ≤ j → j < p → L.getD j 0 ≠ 32) ∧ out = o.map eB ∧ o ++ wordsL (L.drop f) = wordsL l ∧ o.length ≤ f, fun _ _ X => siM X,
  ⟨0, 0, [], rfl, rfl, Nat.le_refl _, Nat.zero_le _, fun j h1 h2 => by omega, rfl, by rw [List.drop_zero, hLw]; rfl, Nat.le_refl _⟩, ?_⟩
 rintro _ _ _ ⟨f, p, o, rfl, rfl, h1, h2, h3, rfl, h4, h5⟩
 refine ⟨_, _, rfl, ?_⟩
 by_cases hp : p < L.length
 · rw [show Nat.ble (p + 1) (ByteArray.size (bA L)) = true from Nat.ble_eq_true_of_le hp, cond_true]
   obtain ⟨d1, d2, d3, d4⟩ := dec_sp hp
   have hm : siM (.si (bA L) (p + (Utf8.decode (bA L) p).2)) < siM (.si (bA L) p) := by
    rw [siM_si D0, siM_si D0, bA_size]; omega
   refine cNe (fun e => ?_) fun e => ?_
   · refine ⟨⟨f, _, o, rfl, rfl, by omega, d3, fun j g1 g2 => ?_, rfl, h4, h5⟩, hm⟩
     rcases Nat.lt_trichotomy j p with hj | rfl | hj
     · exact h3 j g1 hj
     · exact fun hh => e (by rw [d1.2 hh]; rfl)
     · exact d4 j hj g2
   have hsp : L.getD p 0 = 32 := d1.1 (by omega)
   have hu : (32 : UInt8) ∉ (L.drop f).take (p - f) := fun hm' => by
    obtain ⟨j, hj⟩ := List.mem_iff_getElem?.1 hm'
    rw [List.getElem?_take] at hj
    split at hj
    · rw [List.getElem?_drop] at hj
      exact h3 (f + j) (by omega) (by omega) (by rw [List.getD, hj]; rfl)
    · cases hj
   have hsplit : L.drop f = (L.drop f).take (p - f) ++ 32 :: L.drop (p + 1) := by
    have e1 : (L.drop f).drop (p - f) = L.drop p := by rw [List.drop_drop]; congr 1; omega
    have e2 : L.drop p = 32 :: L.drop (p + 1) := by
     rw [List.drop_eq_getElem_cons hp]
     congr 1
     rw [List.getD, List.getElem?_eq_getElem hp] at hsp
     exact hsp
    rw [← e2, ← e1, List.take_append_drop]
   rw [hsplit, words_app hu] at h4
   have w1 : IntKind.wrap .i64 ((p : Int) + 1) = ((p + 1 : Nat) : Int) := by rw [w64 (by omega) (by omega)]; rfl
   have hI : ∀ (o' : List Bs), o' ++ wordsL (L.drop (p + 1)) = wordsL l → o'.length ≤ p + 1 → ∃ f' p' o'', Ob.si (bA L) (p + (Utf8.decode (bA L) p).2) = Ob.si (bA L) p' ∧ (((p + 1 : Nat) : Int)) = (f' : Nat) ∧ f' ≤ p' ∧ p' ≤ L.length ∧ (∀ j, f' ≤ j → j < p' → L.getD j 0 ≠ 32) ∧ o'.map eB = o''.map eB ∧ o'' ++ wordsL (L.drop f') = wordsL l ∧ o''.length ≤ f' :=
    fun o' g1 g2 => ⟨p + 1, _, o', rfl, rfl, by omega, d3, fun j h h' => d4 j (by omega) h', rfl, g1, g2⟩
   rw [w1]
   refine cIf (fun g => ?_) fun g => ?_
   · have hne : (L.drop f).take (p - f) ≠ [] := fun hh => by
      have := congrArg List.length hh
      rw [List.length_take, List.length_drop, List.length_nil] at this
      omega
     rw [if_neg hne] at h4
     have hx : ByteArray.extract (bA l) (Int.toNat (f : Int)) (Int.toNat (p : Int)) = bA ((L.drop f).take (p - f)) := by
      rw [Int.toNat_natCast, Int.toNat_natCast, bA_ext, ← List.drop_take, hL, List.take_append_of_le_length (by omega)]
     rw [hx]
     refine ⟨by omega, by omega, by omega, by simp only [apOk, List.length_map, List.length_singleton]; omega, ?_, hm⟩
     have := hI (o ++ [(L.drop f).take (p - f)]) (by rw [← h4]; simp) (by rw [List.length_append, List.length_singleton]; omega)
     rw [List.map_append] at this
     exact this
   · have he : (L.drop f).take (p - f) = [] := by rw [show p - f = 0 by omega]; rfl
     rw [if_pos he] at h4
     exact ⟨hI o h4 (by omega), hm⟩
 · rw [show Nat.ble (p + 1) (ByteArray.size (bA L)) = false by rw [← Bool.not_eq_true]; exact fun h => hp (Nat.le_of_ble_eq_true h), cond_false]
   have hf : f = L.length := by
    rcases Nat.lt_or_ge l.length f with h | h
    · omega
    · exfalso
      refine h3 l.length h (by omega) ?_
      rw [hL, List.getD, List.getElem?_append_right (Nat.le_refl _), Nat.sub_self]; rfl
   rw [hf, List.drop_length, words_nil, List.append_nil] at h4
   rw [h4]; exact k
end Go.Proofs.YtaogfopaalancaaGreatDoor
/- Stacks of a text, on both sides. -/
set_option linter.unusedVariables false
namespace Go.Proofs.YtaogfopaalancaaGreatDoor
open Go Go.Proofs Go.Lib
variable {Q : V → Mem → Prop}
abbrev eP (x : Int × Int) : List U := [.n x.1, .n x.2]
def stackL (p : Bs) : Option (Int × Int) :=
 match numL (cutC 120 p).1, numL (cutC 120 p).2.1 with
 | some a, some b => some (a, b)
 | _, _ => none
def stacksF : List Bs → Option (List (Int × Int))
 | [] => some []
 | p :: r => match stackL p, stacksF r with
   | some a, some l => some (a :: l)
   | _, _ => none
def stacksL (l : Bs) : Option (List (Int × Int)) := if 8 < (splitC 44 l).length then none else stacksF (splitC 44 l)
def stV (o : Option (List (Int × Int))) : V := .t [.l 2 ((o.getD []).map eP), .u (.b o.isSome)]
theorem numL_nil : numL [] = none := rfl
theorem cutA_nf (c : UInt8) : ∀ (l p : Bs), (cutA c p l).2.2 = false → (cutA c p l).2.1 = []
 | [], p, h => rfl
 | b :: l, p, h => by
   rw [cutA] at h ⊢
   split at h
   · cases h
   · rename_i hb
     rw [if_neg hb]; exact cutA_nf c l _ h
theorem stackL_nf {p : Bs} (h : (cutC 120 p).2.2 = false) : stackL p = none := by
 unfold stackL
 rw [cutA_nf 120 p [] h, numL_nil]
 cases numL (cutC 120 p).1 <;> rfl
theorem post_SSB {m : Mem} {x y : ByteArray} {b : Bool} {F : ByteArray → ByteArray → Bool → Prop} : post [.S, .S, .B] [] F (.t [.u (.s x), .u (.s y), .u (.b b)]) m = F x y b := rfl
theorem post_IB {m : Mem} {n : Int} {b : Bool} {F : Int → Bool → Prop} : post [.I, .B] [] F (.t [.i n, .u (.b b)]) m = F n b := rfl
theorem cutA_len (c : UInt8) : ∀ (l p : Bs), (cutA c p l).1.length ≤ p.length + l.length ∧ (cutA c p l).2.1.length ≤ l.length
 | [], p => by simp [cutA]
 | b :: l, p => by
   rw [cutA]; split
   · simp
   · have := cutA_len c l (p ++ [b])
     simp only [List.length_append, List.length_cons, List.length_nil] at *
     omega
theorem splitA_el (c : UInt8) : ∀ (l p : Bs) (x : Bs), x ∈ splitA c p l → x.length ≤ p.length + l.length
 | [], p, x, h => by simp [splitA] at h; rw [h]; simp
 | b :: l, p, x, h => by
   rw [splitA] at h
   split at h
   · rcases List.mem_cons.1 h with rfl | h
     · omega
     · have := splitA_el c l [] x h; simp at *; omega
   · have := splitA_el c l _ x h
     simp only [List.length_append, List.length_cons, List.length_nil] at *
     omega
def StI (L : List Bs) (o : List (Int × Int)) (r : List Bs) : Prop := stacksF L = match stacksF r with | some q => some (o ++ q) | none => none
theorem StI.bad {L r : List Bs} {o : List (Int × Int)} {a : Bs} (h : StI L o (a :: r)) (e : stackL a = none) : stacksF L = none := by
 rw [h, stacksF, e]
theorem StI.good {L r : List Bs} {o : List (Int × Int)} {a : Bs} {x : Int × Int} (h : StI L o (a :: r)) (e : stackL a = some x) : StI L (o ++ [x]) r := by
 unfold StI at *
 rw [h, stacksF, e]
 cases stacksF r <;> simp
theorem stacks_S {l : Bs} (hl : l.length ≤ 900000) (k : Q (stV (stacksL l)) []) : PRun Tryz.prog 9 [] [.u (.s (bA l))] Q := by
 refine S9 (sSplit_S 44 (by omega) ?_)
 rw [post_L, List.length_map]
 unfold stacksL at k
 have hel := splitA_el 44 l []
 refine cIf (fun h8 => ?_) fun h8 => ?_
 · rw [if_pos (by omega)] at k; exact k
 rw [if_neg (by omega)] at k
 rw [← List.length_map (f := eB)]
 refine ⟨fun out x => ∃ o, out = o.map eP ∧ AtI (splitC 44 l) (fun t r => StI (splitC 44 l) o r ∧ o.length ≤ t.length) x, fun _ x => SufM (splitC 44 l) x, ⟨[], rfl, .zero (by omega) ⟨by unfold StI; cases stacksF (splitC 44 l) <;> rfl, Nat.le_refl _⟩⟩, ?_⟩
 rintro _ x ⟨o, rfl, t, _ | ⟨a, r⟩, p, h, hb⟩
 · rw [p.d0, cond_false]
   unfold StI at h
   simp only [stacksF, List.append_nil] at h
   rw [h] at k; exact k
 · rw [p.d1, cond_true, p.el]
   simp only [ug0, dS_s]
   have ha := hel a (by show a ∈ splitC 44 l; rw [p.e]; simp)
   have hc : (cutC 120 a).1.length ≤ a.length ∧ (cutC 120 a).2.1.length ≤ a.length := by simpa using cutA_len 120 a []
   have ht : t.length + 1 ≤ 8 := by have := congrArg List.length p.e; rw [List.length_append, List.length_cons] at this; omega
   simp only [List.length_nil] at ha
   refine sCut_S 120 (by omega) ?_
   rw [post_SSB]
   have bad : stackL a = none → Q (.t [.l 2 [], .u (.b false)]) [] := fun e => by rw [h.bad e] at k; exact k
   have n2 : ∀ (n : Int) (b : Bool), (b = true → numL (cutC 120 a).1 = some n) → (b = false → numL (cutC 120 a).1 = none) → PRun Tryz.prog 7 [] [.u (.s (bA (cutC 120 a).2.1))] (post [.I, .B] [] fun x3 b3 => (bif !b then Q (.t [.l 2 [], .u (.b false)]) [] else (bif !b3 then Q (.t [.l 2 [], .u (.b false)]) [] else apOk (o.map eP) [[.n n, .n x3]] ∧ ((∃ o', o.map eP ++ [[.n n, .n x3]] = o'.map eP ∧ AtI (splitC 44 l) (fun t r => StI (splitC 44 l) o' r ∧ o'.length ≤ t.length) (IntKind.wrap .i64 (x + 1))) ∧ SufM (splitC 44 l) (IntKind.wrap .i64 (x + 1)) < SufM (splitC 44 l) x)) : Prop)) := fun n b h1 h2 => by
    cases b with
    | false =>
      have e : stackL a = none := by unfold stackL; rw [h2 rfl]
      exact number_S (by omega) (fun v hv => by rw [post_IB]; exact bad e) fun hv => by rw [post_IB]; exact bad e
    | true =>
      refine number_S (by omega) (fun v hv => ?_) fun hv => ?_
      · rw [post_IB]
        have e : stackL a = some (n, v) := by unfold stackL; rw [h1 rfl, hv]
        refine ⟨by simp only [apOk, List.length_map, List.length_singleton]; omega, ?_⟩
        rw [p.suf.wr]
        exact ⟨⟨o ++ [(n, v)], by simp, t ++ [a], r, p.succ, h.good e, by simp; omega⟩, p.suf.me⟩
      · rw [post_IB]
        exact bad (by unfold stackL; rw [h1 rfl, hv])
   refine number_S (by omega) (fun v hv => ?_) fun hv => ?_
   · rw [post_IB]
     exact n2 v true (fun _ => hv) fun e => by cases e
   · rw [post_IB]
     exact n2 0 false (fun e => by cases e) fun _ => hv
theorem rstacks_S {l : Bs} (hl : l.length ≤ 900000) (k : Q (stV (stacksL l)) []) : PRun Tryz.prog 10 [] [.u (.s (bA l))] Q := by
 refine S10 (rsplit_S (c := 44) hl ?_)
 rw [post_L]
 unfold stacksL at k
 have hel := splitA_el 44 l []
 have hlen : (splitC 44 l).length ≤ l.length + 1 := splitA_len 44 l []
 refine ⟨fun out x => ∃ o, out = o.map eP ∧ AtI (splitC 44 l) (fun t r => StI (splitC 44 l) o r ∧ o.length = t.length) x, fun _ x => SufM (splitC 44 l) x, ⟨[], rfl, .zero (by omega) ⟨by unfold StI; cases stacksF (splitC 44 l) <;> rfl, rfl⟩⟩, ?_⟩
 rintro _ x ⟨o, rfl, t, _ | ⟨a, r⟩, p, h, hb⟩
 · rw [p.d0, cond_false, List.length_map]
   unfold StI at h
   simp only [stacksF, List.append_nil] at h
   rw [p.all] at hb
   refine cIf (fun h8 => ?_) fun h8 => ?_
   · rw [if_pos (by omega)] at k; exact k
   · rw [if_neg (by omega), h] at k; exact k
 · rw [p.d1, cond_true, p.el]
   simp only [ug0, dS_s]
   have ha := hel a (by show a ∈ splitC 44 l; rw [p.e]; simp)
   have hc : (cutC 120 a).1.length ≤ a.length ∧ (cutC 120 a).2.1.length ≤ a.length := by simpa using cutA_len 120 a []
   have ht : t.length + 1 ≤ l.length + 1 := by have := congrArg List.length p.e; rw [List.length_append, List.length_cons] at this; omega
   simp only [List.length_nil] at ha
   refine rcut_S (c := 120) (by omega) ?_
   rw [post_SSB]
   have bad : stackL a = none → Q (.t [.l 2 [], .u (.b false)]) [] := fun e => by
    rw [h.bad e] at k
    split at k <;> exact k
   have n2 : ∀ (n : Int) (b : Bool), (b = true → numL (cutC 120 a).1 = some n) → (b = false → numL (cutC 120 a).1 = none) → PRun Tryz.prog 8 [] [.u (.s (bA (cutC 120 a).2.1))] (post [.I, .B] [] fun x3 b3 => (bif !(cutC 120 a).2.2 then Q (.t [.l 2 [], .u (.b false)]) [] else (bif !b then Q (.t [.l 2 [], .u (.b false)]) [] else (bif !b3 then Q (.t [.l 2 [], .u (.b false)]) [] else apOk (o.map eP) [[.n n, .n x3]] ∧ ((∃ o', o.map eP ++ [[.n n, .n x3]] = o'.map eP ∧ AtI (splitC 44 l) (fun t r => StI (splitC 44 l) o' r ∧ o'.length = t.length) (IntKind.wrap .i64 (x + 1))) ∧ SufM (splitC 44 l) (IntKind.wrap .i64 (x + 1)) < SufM (splitC 44 l) x))) : Prop)) := fun n b h1 h2 => by
    cases hf : (cutC 120 a).2.2 with
    | false =>
      have e := stackL_nf hf
      exact rNumber_S (by omega) (fun v hv => by rw [post_IB]; exact bad e) fun hv n => by rw [post_IB]; exact bad e
    | true =>
    cases b with
    | false =>
      have e : stackL a = none := by unfold stackL; rw [h2 rfl]
      exact rNumber_S (by omega) (fun v hv => by rw [post_IB]; exact bad e) fun hv n => by rw [post_IB]; exact bad e
    | true =>
      refine rNumber_S (by omega) (fun v hv => ?_) fun hv n => ?_
      · rw [post_IB]
        have e : stackL a = some (n, v) := by unfold stackL; rw [h1 rfl, hv]
        refine ⟨by simp only [apOk, List.length_map, List.length_singleton]; omega, ?_⟩
        rw [p.suf.wr]
        exact ⟨⟨o ++ [(n, v)], by simp, t ++ [a], r, p.succ, h.good e, by simp; omega⟩, p.suf.me⟩
      · rw [post_IB]
        exact bad (by unfold stackL; rw [h1 rfl, hv])
   refine rNumber_S (by omega) (fun v hv => ?_) fun hv n => ?_
   · rw [post_IB]
     exact n2 v true (fun _ => hv) fun e => by cases e
   · rw [post_IB]
     exact n2 n false (fun e => by cases e) fun _ => hv
theorem clone_S {s : List (List U)} {K : List (List U) → Prop} (hs : s.length ≤ 1000000) (k : K s) : PRun Tryz.prog 53 [] [.l 2 s] (post [.L 2] [] K) := by
 refine S53 ?_
 cases s with
 | nil => exact ⟨by rw [post_L]; exact k, by simp [apOk], k⟩
 | cons a s =>
   refine ⟨by simpa [apOk] using hs, ?_⟩
   show post [.L 2] [] K (.l 2 ([] ++ a :: s)) []
   rw [post_L]; exact k
theorem same_S {a b : List (Int × Int)} (ha : a.length ≤ 1000000000000) (hb : b.length ≤ 1000000000000) (k : Q (.u (.b (decide (a = b)))) []) : PRun Tryz.prog 12 [] [.l 2 (a.map eP), .l 2 (b.map eP)] Q := by
 refine S12 ?_
 refine cNe (fun e => ?_) fun e => ?_
 all_goals rw [List.length_map, List.length_map] at e
 · rw [decide_eq_false (fun h => e (by rw [h]))] at k; exact k
 have hlen : a.length = b.length := by omega
 refine ⟨fun x => ∃ t l l', At a x t l ∧ At b x t l', SufM a, ⟨[], a, b, .zero ha, .zero hb⟩, ?_⟩
 rintro x ⟨t, _ | ⟨u, l⟩, l', p, q⟩
 · rw [p.d0, cond_false]
   have : l' = [] := by
    have h1 := congrArg List.length p.e; have h2 := congrArg List.length q.e
    rw [List.length_append] at h1 h2
    exact List.eq_nil_of_length_eq_zero (by simp at h1; omega)
   subst this
   rw [decide_eq_true (by rw [← p.all, ← q.all])] at k; exact k
 · rw [p.d1, cond_true]
   cases l' with
   | nil =>
     have h1 := congrArg List.length p.e; have h2 := congrArg List.length q.e
     rw [List.length_append] at h1 h2
     simp at h1 h2; omega
   | cons w l' =>
     rw [q.d1, cond_true, p.el]
     simp only [ug0, ugs, dI_n]
     rw [q.el]
     simp only [ug0, ugs, dI_n]
     by_cases he : u = w
     · subst he
       simp only [beq_self_eq_true, Bool.and_self, Bool.not_true, cond_false]
       rw [p.suf.wr]
       exact ⟨⟨_, l, l', p.succ, q.succ⟩, p.suf.me⟩
     · have : (!(u.1 == w.1 && (u.2 == w.2 && true))) = true := by
        rw [Bool.not_eq_true', Bool.and_true, ← Bool.not_eq_true]
        intro h
        simp only [Bool.and_eq_true, beq_iff_eq] at h
        exact he (Prod.ext h.1 h.2)
       rw [this, cond_true]
       rw [decide_eq_false (fun h => by
        rw [p.e, q.e] at h
        have := List.append_cancel_left h
        injection this with h1; exact he h1)] at k
       exact k
end Go.Proofs.YtaogfopaalancaaGreatDoor
/- Commands: their words and fields. -/
set_option linter.unusedVariables false
set_option maxRecDepth 100000
namespace Go.Proofs.YtaogfopaalancaaGreatDoor
open Go Go.Proofs Go.Lib
variable {Q : V → Mem → Prop}
def nmL : List Bs := [[119, 104, 111], [97, 115], [100, 105, 118], [105, 100], [116, 111], [105, 110, 116, 111], [112, 108, 97, 99, 101], [100, 101, 115, 116], [116, 121, 112, 101], [110], [112, 108, 101, 100, 103, 101], [108, 97, 115, 116, 115], [100, 97, 121, 115], [114, 117, 110, 115], [99, 111, 112, 105, 101, 115], [114, 111, 108, 101, 115], [109, 101], [116, 101], [98, 97, 121]]
def kdL : List (Bs × Bs) := [([109, 105, 110, 116], [97, 115, 32, 110]),
 ([115, 101, 101, 100], [97, 115, 32, 100, 105, 118, 32, 112, 108, 97, 99, 101, 32, 116, 121, 112, 101, 32, 110]),
 ([100, 114, 97, 102, 116], [97, 115, 32, 100, 105, 118, 32, 112, 108, 97, 99, 101, 32, 116, 121, 112, 101, 32, 109, 101, 32, 116, 101, 32, 114, 117, 110, 115]),
 ([102, 111, 117, 110, 100], [119, 104, 111]),
 ([101, 110, 114, 111, 108], [119, 104, 111, 32, 97, 115, 32, 116, 111, 32, 114, 111, 108, 101, 115]),
 ([101, 120, 112, 101, 108], [119, 104, 111, 32, 97, 115, 32, 116, 111]),
 ([112, 97, 121], [119, 104, 111, 32, 97, 115, 32, 116, 111, 32, 110]),
 ([103, 105, 118, 101], [119, 104, 111, 32, 97, 115, 32, 100, 105, 118, 32, 116, 111, 32, 105, 110, 116, 111, 32, 112, 108, 97, 99, 101, 32, 116, 121, 112, 101, 32, 110]),
 ([105, 110, 115, 116, 97, 108, 108], [119, 104, 111, 32, 97, 115, 32, 100, 105, 118, 32, 98, 97, 121, 32, 105, 100, 32, 116, 121, 112, 101, 32, 114, 117, 110, 115, 32, 99, 111, 112, 105, 101, 115]),
 ([112, 97, 117, 115, 101], [119, 104, 111, 32, 105, 100]),
 ([114, 101, 115, 117, 109, 101], [119, 104, 111, 32, 105, 100]),
 ([99, 97, 110, 99, 101, 108], [119, 104, 111, 32, 105, 100]),
 ([100, 101, 108, 105, 118, 101, 114], [119, 104, 111, 32, 105, 100]),
 ([105, 115, 115, 117, 101], [119, 104, 111, 32, 97, 115, 32, 100, 105, 118, 32, 116, 121, 112, 101, 32, 116, 111, 32, 112, 108, 97, 99, 101, 32, 100, 101, 115, 116, 32, 110, 32, 112, 108, 101, 100, 103, 101, 32, 108, 97, 115, 116, 115, 32, 100, 97, 121, 115]),
 ([97, 99, 99, 101, 112, 116], [119, 104, 111, 32, 97, 115, 32, 100, 105, 118, 32, 105, 100]),
 ([104, 97, 110, 100], [119, 104, 111, 32, 105, 100]),
 ([102, 97, 105, 108], [119, 104, 111, 32, 105, 100]),
 ([114, 101, 106, 101, 99, 116], [119, 104, 111, 32, 105, 100]),
 ([114, 101, 118, 111, 107, 101], [119, 104, 111, 32, 105, 100]),
 ([116, 105, 99, 107], [110]),
 ([109, 111, 110, 101, 121], [119, 104, 111, 32, 97, 115]),
 ([115, 116, 97, 99, 107], [119, 104, 111, 32, 97, 115, 32, 100, 105, 118, 32, 112, 108, 97, 99, 101, 32, 116, 121, 112, 101]),
 ([106, 111, 98], [119, 104, 111, 32, 105, 100]),
 ([100, 101, 97, 108], [119, 104, 111, 32, 105, 100]),
 ([99, 108, 111, 99, 107], [119, 104, 111])]
def wdL : List Bs := kdL.map (·.1)
def fdL : List (List Bs) := kdL.map fun p => fields p.2
def posB : List Bs → Bs → Nat → Option Nat
 | [], _, _ => none
 | a :: r, s, k => if a = s then some k else posB r s (k + 1)
def kindOf (s : Bs) : Int := match posB wdL s 0 with | some j => (j : Int) + 1 | none => 0
def fieldsOf (k : Int) : List Bs := if k < 1 ∨ 25 < k then [] else fdL.getD (k - 1).toNat []
def nameOf (k : Int) : Bs := if k < 1 ∨ 25 < k then [] else wdL.getD (k - 1).toNat []
structure Cm where
 k : Int
 n : List Int
 g : List (Int × Int)
 w : List (Int × Int)
abbrev aV (k : Int) (n : List Int) (g w : List (List U)) : V := .a (.i k :: (n.map V.i ++ [.l 2 g, .l 2 w]))
abbrev Cm.v (c : Cm) : V := aV c.k c.n (c.g.map eP) (c.w.map eP)
def Cm.zero : Cm := ⟨0, List.replicate 19 0, [], []⟩
theorem list19 {n : List Int} (h : n.length = 19) : ∃ a1 a2 a3 a4 a5 a6 a7 a8 a9 a10 a11 a12 a13 a14 a15 a16 a17 a18 a19, n = [a1, a2, a3, a4, a5, a6, a7, a8, a9, a10, a11, a12, a13, a14, a15, a16, a17, a18, a19] := by
 match n, h with
 | [a1, a2, a3, a4, a5, a6, a7, a8, a9, a10, a11, a12, a13, a14, a15, a16, a17, a18, a19], _ => exact ⟨_, _, _, _, _, _, _, _, _, _, _, _, _, _, _, _, _, _, _, rfl⟩
def chP (s : Bs) (F : Nat → Prop) (d : Prop) : List Bs → Nat → Prop
 | [], _ => d
 | a :: r, k => cond (ByteArray.toList (bA a) == ByteArray.toList (bA s)) (F k) (chP s F d r (k + 1))
def chN (s : Bs) (F : Nat → Prop) (d : Prop) : List Bs → Nat → Prop
 | [], _ => d
 | a :: r, k => cond (ByteArray.toList (bA s) == ByteArray.toList (bA a)) (F k) (chN s F d r (k + 1))
theorem chP_of {s : Bs} {F : Nat → Prop} {d : Prop} : ∀ {l : List Bs} {i : Nat}, (∀ j, posB l s i = some j → F j) → (posB l s i = none → d) → chP s F d l i
 | [], i, h1, h2 => h2 rfl
 | a :: r, i, h1, h2 => by
   rw [chP, bEq]
   refine cIf (fun e => h1 i (by rw [posB, if_pos e])) fun e => chP_of (fun j hj => h1 j (by rw [posB, if_neg e, hj])) fun hj => h2 (by rw [posB, if_neg e, hj])
theorem chN_of {s : Bs} {F : Nat → Prop} {d : Prop} : ∀ {l : List Bs} {i : Nat}, (∀ j, posB l s i = some j → F j) → (posB l s i = none → d) → chN s F d l i
 | [], i, h1, h2 => h2 rfl
 | a :: r, i, h1, h2 => by
   rw [chN, bEq]
   refine cIf (fun e => h1 i (by rw [posB, if_pos e.symm])) fun e => chN_of (fun j hj => h1 j (by rw [posB, if_neg (fun h => e h.symm), hj])) fun hj => h2 (by rw [posB, if_neg (fun h => e h.symm), hj])
theorem posB_at {s : Bs} : ∀ {l : List Bs} {i j : Nat}, posB l s i = some j → i ≤ j ∧ l[j - i]? = some s
 | [], i, j, h => by cases h
 | a :: r, i, j, h => by
   rw [posB] at h
   split at h
   · rename_i e; cases h; exact ⟨Nat.le_refl _, by rw [Nat.sub_self, e]; rfl⟩
   · obtain ⟨h1, h2⟩ := posB_at h
     exact ⟨by omega, by rw [show j - i = (j - (i + 1)) + 1 by omega]; exact h2⟩
theorem posB_no {s : Bs} : ∀ {l : List Bs} {i : Nat}, posB l s i = none ↔ s ∉ l
 | [], i => by simp [posB]
 | a :: r, i => by
   rw [posB]
   split
   · rename_i e; simp [e]
   · rename_i e; rw [posB_no]; simp [Ne.symm e]
theorem ckind_S {s : Bs} (k : Q (.i (kindOf s)) []) : PRun Tryz.prog 15 [] [.u (.s (bA s))] Q :=
 S15 (show chP s (fun j => Q (.i ((j : Int) + 1)) []) (Q (.i 0) []) wdL 0 from chP_of (fun j hj => by unfold kindOf at k; rw [hj] at k; exact k) fun hj => by unfold kindOf at k; rw [hj] at k; exact k)
theorem kd_ascii : kdL.all (fun p => p.2.all fun b => Nat.blt b.toNat 128) = true := by decide +kernel
theorem kd_get {kind : Int} (h1 : ¬ kind < 1) (h2 : ¬ kind > 25) : ∃ p, kdL[(kind - 1).toNat]? = some p ∧ p ∈ kdL ∧ p.2.length < 1000 := by
 have hl : kdL.length = 25 := rfl
 have hlt : (kind - 1).toNat < kdL.length := by omega
 refine ⟨kdL[(kind - 1).toNat], List.getElem?_eq_getElem hlt, List.getElem_mem hlt, ?_⟩
 have : kdL.all (fun p => Nat.blt p.2.length 1000) = true := by decide +kernel
 exact Nat.le_of_ble_eq_true (List.all_eq_true.1 this _ (List.getElem_mem hlt))
abbrev eK (p : Bs × Bs) : List U := [.s (bA p.1), .s (bA p.2)]
theorem cfields_S {kind : Int} (k : Q (.l 1 ((fieldsOf kind).map eB)) []) : PRun Tryz.prog 32 [] [.i kind] Q := by
 unfold fieldsOf at k
 refine S32 (cIf (fun h => ?_) fun h1 => cIf (fun h => ?_) fun h2 => ?_)
 · rw [if_pos (.inl h)] at k; exact k
 · rw [if_pos (.inr h)] at k; exact k
 · rw [if_neg (by omega)] at k
   obtain ⟨p, hp, hm, hlen⟩ := kd_get h1 h2
   rw [w64 (by omega) (by omega)]
   have e : (kdL.map eK)[(kind - 1).toNat]? = some (eK p) := by rw [List.getElem?_map, hp]; rfl
   show elL (kdL.map eK) (kind - 1) _
   rw [elL_of (by omega) e]
   simp only [ug0, ugs, dS_s]
   refine sFields_S (by omega) (List.all_eq_true.1 kd_ascii p hm) ?_
   rw [post_L]
   rw [List.getD, fdL, List.getElem?_map, hp] at k
   exact k
theorem cname_S {kind : Int} (k : Q (.u (.s (bA (nameOf kind)))) []) : PRun Tryz.prog 31 [] [.i kind] Q := by
 unfold nameOf at k
 refine S31 (cIf (fun h => ?_) fun h1 => cIf (fun h => ?_) fun h2 => ?_)
 · rw [if_pos (.inl h)] at k; exact k
 · rw [if_pos (.inr h)] at k; exact k
 · rw [if_neg (by omega)] at k
   obtain ⟨p, hp, hm, hlen⟩ := kd_get h1 h2
   rw [w64 (by omega) (by omega)]
   have e : (kdL.map eK)[(kind - 1).toNat]? = some (eK p) := by rw [List.getElem?_map, hp]; rfl
   show elL (kdL.map eK) (kind - 1) _
   rw [elL_of (by omega) e]
   simp only [ug0, ugs, dS_s]
   rw [List.getD, wdL, List.getElem?_map, hp] at k
   exact k
theorem cget_S {c : Cm} (hn : c.n.length = 19) {name : Bs} (k1 : ∀ j, posB nmL name 0 = some j → Q (.t [.i (c.n.getD j 0), .u (.b true)]) []) (k0 : posB nmL name 0 = none → Q (.t [.i 0, .u (.b false)]) []) :
 PRun Tryz.prog 33 [] [c.v, .u (.s (bA name))] Q := by
 obtain ⟨ck, cn, cg, cw⟩ := c
 obtain ⟨a1, a2, a3, a4, a5, a6, a7, a8, a9, a10, a11, a12, a13, a14, a15, a16, a17, a18, a19, rfl⟩ := list19 hn
 exact S33 (show chN name (fun j => Q (.t [.i ([a1, a2, a3, a4, a5, a6, a7, a8, a9, a10, a11, a12, a13, a14, a15, a16, a17, a18, a19].getD j 0), .u (.b true)]) []) (Q (.t [.i 0, .u (.b false)]) []) nmL 0 from chN_of k1 k0)
theorem cset_S {c : Cm} (hn : c.n.length = 19) (hg : c.g.length ≤ 1000000) (hw : c.w.length ≤ 1000000) {name : Bs} {n : Int} (k1 : ∀ j, posB nmL name 0 = some j → Q (.t [(Cm.mk c.k (c.n.set j n) c.g c.w).v, .u (.b true)]) []) (k0 : posB nmL name 0 = none → Q (.t [Cm.zero.v, .u (.b false)]) []) :
 PRun Tryz.prog 39 [] [c.v, .u (.s (bA name)), .i n] Q := by
 obtain ⟨ck, cn, cg, cw⟩ := c
 obtain ⟨a1, a2, a3, a4, a5, a6, a7, a8, a9, a10, a11, a12, a13, a14, a15, a16, a17, a18, a19, rfl⟩ := list19 hn
 refine S39 (show chN name (fun j => PRun Tryz.prog 53 [] [.l 2 (cg.map eP)] (post [.L 2] [] fun l1 => PRun Tryz.prog 53 [] [.l 2 (cw.map eP)] (post [.L 2] [] fun l2 => Q (.t [aV ck ([a1, a2, a3, a4, a5, a6, a7, a8, a9, a10, a11, a12, a13, a14, a15, a16, a17, a18, a19].set j n) l1 l2, .u (.b true)]) []))) (Q (.t [Cm.zero.v, .u (.b false)]) []) nmL 0 from chN_of (fun j hj => ?_) k0)
 exact clone_S (by rw [List.length_map]; exact hg) (clone_S (by rw [List.length_map]; exact hw) (k1 j hj))
end Go.Proofs.YtaogfopaalancaaGreatDoor
/- Commands: checked; one more field; as lines. -/
set_option linter.unusedVariables false
set_option maxRecDepth 100000
namespace Go.Proofs.YtaogfopaalancaaGreatDoor
open Go Go.Proofs Go.Lib
variable {Q : V → Mem → Prop}
theorem contains_S {l : List Bs} {s : Bs} (hl : l.length ≤ 1000000000000) (k : Q (.u (.b (decide (s ∈ l)))) []) : PRun Tryz.prog 38 [] [.l 1 (l.map eB), .u (.s (bA s))] Q := by
 refine S38 ⟨AtI l fun t _ => s ∉ t, SufM l, .zero hl (by simp), ?_⟩
 rintro x ⟨t, _ | ⟨a, r⟩, p, h⟩
 · rw [p.d0, cond_false]
   rw [p.all] at h
   simpa [h] using k
 · rw [p.d1, cond_true, p.el]
   simp only [ug0, dS_s, bEq]
   refine cIf (fun e => ?_) fun e => ?_
   · have : s ∈ l := by rw [p.e]; simp [e]
     rw [decide_eq_true p.suf.lt.1]
     simpa [this] using k
   · exact p.step (by simp [h]; exact e)
def valOf (c : Cm) (s : Bs) : Int := match posB nmL s 0 with | some j => c.n.getD j 0 | none => 0
def badF (c : Cm) (f : List Bs) (l : List Bs) : Bool := l.any fun s => decide (valOf c s ≠ 0) && !decide (s ∈ f)
def listsOk (c : Cm) : Bool := if c.k = 14 then decide (c.g.length ≤ 8) && decide (c.w.length ≤ 8) else decide (c.g.length + c.w.length = 0)
def checkL (c : Cm) : Int := if (fieldsOf c.k).length = 0 ∨ listsOk c = false ∨ badF c (fieldsOf c.k) nmL = true then 1 else 0
theorem numbers_nm : fields [119, 104, 111, 32, 97, 115, 32, 100, 105, 118, 32, 105, 100, 32, 116, 111, 32, 105, 110, 116, 111, 32, 112, 108, 97, 99, 101, 32, 100, 101, 115, 116, 32, 116, 121, 112, 101, 32, 110, 32, 112, 108, 101, 100, 103, 101, 32, 108, 97, 115, 116, 115, 32, 100, 97, 121, 115, 32, 114, 117, 110, 115, 32, 99, 111, 112, 105, 101, 115, 32, 114, 111, 108, 101, 115, 32, 109, 101, 32, 116, 101, 32, 98, 97, 121] = nmL := by decide +kernel
theorem fieldsOf_len (k : Int) : (fieldsOf k).length ≤ 11 ∧ ∀ s ∈ fieldsOf k, s.length ≤ 10 := by
 unfold fieldsOf
 split
 · exact ⟨by simp, by simp⟩
 · have h1 : fdL.all (fun l => Nat.ble l.length 11 && l.all fun s => Nat.ble s.length 10) = true := by decide +kernel
   cases he : fdL[(k - 1).toNat]? with
   | none => rw [List.getD, he]; exact ⟨by simp, by simp⟩
   | some l =>
     rw [List.getD, he]
     have := List.all_eq_true.1 h1 l (List.mem_of_getElem? he)
     rw [Bool.and_eq_true] at this
     exact ⟨Nat.le_of_ble_eq_true this.1, fun s hs => Nat.le_of_ble_eq_true (List.all_eq_true.1 this.2 s hs)⟩
theorem ccheck_S {c : Cm} (hn : c.n.length = 19) (hg : c.g.length ≤ 1000000) (hw : c.w.length ≤ 1000000) (k : Q (.i (checkL c)) []) : PRun Tryz.prog 30 [] [c.v] Q := by
 obtain ⟨ck, cn, cg, cw⟩ := c
 obtain ⟨a1, a2, a3, a4, a5, a6, a7, a8, a9, a10, a11, a12, a13, a14, a15, a16, a17, a18, a19, hc⟩ := list19 hn
 rw [show (Cm.mk ck cn cg cw).v = aV ck [a1, a2, a3, a4, a5, a6, a7, a8, a9, a10, a11, a12, a13, a14, a15, a16, a17, a18, a19] (cg.map eP) (cw.map eP) by rw [show cn = _ from hc]]
 refine S30 (cfields_S ?_)
 rw [post_L, List.length_map, List.length_map, List.length_map]
 have hf := (fieldsOf_len ck).1
 have fin : ∀ b2 : Bool, b2 = listsOk ⟨ck, cn, cg, cw⟩ → (bif ((fieldsOf ck).length : Int) == 0 then Q (.i 1) [] else (bif !b2 then Q (.i 1) [] else PRun Tryz.prog 47 [] [.u (.s (ByteArray.mk #[119, 104, 111, 32, 97, 115, 32, 100, 105, 118, 32, 105, 100, 32, 116, 111, 32, 105, 110, 116, 111, 32, 112, 108, 97, 99, 101, 32, 100, 101, 115, 116, 32, 116, 121, 112, 101, 32, 110, 32, 112, 108, 101, 100, 103, 101, 32, 108, 97, 115, 116, 115, 32, 100, 97, 121, 115, 32, 114, 117, 110, 115, 32, 99, 111, 112, 105, 101, 115, 32, 114, 111, 108, 101, 115, 32, 109, 101, 32, 116, 101, 32, 98, 97, 121]))] (post [.L 1] [] (fun l2 => ∃ (I1 : Int → Prop) (f1 : Int → Nat), I1 0 ∧ (∀ x1 : Int, I1 x1 → (bif decide (x1 < (List.length l2 : Int)) then elL l2 x1 (fun r1 => dS (ug r1 0) (fun s1 => chN s1.data.toList (fun j => (bif cn.getD j 0 != 0 then PRun Tryz.prog 38 [] [.l 1 ((fieldsOf ck).map eB), .u (.s s1)] (post [.B] [] (fun b3 => (bif !b3 then Q (.i 1) [] else I1 (IntKind.wrap .i64 (x1 + 1)) ∧ f1 (IntKind.wrap .i64 (x1 + 1)) < f1 x1 : Prop))) else I1 (IntKind.wrap .i64 (x1 + 1)) ∧ f1 (IntKind.wrap .i64 (x1 + 1)) < f1 x1)) False nmL 0)) else Q (.i 0) [])))))) := fun b2 hb => by
  unfold checkL at k
  refine cEq (fun e => ?_) fun e => ?_
  · rw [if_pos (.inl (by show (fieldsOf ck).length = 0; omega))] at k; exact k
  cases hl : b2 with
  | false => rw [if_pos (.inr (.inl (by rw [← hb, hl])))] at k; exact k
  | true =>
  rw [Bool.not_true, cond_false]
  refine sFields_S (by decide) (by decide +kernel) ?_
  rw [numbers_nm, post_L]
  have hnl : nmL.length = 19 := rfl
  refine ⟨AtI nmL fun t r => badF ⟨ck, cn, cg, cw⟩ (fieldsOf ck) nmL = badF ⟨ck, cn, cg, cw⟩ (fieldsOf ck) r, SufM nmL, .zero (by omega) rfl, ?_⟩
  rintro x ⟨t, _ | ⟨a, r⟩, p, h⟩
  · rw [p.d0, cond_false]
    rw [if_neg (by rw [← hb, hl, h]; rintro (h | h | h); exact e (by have : (fieldsOf ck).length = 0 := h; omega); cases h; cases h)] at k
    exact k
  · rw [p.d1, cond_true, p.el]
    simp only [ug0, dS_s]
    show chN a _ False nmL 0
    refine chN_of (fun j hj => ?_) fun hj => absurd (by rw [p.e]; simp) (posB_no.1 hj)
    have hv : valOf ⟨ck, cn, cg, cw⟩ a = cn.getD j 0 := by unfold valOf; rw [hj]
    have hbd : badF ⟨ck, cn, cg, cw⟩ (fieldsOf ck) (a :: r) = ((decide (cn.getD j 0 ≠ 0) && !decide (a ∈ fieldsOf ck)) || badF ⟨ck, cn, cg, cw⟩ (fieldsOf ck) r) := by
     rw [← hv]; rfl
    refine cNe (fun e1 => contains_S (by omega) ?_) fun e1 => ?_
    · rw [post_B]
      by_cases hm : a ∈ fieldsOf ck
      · rw [decide_eq_true hm, Bool.not_true, cond_false]
        exact p.step (by rw [h, hbd, decide_eq_true hm]; simp)
      · rw [decide_eq_false hm, Bool.not_false, cond_true]
        rw [if_pos (.inr (.inr (by rw [h, hbd, decide_eq_false hm, decide_eq_true e1]; rfl)))] at k
        exact k
    · exact p.step (by rw [h, hbd, decide_eq_false (fun hh => hh e1)]; rfl)
 have hg : cg.length ≤ 1000000 := hg
 have hw : cw.length ≤ 1000000 := hw
 intro k1 h1
 have key : ∀ b1, b1 = (decide (cg.length ≤ 8) && decide (cw.length ≤ 8)) → k1 b1 := fun b1 hb1 => h1 b1 fun k2 h2 => by
  rw [show cn = _ from hc] at fin
  refine cNe (fun e => h2 _ (fin _ ?_)) fun e => h2 _ (fin _ ?_)
  · unfold listsOk
    rw [if_neg e, w64 (by omega) (by omega), Bool.eq_iff_iff]
    simp only [beq_iff_eq, decide_eq_true_eq]; omega
  · unfold listsOk
    rw [if_pos e, hb1]
 refine cIf (fun e => key _ ?_) fun e => key _ ?_
 · rw [decide_eq_true (show cg.length ≤ 8 by omega), Bool.true_and, Bool.eq_iff_iff]
   simp only [decide_eq_true_eq]; omega
 · rw [decide_eq_false (show ¬ cg.length ≤ 8 by omega), Bool.false_and]
def givesB : Bs := [103, 105, 118, 101, 115]
def wantsB : Bs := [119, 97, 110, 116, 115]
def setV (c : Cm) (s : Bs) (n : Int) : Cm := match posB nmL s 0 with | some j => ⟨c.k, c.n.set j n, c.g, c.w⟩ | none => .zero
def fieldL (c : Cm) (name text : Bs) : Option Cm :=
 if c.k = 14 ∧ name = givesB then (stacksL text).map fun x => ⟨c.k, c.n, x, c.w⟩
 else if c.k = 14 ∧ name = wantsB then (stacksL text).map fun x => ⟨c.k, c.n, c.g, x⟩
 else match numL text with
  | none => none
  | some n => if name ∈ fieldsOf c.k then some (setV c name n) else none
theorem fd_nm : (fdL.all fun l => l.all fun s => (posB nmL s 0).isSome) = true := by decide +kernel
theorem fieldsOf_nm {k : Int} {s : Bs} (h : s ∈ fieldsOf k) : ∃ j, posB nmL s 0 = some j ∧ j < 19 := by
 have key : (posB nmL s 0).isSome = true := by
  unfold fieldsOf at h
  split at h
  · cases h
  · cases he : fdL[(k - 1).toNat]? with
    | none => rw [List.getD, he] at h; cases h
    | some l => rw [List.getD, he] at h; exact List.all_eq_true.1 (List.all_eq_true.1 fd_nm l (List.mem_of_getElem? he)) s h
 obtain ⟨j, hj⟩ := Option.isSome_iff_exists.1 key
 have := (posB_at hj).2
 have := (List.getElem?_eq_some_iff.1 this).1
 exact ⟨j, hj, by rw [show nmL.length = 19 from rfl] at this; omega⟩
theorem post_AB {m : Mem} {k : Int} {n : List Int} {g w : List (List U)} {b : Bool} (hn : n.length = 19) {F : Int → Int → Int → Int → Int → Int → Int → Int → Int → Int → Int → Int → Int → Int → Int → Int → Int → Int → Int → Int → List (List U) → List (List U) → Bool → Prop}
 (h : ∀ a1 a2 a3 a4 a5 a6 a7 a8 a9 a10 a11 a12 a13 a14 a15 a16 a17 a18 a19, n = [a1, a2, a3, a4, a5, a6, a7, a8, a9, a10, a11, a12, a13, a14, a15, a16, a17, a18, a19] → F k a1 a2 a3 a4 a5 a6 a7 a8 a9 a10 a11 a12 a13 a14 a15 a16 a17 a18 a19 g w b) :
 post [.agg [.i .i64, .i .i64, .i .i64, .i .i64, .i .i64, .i .i64, .i .i64, .i .i64, .i .i64, .i .i64, .i .i64, .i .i64, .i .i64, .i .i64, .i .i64, .i .i64, .i .i64, .i .i64, .i .i64, .i .i64, .l 2, .l 2], .B] [] F (.t [aV k n g w, .u (.b b)]) m := by
 obtain ⟨a1, a2, a3, a4, a5, a6, a7, a8, a9, a10, a11, a12, a13, a14, a15, a16, a17, a18, a19, rfl⟩ := list19 hn
 exact h _ _ _ _ _ _ _ _ _ _ _ _ _ _ _ _ _ _ _ rfl
theorem cfield_S {c : Cm} (hn : c.n.length = 19) (hg : c.g.length ≤ 1000000) (hw : c.w.length ≤ 1000000) {name text : Bs} (ht : text.length ≤ 900000)
 (k1 : ∀ d, fieldL c name text = some d → Q (.t [d.v, .u (.b true)]) []) (k0 : fieldL c name text = none → ∀ d : Cm, d.n.length = 19 → Q (.t [d.v, .u (.b false)]) []) : PRun Tryz.prog 17 [] [c.v, .u (.s (bA name)), .u (.s (bA text))] Q := by
 obtain ⟨ck, cn, cg, cw⟩ := c
 have hn : cn.length = 19 := hn
 obtain ⟨a1, a2, a3, a4, a5, a6, a7, a8, a9, a10, a11, a12, a13, a14, a15, a16, a17, a18, a19, hc⟩ := list19 hn
 have tail : ¬ (ck = 14 ∧ name = givesB) → ¬ (ck = 14 ∧ name = wantsB) → PRun Tryz.prog 7 [] [.u (.s (bA text))] (post [.I, .B] [] (fun x1 b3 => (bif !b3 then Q (.t [(Cm.mk ck cn cg cw).v, .u (.b false)]) [] else PRun Tryz.prog 32 [] [.i ck] (post [.L 1] [] (fun l3 => (PRun Tryz.prog 38 [] [.l 1 l3, .u (.s (bA name))] (post [.B] [] (fun b4 => (bif !b4 then Q (.t [(Cm.mk ck cn cg cw).v, .u (.b false)]) [] else PRun Tryz.prog 39 [] [(Cm.mk ck cn cg cw).v, .u (.s (bA name)), .i x1] (post [.agg [.i .i64, .i .i64, .i .i64, .i .i64, .i .i64, .i .i64, .i .i64, .i .i64, .i .i64, .i .i64, .i .i64, .i .i64, .i .i64, .i .i64, .i .i64, .i .i64, .i .i64, .i .i64, .i .i64, .i .i64, .l 2, .l 2], .B] [] (fun x2 x3 x4 x5 x6 x7 x8 x9 x10 x11 x12 x13 x14 x15 x16 x17 x18 x19 x20 x21 l4 l5 b5 => (Q (.t [.a [.i x2, .i x3, .i x4, .i x5, .i x6, .i x7, .i x8, .i x9, .i x10, .i x11, .i x12, .i x13, .i x14, .i x15, .i x16, .i x17, .i x18, .i x19, .i x20, .i x21, .l 2 l4, .l 2 l5], .u (.b b5)]) [] : Prop))) : Prop))) : Prop))) : Prop))) := fun hng hnw => by
  have e0 : fieldL ⟨ck, cn, cg, cw⟩ name text = match numL text with | none => none | some n => if name ∈ fieldsOf ck then some (setV ⟨ck, cn, cg, cw⟩ name n) else none := by
   unfold fieldL; rw [if_neg hng, if_neg hnw]
  refine number_S (by omega) (fun v hv => ?_) fun hv => ?_
  · rw [post_IB, Bool.not_true, cond_false]
    refine cfields_S ?_
    rw [post_L]
    have hfl := fieldsOf_len ck
    refine contains_S (by omega) ?_
    rw [post_B]
    rw [hv] at e0
    by_cases hm : name ∈ fieldsOf ck
    · rw [decide_eq_true hm, Bool.not_true, cond_false]
      simp only [if_pos hm] at e0
      obtain ⟨j, hj, hj19⟩ := fieldsOf_nm hm
      have e1 : setV ⟨ck, cn, cg, cw⟩ name v = ⟨ck, cn.set j v, cg, cw⟩ := by unfold setV; rw [hj]
      refine cset_S hn hg hw (fun j' hj' => ?_) fun h => by rw [hj] at h; cases h
      obtain rfl : j = j' := by rw [hj] at hj'; exact Option.some.inj hj'
      refine post_AB (by rw [List.length_set]; exact hn) fun a1 a2 a3 a4 a5 a6 a7 a8 a9 a10 a11 a12 a13 a14 a15 a16 a17 a18 a19 hs => ?_
      have := k1 _ e0
      rw [e1] at this
      show Q (.t [aV ck [a1, a2, a3, a4, a5, a6, a7, a8, a9, a10, a11, a12, a13, a14, a15, a16, a17, a18, a19] (cg.map eP) (cw.map eP), .u (.b true)]) []
      rw [← hs]; exact this
    · rw [decide_eq_false hm, Bool.not_false, cond_true]
      simp only [if_neg hm] at e0
      exact k0 e0 _ hn
  · rw [post_IB, Bool.not_false, cond_true]
    rw [hv] at e0
    exact k0 e0 _ hn
 have st1 : ∀ (b : Bool), ck = 14 → b = decide (name = givesB) → (b = false → name = wantsB) → PRun Tryz.prog 9 [] [.u (.s (bA text))] (post [.L 2, .B] [] (fun l1 b1 => (bif b then Q (.t [aV ck cn l1 (cw.map eP), .u (.b b1)]) [] else Q (.t [aV ck cn (cg.map eP) l1, .u (.b b1)]) [] : Prop))) := fun b h14 hb hb2 => by
  refine stacks_S ht ?_
  unfold stV
  rw [show ∀ (m : Mem) (x : List (List U)) (b : Bool) (F : List (List U) → Bool → Prop), post [.L 2, .B] [] F (.t [.l 2 x, .u (.b b)]) m = F x b from fun _ _ _ _ => rfl]
  cases b with
  | true =>
    have hng : name = givesB := of_decide_eq_true hb.symm
    rw [cond_true]
    cases hst : stacksL text with
    | some x => exact k1 _ (show fieldL ⟨ck, cn, cg, cw⟩ name text = some ⟨ck, cn, x, cw⟩ by unfold fieldL; rw [if_pos ⟨h14, hng⟩, hst]; rfl)
    | none => exact k0 (by unfold fieldL; rw [if_pos ⟨h14, hng⟩, hst]; rfl) ⟨ck, cn, [], cw⟩ hn
  | false =>
    have hng : ¬ name = givesB := of_decide_eq_false hb.symm
    have hw' := hb2 rfl
    rw [cond_false]
    cases hst : stacksL text with
    | some x => exact k1 _ (show fieldL ⟨ck, cn, cg, cw⟩ name text = some ⟨ck, cn, cg, x⟩ by unfold fieldL; rw [if_neg (fun h => hng h.2), if_pos ⟨h14, hw'⟩, hst]; rfl)
    | none => exact k0 (by unfold fieldL; rw [if_neg (fun h => hng h.2), if_pos ⟨h14, hw'⟩, hst]; rfl) ⟨ck, cn, cg, []⟩ hn
 rw [show (Cm.mk ck cn cg cw).v = aV ck [a1, a2, a3, a4, a5, a6, a7, a8, a9, a10, a11, a12, a13, a14, a15, a16, a17, a18, a19] (cg.map eP) (cw.map eP) by rw [show cn = _ from hc]]
 rw [show cn = _ from hc] at tail st1
 refine S17 (cEq (fun e => ?_) fun e => tail (fun h => e h.1) fun h => e h.1)
 rw [show ByteArray.mk #[103, 105, 118, 101, 115] = bA givesB from rfl, show ByteArray.mk #[119, 97, 110, 116, 115] = bA wantsB from rfl, bEq, bEq]
 refine cIf (fun e1 => ?_) fun e1 => cIf (fun e2 => ?_) fun e2 => tail (fun h => e1 h.2) fun h => e2 h.2
 · rw [decide_eq_true e1]; exact st1 true e (decide_eq_true e1).symm fun h => by cases h
 · rw [decide_eq_false e1]; exact st1 false e (decide_eq_false e1).symm fun _ => e2
end Go.Proofs.YtaogfopaalancaaGreatDoor
/- Commands as lines: told, and read. -/
set_option linter.unusedVariables false
set_option maxRecDepth 100000
namespace Go.Proofs.YtaogfopaalancaaGreatDoor
open Go Go.Proofs Go.Lib
variable {Q : V → Mem → Prop}
def stepL (c : Cm) (seen : List Bs) (w : Bs) : Option (Cm × List Bs) :=
 if (cutC 61 w).2.2 = false ∨ (cutC 61 w).1 ∈ seen then none else (fieldL c (cutC 61 w).1 (cutC 61 w).2.1).map fun d => (d, (cutC 61 w).1 :: seen)
def foldL : Cm → List Bs → List Bs → Option Cm
 | c, _, [] => some c
 | c, seen, w :: r => match stepL c seen w with
   | none => none
   | some st => foldL st.1 st.2 r
def parseW (l : Bs) : List Bs → Option Cm
 | [] => none
 | a :: r => if 1024 < l.length ∨ kindOf a = 0 then none else foldL ⟨kindOf a, List.replicate 19 0, [], []⟩ [] r
def parseL (l : Bs) : Option Cm := parseW l (wordsL l)
def prV (o : Option Cm) : V := match o with | some c => .t [c.v, .i 0] | none => .t [Cm.zero.v, .i 2]
structure CmOk (c : Cm) : Prop where
 n : c.n.length = 19
 g : c.g.length ≤ 8
 w : c.w.length ≤ 8
theorem stacksF_len : ∀ {l : List Bs} {x : List (Int × Int)}, stacksF l = some x → x.length = l.length
 | [], x, h => by cases h; rfl
 | p :: r, x, h => by
   rw [stacksF] at h
   split at h
   · rename_i a l e1 e2
     cases h
     rw [List.length_cons, stacksF_len e2, List.length_cons]
   · cases h
theorem stacksL_len {l : Bs} {x : List (Int × Int)} (h : stacksL l = some x) : x.length ≤ 8 := by
 unfold stacksL at h
 split at h
 · cases h
 · rw [stacksF_len h]; omega
theorem fieldL_ok {c d : Cm} {name text : Bs} (hc : CmOk c) (h : fieldL c name text = some d) : CmOk d ∧ d.k = c.k := by
 unfold fieldL at h
 split at h
 · obtain ⟨x, hx, rfl⟩ := Option.map_eq_some_iff.1 h
   exact ⟨⟨hc.n, stacksL_len hx, hc.w⟩, rfl⟩
 · split at h
   · obtain ⟨x, hx, rfl⟩ := Option.map_eq_some_iff.1 h
     exact ⟨⟨hc.n, hc.g, stacksL_len hx⟩, rfl⟩
   · split at h
     · cases h
     · split at h
       · rename_i n hn hm
         cases h
         obtain ⟨j, hj, -⟩ := fieldsOf_nm hm
         unfold setV
         rw [hj]
         exact ⟨⟨by rw [List.length_set]; exact hc.n, hc.g, hc.w⟩, rfl⟩
       · cases h
theorem rGet_set (k' : MK) : ∀ (m : List (MK × List U)) (k : MK) (v : List U), rGet (rSet m k v) k' = if k = k' then some v else rGet m k'
 | [], k, v => by rw [rSet, rGet]; rfl
 | p :: m, k, v => by
   rw [rSet]
   by_cases h : p.1 = k
   · rw [if_pos h, rGet, rGet]
     by_cases h2 : k = k'
     · rw [if_pos h2, if_pos h2]
     · rw [if_neg h2, if_neg h2, if_neg (by rw [h]; exact h2)]
   · rw [if_neg h, rGet, rGet, rGet_set k' m k v]
     by_cases h2 : p.1 = k'
     · rw [if_pos h2, if_pos h2, if_neg (fun e => h (h2.trans e.symm))]
     · rw [if_neg h2, if_neg h2]
theorem wordsL_len (l : Bs) : (wordsL l).length ≤ l.length + 1 ∧ ∀ w ∈ wordsL l, w.length ≤ l.length := by
 refine ⟨Nat.le_trans (List.length_filter_le _ _) (splitA_len 32 l []), fun w hw => ?_⟩
 have := splitA_el 32 l [] w (List.mem_filter.1 hw).1
 simpa using this
theorem cparse_S {l : Bs} (hl : l.length ≤ 900000) (k : Q (prV (parseL l)) []) : PRun Tryz.prog 5 [] [.u (.s (bA l))] Q := by
 refine S5 (words_S hl ?_)
 rw [post_L]
 have hz := bA_size l
 have hwl := wordsL_len l
 unfold parseL at k
 refine cIf (fun h => ?_) fun h1 => ?_
 · have : parseW l (wordsL l) = none := by
    cases wordsL l with
    | nil => rfl
    | cons a r => rw [parseW, if_pos (.inl (by omega))]
   rw [this] at k; exact k
 cases hw : wordsL l with
 | nil => rw [hw] at k; exact k
 | cons a r =>
 rw [hw] at k hwl
 rw [parseW] at k
 have hr1 : r.length + 1 ≤ l.length + 1 := by simpa using hwl.1
 rw [show (((List.map eB (a :: r)).length : Int) == 0) = false by rw [← Bool.not_eq_true]; simp; omega, cond_false]
 rw [elL_of (x := 0) (by omega) (show (List.map eB (a :: r))[Int.toNat 0]? = some (eB a) from rfl)]
 simp only [ug0, dS_s]
 refine ckind_S ?_
 rw [post_I]
 refine cEq (fun e => ?_) fun e => ?_
 · rw [if_pos (.inr e)] at k; exact k
 rw [if_neg (by omega)] at k
 refine ⟨by omega, by simp; omega, Int.le_refl _, ?_⟩
 rw [show List.drop 1 (List.take (List.map eB (a :: r)).length (List.map eB (a :: r))) = r.map eB by rw [List.take_length]; rfl]
 generalize hst : (foldL ⟨kindOf a, List.replicate 19 0, [], []⟩ [] r) = res at k
 refine ⟨fun x _ _ _ _ _ _ _ _ _ _ _ _ _ _ _ _ _ _ _ _ _ _ c0 c1 c2 c3 c4 c5 c6 c7 c8 c9 c10 c11 c12 c13 c14 c15 c16 c17 c18 c19 g w m => ∃ c seen, CmOk c ∧ c.k = c0 ∧ c.n = [c1, c2, c3, c4, c5, c6, c7, c8, c9, c10, c11, c12, c13, c14, c15, c16, c17, c18, c19] ∧ g = c.g.map eP ∧ w = c.w.map eP ∧ (∀ s, rGet m (.s (bA s)) = if s ∈ seen then some [.b true] else none) ∧ AtI r (fun _ q => foldL c seen q = res) x,
  fun x _ _ _ _ _ _ _ _ _ _ _ _ _ _ _ _ _ _ _ _ _ _ _ _ _ _ _ _ _ _ _ _ _ _ _ _ _ _ _ _ _ _ _ _ _ => SufM r x, ⟨⟨kindOf a, List.replicate 19 0, [], []⟩, [], ⟨rfl, by simp, by simp⟩, rfl, rfl, rfl, rfl, fun s => by simp [rGet], .zero (by omega) hst⟩, ?_⟩
 rintro x _ _ _ _ _ _ _ _ _ _ _ _ _ _ _ _ _ _ _ _ _ _ c0 c1 c2 c3 c4 c5 c6 c7 c8 c9 c10 c11 c12 c13 c14 c15 c16 c17 c18 c19 _ _ m ⟨c, seen, ok, hk, hn, rfl, rfl, hm, t, _ | ⟨b, q⟩, p, hq⟩
 · rw [p.d0, cond_false]
   rw [foldL] at hq
   rw [← hq] at k
   have e1 : c.v = aV c0 [c1, c2, c3, c4, c5, c6, c7, c8, c9, c10, c11, c12, c13, c14, c15, c16, c17, c18, c19] (c.g.map eP) (c.w.map eP) := by show aV c.k c.n _ _ = _; rw [hk, hn]
   show Q (.t [aV c0 [c1, c2, c3, c4, c5, c6, c7, c8, c9, c10, c11, c12, c13, c14, c15, c16, c17, c18, c19] (c.g.map eP) (c.w.map eP), .i 0]) []
   rw [← e1]; exact k
 · rw [p.d1, cond_true, p.el]
   simp only [ug0, dS_s]
   have hb : b.length ≤ l.length := hwl.2 b (by rw [show r = t ++ b :: q from p.e]; simp)
   refine sCut_S 61 (by omega) ?_
   rw [post_SSB]
   have hcl : (cutC 61 b).1.length ≤ b.length ∧ (cutC 61 b).2.1.length ≤ b.length := by simpa using cutA_len 61 b []
   rw [foldL] at hq
   have bad : stepL c seen b = none → Q (.t [Cm.zero.v, .i 2]) [] := fun h => by rw [h] at hq; rw [← hq] at k; exact k
   intro k1 hk1
   have e1 : c.v = aV c0 [c1, c2, c3, c4, c5, c6, c7, c8, c9, c10, c11, c12, c13, c14, c15, c16, c17, c18, c19] (c.g.map eP) (c.w.map eP) := by show aV c.k c.n _ _ = _; rw [hk, hn]
   have go : (cutC 61 b).2.2 = true → (cutC 61 b).1 ∉ seen → ∀ d0 d1 d2 d3 d4 d5 d6 d7 d8 d9 d10 d11 d12 d13 d14 d15 d16 d17 d18 d19 l6 l7, k1 d0 d1 d2 d3 d4 d5 d6 d7 d8 d9 d10 d11 d12 d13 d14 d15 d16 d17 d18 d19 l6 l7 := fun hf hs d0 d1 d2 d3 d4 d5 d6 d7 d8 d9 d10 d11 d12 d13 d14 d15 d16 d17 d18 d19 l6 l7 => hk1 _ _ _ _ _ _ _ _ _ _ _ _ _ _ _ _ _ _ _ _ _ _ (by
    show PRun Tryz.prog 17 [] [aV c0 [c1, c2, c3, c4, c5, c6, c7, c8, c9, c10, c11, c12, c13, c14, c15, c16, c17, c18, c19] (c.g.map eP) (c.w.map eP), _, _] _
    rw [← e1]
    refine cfield_S ok.n (by have := ok.g; omega) (by have := ok.w; omega) (by omega) (fun d hd => ?_) fun hd d hdn => ?_
    · obtain ⟨ok2, hk2⟩ := fieldL_ok ok hd
      refine post_AB ok2.n fun b1 b2 b3 b4 b5 b6 b7 b8 b9 b10 b11 b12 b13 b14 b15 b16 b17 b18 b19 hs' => ?_
      rw [Bool.not_true, cond_false]
      have hstep : stepL c seen b = some (d, (cutC 61 b).1 :: seen) := by
       unfold stepL
       rw [if_neg (by rw [hf]; rintro (h | h); cases h; exact hs h), hd]; rfl
      rw [hstep] at hq
      rw [p.suf.wr]
      refine ⟨⟨d, (cutC 61 b).1 :: seen, ok2, rfl, hs', rfl, rfl, fun s => ?_, t ++ [b], q, p.succ, hq⟩, p.suf.me⟩
      rw [rGet_set, hm]
      by_cases h1 : (cutC 61 b).1 = s
      · rw [if_pos (by rw [h1]), if_pos (by rw [h1]; simp)]
      · rw [if_neg (by intro h; injection h with h; exact h1 (bA_inj.1 h))]
        by_cases h2 : s ∈ seen
        · rw [if_pos h2, if_pos (by simp [h2])]
        · rw [if_neg h2, if_neg (by simp [h2, Ne.symm h1])]
    · refine post_AB hdn fun b1 b2 b3 b4 b5 b6 b7 b8 b9 b10 b11 b12 b13 b14 b15 b16 b17 b18 b19 hs' => ?_
      rw [Bool.not_false, cond_true]
      refine bad ?_
      unfold stepL
      rw [if_neg (by rw [hf]; rintro (h | h); cases h; exact hs h), hd]; rfl)
   cases hf : (cutC 61 b).2.2 with
   | false => exact bad (by unfold stepL; rw [if_pos (.inl hf)])
   | true =>
     rw [Bool.not_true, cond_false, hm]
     by_cases hs : (cutC 61 b).1 ∈ seen
     · rw [if_pos hs]
       exact bad (by unfold stepL; rw [if_pos (.inr hs)])
     · rw [if_neg hs]
       exact go hf hs _ _ _ _ _ _ _ _ _ _ _ _ _ _ _ _ _ _ _ _ _ _
end Go.Proofs.YtaogfopaalancaaGreatDoor
/- A command's line. -/
set_option linter.unusedVariables false
set_option maxRecDepth 100000
namespace Go.Proofs.YtaogfopaalancaaGreatDoor
open Go Go.Proofs Go.Lib
variable {Q : V → Mem → Prop}
abbrev inI (n : Int) : Prop := -9223372036854775808 ≤ n ∧ n ≤ 9223372036854775807
def stackT (x : Int × Int) : Bs := itoa x.1 ++ [120] ++ itoa x.2
def listL (s : List (Int × Int)) : Bs := join (s.map stackT) [44]
theorem itoa_len {n : Int} (h : inI n) : (itoa n).length ≤ 20 := by
 unfold itoa
 split
 · have := (dec_len (u := n.natAbs) (by omega)).2
   simp only [List.length_cons]; omega
 · have := (dec_len (u := n.toNat) (by omega)).2; omega
theorem stackT_len {x : Int × Int} (h : inI x.1 ∧ inI x.2) : (stackT x).length ≤ 41 := by
 have := itoa_len h.1; have := itoa_len h.2
 unfold stackT
 simp only [List.length_append, List.length_singleton]; omega
theorem jt_len : ∀ {s : List (Int × Int)}, (∀ x ∈ s, inI x.1 ∧ inI x.2) → (joinTail [44] (s.map stackT)).length ≤ s.length * 42
 | [], _ => by simp [joinTail]
 | x :: s, h => by
   have h1 := stackT_len (h x (by simp))
   have h2 := jt_len (s := s) fun y hy => h y (by simp [hy])
   have : joinTail [44] ((x :: s).map stackT) = [44] ++ stackT x ++ joinTail [44] (s.map stackT) := rfl
   rw [this]
   have : ([44] : Bs).length = 1 := rfl
   simp only [List.length_append, List.length_cons, List.length_nil]; omega
theorem list_len {s : List (Int × Int)} (h : ∀ x ∈ s, inI x.1 ∧ inI x.2) : (listL s).length ≤ s.length * 42 := by
 cases s with
 | nil => exact Nat.zero_le _
 | cons x s =>
   have h1 := stackT_len (h x (by simp))
   have h2 := jt_len (s := s) fun y hy => h y (by simp [hy])
   unfold listL
   rw [List.map_cons, join_cons, List.length_append, List.length_cons]; omega
theorem clist_S {s : List (Int × Int)} (hs : s.length ≤ 1000000) (h64 : ∀ x ∈ s, inI x.1 ∧ inI x.2) (k : Q (.u (.s (bA (listL s)))) []) : PRun Tryz.prog 35 [] [.l 2 (s.map eP)] Q := by
 refine S35 ⟨fun o x => ∃ t r, At s x t r ∧ o = (t.map stackT).map eB, fun _ => SufM s, ⟨[], s, .zero (by omega), rfl⟩, ?_⟩
 rintro _ x ⟨t, _ | ⟨a, r⟩, p, rfl⟩
 · rw [p.d0, cond_false]
   have e : t = s := p.all
   subst e
   have := list_len h64
   refine sJoin_S (by rw [List.length_map]; exact hs) (by show (listL t).length ≤ _; omega) ?_
   exact k
 · rw [p.d1, cond_true, p.el]
   simp only [ug0, ugs, dI_n]
   have ha := h64 a (by rw [p.e]; simp)
   refine itoa_S ha.1.1 ha.1.2 ?_
   rw [post_S]
   have h1 := itoa_len ha.1
   have h2 := itoa_len ha.2
   rw [show ByteArray.mk #[120] = bA [120] from rfl, bA_size, bA_size]
   refine ⟨by rw [List.length_singleton]; omega, itoa_S ha.2.1 ha.2.2 ?_⟩
   rw [post_S, bA_app, bA_app, bA_size, bA_size]
   have ht : t.length + 1 ≤ s.length := by rw [p.e]; simp
   refine ⟨by rw [List.length_append, List.length_singleton]; omega, by simp [apOk]; omega, ?_⟩
   rw [p.suf.wr]
   exact ⟨⟨t ++ [a], r, p.succ, by rw [List.map_append, List.map_append]; rfl⟩, p.suf.me⟩
def lineF (c : Cm) : Bs → List Bs → Bs
 | s, [] => s
 | s, f :: r => lineF c (if valOf c f = 0 then s else s ++ ([32] ++ f ++ [61] ++ itoa (valOf c f))) r
def lineS (p : Bs) (x : List (Int × Int)) (s : Bs) : Bs := if 0 < x.length then s ++ (p ++ listL x) else s
def sGives : Bs := [32, 103, 105, 118, 101, 115, 61]
def sWants : Bs := [32, 119, 97, 110, 116, 115, 61]
def lineT (c : Cm) : Bs := lineS sWants c.w (lineS sGives c.g (lineF c (nameOf c.k) (fieldsOf c.k)))
def lnV (c : Cm) : V := if checkL c = 0 then .t [.u (.s (bA (lineT c))), .i 0] else .t [.u (.s (bA [])), .i (checkL c)]
structure Cm64 (c : Cm) : Prop where
 n : ∀ x ∈ c.n, inI x
 g : ∀ x ∈ c.g, inI x.1 ∧ inI x.2
 w : ∀ x ∈ c.w, inI x.1 ∧ inI x.2
theorem name_len (k : Int) : (nameOf k).length ≤ 10 := by
 unfold nameOf
 split
 · simp
 · have : ∀ i : Nat, i < 25 → (wdL.getD i []).length ≤ 10 := by decide +kernel
   by_cases h : (k - 1).toNat < 25
   · exact this _ h
   · omega
theorem val64 {c : Cm} (h : Cm64 c) (f : Bs) : inI (valOf c f) := by
 unfold valOf
 split
 · rename_i j _
   rw [List.getD]
   cases e : c.n[j]? with
   | none => exact ⟨by decide, by decide⟩
   | some v => exact h.n v (List.mem_of_getElem? e)
 · exact ⟨by decide, by decide⟩
theorem check_lists {c : Cm} (h : checkL c = 0) : c.g.length ≤ 8 ∧ c.w.length ≤ 8 := by
 unfold checkL at h
 split at h
 · cases h
 · rename_i hh
   have hl : listsOk c = true := by
    cases e : listsOk c with
    | true => rfl
    | false => exact absurd (.inr (.inl e)) hh
   unfold listsOk at hl
   split at hl
   · simpa using hl
   · simp only [decide_eq_true_eq] at hl; omega
theorem cline_S {c : Cm} (hn : c.n.length = 19) (hg : c.g.length ≤ 1000000) (hw : c.w.length ≤ 1000000) (h64 : Cm64 c) (k : Q (lnV c) []) : PRun Tryz.prog 13 [] [c.v] Q := by
 obtain ⟨ck, cn, cg, cw⟩ := c
 obtain ⟨a1, a2, a3, a4, a5, a6, a7, a8, a9, a10, a11, a12, a13, a14, a15, a16, a17, a18, a19, hc⟩ := list19 hn
 rw [show (Cm.mk ck cn cg cw).v = aV ck [a1, a2, a3, a4, a5, a6, a7, a8, a9, a10, a11, a12, a13, a14, a15, a16, a17, a18, a19] (cg.map eP) (cw.map eP) by rw [show cn = _ from hc]]
 have hv : aV ck [a1, a2, a3, a4, a5, a6, a7, a8, a9, a10, a11, a12, a13, a14, a15, a16, a17, a18, a19] (cg.map eP) (cw.map eP) = (Cm.mk ck cn cg cw).v := by rw [show cn = _ from hc]
 refine S13 (show PRun Tryz.prog 30 [] [aV ck [a1, a2, a3, a4, a5, a6, a7, a8, a9, a10, a11, a12, a13, a14, a15, a16, a17, a18, a19] (cg.map eP) (cw.map eP)] _ from ?_)
 rw [hv]
 refine ccheck_S hn hg hw ?_
 rw [post_I]
 refine cNe (fun e => ?_) fun e => ?_
 · unfold lnV at k; rw [if_neg e] at k; exact k
 have hl := check_lists e
 unfold lnV at k
 rw [if_pos e] at k
 refine cname_S ?_
 rw [post_S]
 refine cfields_S ?_
 rw [post_L]
 have hf := fieldsOf_len ck
 have hnm := name_len ck
 have hcg : (listL cg).length ≤ 336 := Nat.le_trans (list_len h64.g) (Nat.mul_le_mul_right 42 hl.1)
 have hcw : (listL cw).length ≤ 336 := Nat.le_trans (list_len h64.w) (Nat.mul_le_mul_right 42 hl.2)
 refine ⟨fun s x => ∃ t r b, At (fieldsOf ck) x t r ∧ s = bA b ∧ b.length ≤ 10 + t.length * 32 ∧ lineF ⟨ck, cn, cg, cw⟩ b r = lineF ⟨ck, cn, cg, cw⟩ (nameOf ck) (fieldsOf ck), fun _ => SufM (fieldsOf ck), ⟨[], _, _, .zero (by omega), rfl, by simpa using hnm, rfl⟩, ?_⟩
 rintro _ x ⟨t, _ | ⟨a, r⟩, b, p, rfl, hb, h⟩
 · rw [p.d0, cond_false, List.length_map, List.length_map]
   have ht : t = fieldsOf ck := p.all
   have hb2 : b.length ≤ 400 := by rw [ht] at hb; have := hf.1; omega
   rw [lineF] at h
   unfold lineT at k
   have k : Q (.t [.u (.s (bA (lineS sWants cw (lineS sGives cg b)))), .i 0]) [] := by rw [h]; exact k
   rw [show ByteArray.mk #[32, 103, 105, 118, 101, 115, 61] = bA sGives from rfl, show ByteArray.mk #[32, 119, 97, 110, 116, 115, 61] = bA sWants from rfl]
   have z1 : sGives.length = 7 := rfl
   have z2 : sWants.length = 7 := rfl
   refine cIf (fun h1 => ?_) fun h1 => ?_
   · refine clist_S (by have := hl.1; omega) h64.g ?_
     rw [post_S, bA_app, bA_app, bA_size, bA_size, bA_size, bA_size]
     rw [lineS.eq_1 sGives, if_pos (by omega)] at k
     refine ⟨by omega, by rw [List.length_append]; omega, cIf (fun h2 => ?_) fun h2 => ?_⟩
     · refine clist_S (by have := hl.2; omega) h64.w ?_
       rw [post_S, bA_app, bA_app, bA_size, bA_size, bA_size, bA_size]
       rw [lineS, if_pos (by omega)] at k
       exact ⟨by omega, by simp only [List.length_append]; omega, k⟩
     · rw [lineS, if_neg (by omega)] at k
       exact k
   · rw [lineS.eq_1 sGives, if_neg (by omega)] at k
     refine cIf (fun h2 => ?_) fun h2 => ?_
     · refine clist_S (by have := hl.2; omega) h64.w ?_
       rw [post_S, bA_app, bA_app, bA_size, bA_size, bA_size, bA_size]
       rw [lineS, if_pos (by omega)] at k
       exact ⟨by omega, by simp only [List.length_append]; omega, k⟩
     · rw [lineS, if_neg (by omega)] at k
       exact k
 · rw [p.d1, cond_true, p.el]
   simp only [ug0, dS_s]
   rw [lineF] at h
   have hv64 := val64 h64 a
   have ht : t.length + 1 ≤ (fieldsOf ck).length := by rw [p.e]; simp
   have hal := hf.2 a (by rw [p.e]; simp)
   have go : ∀ v f, v = valOf ⟨ck, cn, cg, cw⟩ a → (post [.I, .B] [] (fun x3 b1 => (bif x3 != 0 then ByteArray.size (ByteArray.mk #[32]) + ByteArray.size (bA a) < 9223372036854775808 ∧ (ByteArray.size (ByteArray.mk #[32] ++ bA a) + ByteArray.size (ByteArray.mk #[61]) < 9223372036854775808 ∧ (PRun Tryz.prog 34 [] [.i x3] (post [.S] [] (fun s4 => (ByteArray.size (ByteArray.mk #[32] ++ bA a ++ ByteArray.mk #[61]) + ByteArray.size s4 < 9223372036854775808 ∧ (ByteArray.size (bA b) + ByteArray.size (ByteArray.mk #[32] ++ bA a ++ ByteArray.mk #[61] ++ s4) < 9223372036854775808 ∧ ((∃ t r b', At (fieldsOf ck) (IntKind.wrap .i64 (x + 1)) t r ∧ bA b ++ (ByteArray.mk #[32] ++ bA a ++ ByteArray.mk #[61] ++ s4) = bA b' ∧ b'.length ≤ 10 + t.length * 32 ∧ lineF ⟨ck, cn, cg, cw⟩ b' r = lineF ⟨ck, cn, cg, cw⟩ (nameOf ck) (fieldsOf ck)) ∧ SufM (fieldsOf ck) (IntKind.wrap .i64 (x + 1)) < SufM (fieldsOf ck) x)) : Prop))))) else (∃ t r b', At (fieldsOf ck) (IntKind.wrap .i64 (x + 1)) t r ∧ bA b = bA b' ∧ b'.length ≤ 10 + t.length * 32 ∧ lineF ⟨ck, cn, cg, cw⟩ b' r = lineF ⟨ck, cn, cg, cw⟩ (nameOf ck) (fieldsOf ck)) ∧ SufM (fieldsOf ck) (IntKind.wrap .i64 (x + 1)) < SufM (fieldsOf ck) x : Prop))) (.t [.i v, .u (.b f)]) [] := by
    rintro v f rfl
    rw [post_IB]
    refine cNe (fun e1 => ?_) fun e1 => ?_
    · rw [if_neg e1] at h
      rw [show ByteArray.mk #[32] = bA [32] from rfl, show ByteArray.mk #[61] = bA [61] from rfl, bA_app, bA_app, bA_size, bA_size, bA_size, bA_size]
      refine ⟨by rw [List.length_singleton]; omega, by simp only [List.length_append, List.length_singleton]; omega, itoa_S hv64.1 hv64.2 ?_⟩
      have := itoa_len hv64
      rw [post_S, bA_app, bA_app, bA_size, bA_size, bA_size, bA_size]
      have hf1 := hf.1
      refine ⟨by simp only [List.length_append, List.length_singleton]; omega, by simp only [List.length_append, List.length_singleton]; omega, ?_⟩
      rw [p.suf.wr]
      exact ⟨⟨t ++ [a], r, _, p.succ, rfl, by simp only [List.length_append, List.length_singleton]; omega, h⟩, p.suf.me⟩
    · rw [if_pos e1] at h
      rw [p.suf.wr]
      exact ⟨⟨t ++ [a], r, _, p.succ, rfl, by simp only [List.length_append, List.length_singleton]; omega, h⟩, p.suf.me⟩
   show PRun Tryz.prog 33 [] [aV ck [a1, a2, a3, a4, a5, a6, a7, a8, a9, a10, a11, a12, a13, a14, a15, a16, a17, a18, a19] (cg.map eP) (cw.map eP), _] _
   rw [hv]
   refine cget_S hn (fun j hj => go _ _ (by unfold valOf; rw [hj])) fun hj => go _ _ (by unfold valOf; rw [hj])
end Go.Proofs.YtaogfopaalancaaGreatDoor
/- Commands, on the reference's side. -/
set_option linter.unusedVariables false
set_option maxRecDepth 100000
namespace Go.Proofs.YtaogfopaalancaaGreatDoor
open Go Go.Proofs Go.Lib
variable {Q : V → Mem → Prop}
def fdR : List (List Bs) := [[[97, 115], [110]],
 [[97, 115], [100, 105, 118], [112, 108, 97, 99, 101], [116, 121, 112, 101], [110]],
 [[97, 115], [100, 105, 118], [112, 108, 97, 99, 101], [116, 121, 112, 101], [109, 101], [116, 101], [114, 117, 110, 115]],
 [[119, 104, 111]],
 [[119, 104, 111], [97, 115], [116, 111], [114, 111, 108, 101, 115]],
 [[119, 104, 111], [97, 115], [116, 111]],
 [[119, 104, 111], [97, 115], [116, 111], [110]],
 [[119, 104, 111], [97, 115], [100, 105, 118], [116, 111], [105, 110, 116, 111], [112, 108, 97, 99, 101], [116, 121, 112, 101], [110]],
 [[119, 104, 111], [97, 115], [100, 105, 118], [98, 97, 121], [105, 100], [116, 121, 112, 101], [114, 117, 110, 115], [99, 111, 112, 105, 101, 115]],
 [[119, 104, 111], [105, 100]],
 [[119, 104, 111], [105, 100]],
 [[119, 104, 111], [105, 100]],
 [[119, 104, 111], [105, 100]],
 [[119, 104, 111], [97, 115], [100, 105, 118], [116, 121, 112, 101], [116, 111], [112, 108, 97, 99, 101], [100, 101, 115, 116], [110], [112, 108, 101, 100, 103, 101], [108, 97, 115, 116, 115], [100, 97, 121, 115]],
 [[119, 104, 111], [97, 115], [100, 105, 118], [105, 100]],
 [[119, 104, 111], [105, 100]],
 [[119, 104, 111], [105, 100]],
 [[119, 104, 111], [105, 100]],
 [[119, 104, 111], [105, 100]],
 [[110]],
 [[119, 104, 111], [97, 115]],
 [[119, 104, 111], [97, 115], [100, 105, 118], [112, 108, 97, 99, 101], [116, 121, 112, 101]],
 [[119, 104, 111], [105, 100]],
 [[119, 104, 111], [105, 100]],
 [[119, 104, 111]]]
theorem fdL_eq : fdL = fdR := by decide +kernel
theorem fieldsOf_eq (k : Int) : fieldsOf k = if k < 1 ∨ 25 < k then [] else fdR.getD (k - 1).toNat [] := by unfold fieldsOf; rw [fdL_eq]
theorem rfields_S {kind : Int} (k : Q (.l 1 ((fieldsOf kind).map eB)) []) : PRun Tryz.prog 22 [] [.i kind] Q := by
 rw [fieldsOf_eq] at k
 refine S22 ?_
 by_cases hk : 1 ≤ kind ∧ kind ≤ 25
 · rcases (show kind = 1 ∨ kind = 2 ∨ kind = 3 ∨ kind = 4 ∨ kind = 5 ∨ kind = 6 ∨ kind = 7 ∨ kind = 8 ∨ kind = 9 ∨ kind = 10 ∨ kind = 11 ∨ kind = 12 ∨ kind = 13 ∨ kind = 14 ∨ kind = 15 ∨ kind = 16 ∨ kind = 17 ∨ kind = 18 ∨ kind = 19 ∨ kind = 20 ∨ kind = 21 ∨ kind = 22 ∨ kind = 23 ∨ kind = 24 ∨ kind = 25 by omega) with rfl | rfl | rfl | rfl | rfl | rfl | rfl | rfl | rfl | rfl | rfl | rfl | rfl | rfl | rfl | rfl | rfl | rfl | rfl | rfl | rfl | rfl | rfl | rfl | rfl
   all_goals
    intro k1 h1
    repeat first
     | exact k
     | (intro k2 h2; refine h2 _ ?_)
 · rw [if_pos (by omega)] at k
   intro k1 h1
   have e : ∀ i : Int, 1 ≤ i → i ≤ 25 → (kind == i) = false := fun i h1 h2 => by
    rw [← Bool.not_eq_true]
    intro h
    have := beq_iff_eq.1 h
    omega
   simp only [e 1 (by decide) (by decide), e 2 (by decide) (by decide), e 3 (by decide) (by decide), e 4 (by decide) (by decide), e 5 (by decide) (by decide), e 6 (by decide) (by decide), e 7 (by decide) (by decide), e 8 (by decide) (by decide), e 9 (by decide) (by decide), e 10 (by decide) (by decide), e 11 (by decide) (by decide), e 12 (by decide) (by decide), e 13 (by decide) (by decide), e 14 (by decide) (by decide), e 15 (by decide) (by decide), e 16 (by decide) (by decide), e 17 (by decide) (by decide), e 18 (by decide) (by decide), e 19 (by decide) (by decide), e 20 (by decide) (by decide), e 21 (by decide) (by decide), e 22 (by decide) (by decide), e 23 (by decide) (by decide), e 24 (by decide) (by decide), e 25 (by decide) (by decide), cond_false]
   repeat (intro k2 h2; refine h2 _ ?_; simp only [cond_false])
   exact h1 k
theorem rwords28_S (k : Q (.l 1 (wdL.map eB)) []) : PRun Tryz.prog 40 [] [] Q := S40 k
theorem rnames_S (k : Q (.l 1 (nmL.map eB)) []) : PRun Tryz.prog 54 [] [] Q := S54 k
theorem posB_ap {s : Bs} : ∀ {t r : List Bs} {i : Nat}, s ∉ t → posB (t ++ r) s i = posB r s (i + t.length)
 | [], r, i, h => by simp
 | a :: t, r, i, h => by
   rw [List.cons_append, posB, if_neg (fun e => h (by simp [e])), posB_ap (fun hm => h (by simp [hm])), List.length_cons]
   congr 1; omega
theorem rkind_S {s : Bs} (k : Q (.i (kindOf s)) []) : PRun Tryz.prog 19 [] [.u (.s (bA s))] Q := by
 refine S19 (rwords28_S ?_)
 rw [post_L]
 unfold kindOf at k
 have hl : wdL.length = 25 := rfl
 refine ⟨AtI wdL fun t _ => s ∉ t, SufM wdL, .zero (by omega) (by simp), ?_⟩
 rintro x ⟨t, _ | ⟨a, r⟩, p, h⟩
 · rw [p.d0, cond_false]
   rw [p.all] at h
   rw [posB_no.2 h] at k; exact k
 · rw [p.d1, cond_true, p.el]
   simp only [ug0, dS_s, bEq]
   refine cIf (fun e => ?_) fun e => ?_
   · rw [p.e, posB_ap h, posB, if_pos e] at k
     rw [p.suf.wr, p.k]
     simpa using k
   · exact p.step (by simp [h]; exact Ne.symm e)
theorem rplace_S {s : Bs} (k1 : ∀ j, posB nmL s 0 = some j → Q (.i (j : Nat)) []) (k0 : posB nmL s 0 = none → Q (.i (-1)) []) : PRun Tryz.prog 41 [] [.u (.s (bA s))] Q := by
 refine S41 (rnames_S ?_)
 rw [post_L]
 have hl : nmL.length = 19 := rfl
 refine ⟨AtI nmL fun t _ => s ∉ t, SufM nmL, .zero (by omega) (by simp), ?_⟩
 rintro x ⟨t, _ | ⟨a, r⟩, p, h⟩
 · rw [p.d0, cond_false]
   rw [p.all] at h
   exact k0 (posB_no.2 h)
 · rw [p.d1, cond_true, p.el]
   simp only [ug0, dS_s, bEq]
   refine cIf (fun e => ?_) fun e => ?_
   · have := k1 t.length (by rw [p.e, posB_ap h, posB, if_pos e]; simp)
     rw [← p.k] at this; exact this
   · exact p.step (by simp [h]; exact Ne.symm e)
theorem rof_S {c : Cm} (hn : c.n.length = 19) {n : List Int} (hn2 : n.length = 19) {F : Int → Int → Int → Int → Int → Int → Int → Int → Int → Int → Int → Int → Int → Int → Int → Int → Int → Int → Int → Int → List (List U) → List (List U) → Prop}
 (h : ∀ a1 a2 a3 a4 a5 a6 a7 a8 a9 a10 a11 a12 a13 a14 a15 a16 a17 a18 a19, n = [a1, a2, a3, a4, a5, a6, a7, a8, a9, a10, a11, a12, a13, a14, a15, a16, a17, a18, a19] → F c.k a1 a2 a3 a4 a5 a6 a7 a8 a9 a10 a11 a12 a13 a14 a15 a16 a17 a18 a19 (c.g.map eP) (c.w.map eP)) :
 PRun Tryz.prog 42 [] [c.v, .l 1 (n.map numRow)] (post [.agg [.i .i64, .i .i64, .i .i64, .i .i64, .i .i64, .i .i64, .i .i64, .i .i64, .i .i64, .i .i64, .i .i64, .i .i64, .i .i64, .i .i64, .i .i64, .i .i64, .i .i64, .i .i64, .i .i64, .i .i64, .l 2, .l 2]] [] F) := by
 obtain ⟨ck, cn, cg, cw⟩ := c
 obtain ⟨b1, b2, b3, b4, b5, b6, b7, b8, b9, b10, b11, b12, b13, b14, b15, b16, b17, b18, b19, rfl⟩ := list19 hn
 obtain ⟨a1, a2, a3, a4, a5, a6, a7, a8, a9, a10, a11, a12, a13, a14, a15, a16, a17, a18, a19, rfl⟩ := list19 hn2
 exact S42 (h a1 a2 a3 a4 a5 a6 a7 a8 a9 a10 a11 a12 a13 a14 a15 a16 a17 a18 a19 rfl)
end Go.Proofs.YtaogfopaalancaaGreatDoor
/- Commands, on the reference's side: one more field; the same; lines are read. -/
set_option linter.unusedVariables false
set_option maxRecDepth 100000
namespace Go.Proofs.YtaogfopaalancaaGreatDoor
open Go Go.Proofs Go.Lib
variable {Q : V → Mem → Prop}
theorem rall_S {c : Cm} (hn : c.n.length = 19) (k : Q (.l 1 (c.n.map numRow)) []) : PRun Tryz.prog 29 [] [c.v] Q := by
 obtain ⟨ck, cn, cg, cw⟩ := c
 obtain ⟨a1, a2, a3, a4, a5, a6, a7, a8, a9, a10, a11, a12, a13, a14, a15, a16, a17, a18, a19, rfl⟩ := list19 hn
 exact S29 k
theorem rset_S {c : Cm} (hn : c.n.length = 19) {name : Bs} {n : Int} (k1 : ∀ j, posB nmL name 0 = some j → Q (.t [(Cm.mk c.k (c.n.set j n) c.g c.w).v, .u (.b true)]) []) (k0 : posB nmL name 0 = none → Q (.t [Cm.zero.v, .u (.b false)]) []) :
 PRun Tryz.prog 23 [] [c.v, .u (.s (bA name)), .i n] Q := by
 obtain ⟨ck, cn, cg, cw⟩ := c
 have hn : cn.length = 19 := hn
 obtain ⟨a1, a2, a3, a4, a5, a6, a7, a8, a9, a10, a11, a12, a13, a14, a15, a16, a17, a18, a19, hc⟩ := list19 hn
 have hof := fun (n2 : List Int) => rof_S (c := ⟨ck, cn, cg, cw⟩) hn (n := n2)
 rw [show (Cm.mk ck cn cg cw).v = aV ck [a1, a2, a3, a4, a5, a6, a7, a8, a9, a10, a11, a12, a13, a14, a15, a16, a17, a18, a19] (cg.map eP) (cw.map eP) by rw [show cn = _ from hc]] at hof ⊢
 refine S23 (rplace_S (fun j hj => ?_) fun hj => ?_)
 · rw [post_I, decide_eq_false (by omega), cond_false]
   have hj19 : j < 19 := (List.getElem?_eq_some_iff.1 (posB_at hj).2).1
   refine ⟨by omega, by omega, ?_⟩
   rw [show Int.toNat (j : Nat) = j from Int.toNat_natCast j]
   have e : List.set [[.n a1], [.n a2], [.n a3], [.n a4], [.n a5], [.n a6], [.n a7], [.n a8], [.n a9], [.n a10], [.n a11], [.n a12], [.n a13], [.n a14], [.n a15], [.n a16], [.n a17], [.n a18], [.n a19]] j [.n n] = (cn.set j n).map numRow := by
    rw [List.map_set, hc]; rfl
   rw [e]
   refine hof (cn.set j n) (by rw [List.length_set]; exact hn) fun b1 b2 b3 b4 b5 b6 b7 b8 b9 b10 b11 b12 b13 b14 b15 b16 b17 b18 b19 hs => ?_
   have := k1 j hj
   show Q (.t [aV ck [b1, b2, b3, b4, b5, b6, b7, b8, b9, b10, b11, b12, b13, b14, b15, b16, b17, b18, b19] (cg.map eP) (cw.map eP), .u (.b true)]) []
   rw [← hs]; exact this
 · rw [post_I]
   exact k0 hj
theorem rsame_S {c : Cm} (hn : c.n.length = 19) (hg : c.g.length ≤ 1000000) (hw : c.w.length ≤ 1000000) (k : Q (.u (.b true)) []) : PRun Tryz.prog 11 [] [c.v, c.v] Q := by
 obtain ⟨ck, cn, cg, cw⟩ := c
 have hn : cn.length = 19 := hn
 have hg : cg.length ≤ 1000000 := hg
 have hw : cw.length ≤ 1000000 := hw
 obtain ⟨a1, a2, a3, a4, a5, a6, a7, a8, a9, a10, a11, a12, a13, a14, a15, a16, a17, a18, a19, hc⟩ := list19 hn
 have hall := fun (Q : V → Mem → Prop) => rall_S (Q := Q) (c := ⟨ck, cn, cg, cw⟩) hn
 rw [show (Cm.mk ck cn cg cw).v = aV ck [a1, a2, a3, a4, a5, a6, a7, a8, a9, a10, a11, a12, a13, a14, a15, a16, a17, a18, a19] (cg.map eP) (cw.map eP) by rw [show cn = _ from hc]] at hall ⊢
 refine S11 (hall _ ?_)
 rw [post_L]
 refine hall _ ?_
 rw [post_L]
 have sm : ∀ l : List (Int × Int), l.length ≤ 1000000 → ∀ {Q : V → Mem → Prop}, Q (.u (.b true)) [] → PRun Tryz.prog 12 [] [.l 2 (l.map eP), .l 2 (l.map eP)] Q := fun l hl Q k => same_S (by omega) (by omega) (by rw [decide_eq_true rfl]; exact k)
 refine ⟨AtI cn fun _ _ => True, SufM cn, .zero (by omega) trivial, ?_⟩
 rintro x ⟨t, _ | ⟨a, r⟩, p, -⟩
 · have e := p.d0 (e := numRow)
   rw [e, cond_false]
   refine cEq (fun _ => ?_) fun h => absurd rfl h
   refine sm cg hg ?_
   rw [post_B, cond_true]
   exact sm cw hw k
 · have e := p.d1 (e := numRow)
   rw [e, cond_true, cond_true, p.el]
   show dI .i64 (ug [.n a] 0) _
   simp only [ug0, dI_n]
   rw [p.el]
   show dI .i64 (ug [.n a] 0) _
   simp only [ug0, dI_n]
   exact cNe (fun h => absurd rfl h) fun _ => p.step trivial
theorem post_BR {m0 : List (List U)} {b : Bool} {E : Nat} {F : Bool → List (List U) → Prop} : post [.B] [.row E 1] F (.u (.b b)) [.w E 1 m0] = F b m0 := post_Brow
theorem rparse_S {l : Bs} (hl : l.length ≤ 900000) (k : Q (prV (parseL l)) []) : PRun Tryz.prog 6 [] [.u (.s (bA l))] Q := by
 refine S6 (rwords_S hl ?_)
 rw [post_L]
 have hz := bA_size l
 have hwl := wordsL_len l
 unfold parseL at k
 refine cIf (fun h => ?_) fun h1 => ?_
 · have : parseW l (wordsL l) = none := by
    cases wordsL l with
    | nil => rfl
    | cons a r => rw [parseW, if_pos (.inl (by omega))]
   rw [this] at k; exact k
 cases hw : wordsL l with
 | nil => rw [hw] at k; exact k
 | cons a r =>
 rw [hw] at k hwl
 rw [parseW] at k
 have hr1 : r.length + 1 ≤ l.length + 1 := by simpa using hwl.1
 rw [show (((List.map eB (a :: r)).length : Int) == 0) = false by rw [← Bool.not_eq_true]; simp; omega, cond_false]
 rw [elL_of (x := 0) (by omega) (show (List.map eB (a :: r))[Int.toNat 0]? = some (eB a) from rfl)]
 simp only [ug0, dS_s]
 refine rkind_S ?_
 rw [post_I]
 refine cEq (fun e => ?_) fun e => ?_
 · rw [if_pos (.inr e)] at k; exact k
 rw [if_neg (by omega)] at k
 generalize hst : (foldL ⟨kindOf a, List.replicate 19 0, [], []⟩ [] r) = res at k
 refine ⟨fun sn x _ _ _ _ _ _ _ _ _ _ _ _ _ _ _ _ _ _ _ _ _ _ c0 c1 c2 c3 c4 c5 c6 c7 c8 c9 c10 c11 c12 c13 c14 c15 c16 c17 c18 c19 g w => ∃ c seen, CmOk c ∧ c.k = c0 ∧ c.n = [c1, c2, c3, c4, c5, c6, c7, c8, c9, c10, c11, c12, c13, c14, c15, c16, c17, c18, c19] ∧ g = c.g.map eP ∧ w = c.w.map eP ∧ sn = (seen.reverse).map eB ∧ AtI (a :: r) (fun t q => foldL c seen q = res ∧ t ≠ [] ∧ seen.length ≤ t.length) x,
  fun _ x _ _ _ _ _ _ _ _ _ _ _ _ _ _ _ _ _ _ _ _ _ _ _ _ _ _ _ _ _ _ _ _ _ _ _ _ _ _ _ _ _ _ _ _ => SufM (a :: r) x, ⟨⟨kindOf a, List.replicate 19 0, [], []⟩, [], ⟨rfl, by simp, by simp⟩, rfl, rfl, rfl, rfl, rfl, [a], r, ⟨rfl, rfl, by simp; omega⟩, hst, by simp, by simp⟩, ?_⟩
 rintro _ x _ _ _ _ _ _ _ _ _ _ _ _ _ _ _ _ _ _ _ _ _ _ c0 c1 c2 c3 c4 c5 c6 c7 c8 c9 c10 c11 c12 c13 c14 c15 c16 c17 c18 c19 _ _ ⟨c, seen, ok, hk, hn, rfl, rfl, rfl, t, _ | ⟨b, q⟩, p, hq, ht, hsl⟩
 · rw [p.d0, cond_false]
   rw [foldL] at hq
   rw [← hq] at k
   have e1 : c.v = aV c0 [c1, c2, c3, c4, c5, c6, c7, c8, c9, c10, c11, c12, c13, c14, c15, c16, c17, c18, c19] (c.g.map eP) (c.w.map eP) := by show aV c.k c.n _ _ = _; rw [hk, hn]
   show Q (.t [aV c0 [c1, c2, c3, c4, c5, c6, c7, c8, c9, c10, c11, c12, c13, c14, c15, c16, c17, c18, c19] (c.g.map eP) (c.w.map eP), .i 0]) []
   rw [← e1]; exact k
 · rw [p.d1, cond_true, p.el]
   simp only [ug0, dS_s]
   have hbm : b ∈ a :: r := by rw [p.e]; simp
   have hb : b.length ≤ l.length := hwl.2 b hbm
   have htl : t.length + 1 ≤ l.length + 1 := by
    have := congrArg List.length p.e
    simp only [List.length_append, List.length_cons] at this
    omega
   refine rcut_S (c := 61) (by omega) ?_
   rw [post_SSB]
   have hcl : (cutC 61 b).1.length ≤ b.length ∧ (cutC 61 b).2.1.length ≤ b.length := by simpa using cutA_len 61 b []
   rw [foldL] at hq
   have bad : stepL c seen b = none → Q (.t [Cm.zero.v, .i 2]) [] := fun h => by rw [h] at hq; rw [← hq] at k; exact k
   have e1 : c.v = aV c0 [c1, c2, c3, c4, c5, c6, c7, c8, c9, c10, c11, c12, c13, c14, c15, c16, c17, c18, c19] (c.g.map eP) (c.w.map eP) := by show aV c.k c.n _ _ = _; rw [hk, hn]
   cases hf : (cutC 61 b).2.2 with
   | false => exact bad (by unfold stepL; rw [if_pos (.inl hf)])
   | true =>
   rw [Bool.not_true, cond_false]
   refine PRun.lend rfl (in_S (by rw [List.length_reverse]; omega) ⟨rfl, rfl, ?_⟩)
   show post [.B] [.row 9 1] _ (.u (.b (decide ((cutC 61 b).1 ∈ seen.reverse)))) [.w 9 1 _]
   rw [post_BR]
   by_cases hs : (cutC 61 b).1 ∈ seen
   · rw [decide_eq_true (List.mem_reverse.2 hs), cond_true]
     exact bad (by unfold stepL; rw [if_pos (.inr hs)])
   rw [decide_eq_false (fun h => hs (List.mem_reverse.1 h)), cond_false]
   refine ⟨by simp only [apOk, List.length_map, List.length_reverse, List.length_singleton]; omega, ?_⟩
   have hst' : stepL c seen b = (fieldL c (cutC 61 b).1 (cutC 61 b).2.1).map fun d => (d, (cutC 61 b).1 :: seen) := by
    unfold stepL; rw [if_neg (by rw [hf]; rintro (h | h); cases h; exact hs h)]
   have bad2 : fieldL c (cutC 61 b).1 (cutC 61 b).2.1 = none → Q (.t [Cm.zero.v, .i 2]) [] := fun h => bad (by rw [hst', h]; rfl)
   have good : ∀ d : Cm, fieldL c (cutC 61 b).1 (cutC 61 b).2.1 = some d → CmOk d ∧ d.k = c.k ∧ foldL d ((cutC 61 b).1 :: seen) q = res := fun d hd => by
    rw [hst', hd] at hq
    obtain ⟨h1, h2⟩ := fieldL_ok ok hd
    exact ⟨h1, h2, hq⟩
   have next : ∀ (d : Cm) (k' : Int) (n' : List Int), fieldL c (cutC 61 b).1 (cutC 61 b).2.1 = some d → d.k = k' → d.n = n' → ∃ c seen', CmOk c ∧ c.k = k' ∧ c.n = n' ∧ d.g.map eP = c.g.map eP ∧ d.w.map eP = c.w.map eP ∧ seen.reverse.map eB ++ [[.s (bA (cutC 61 b).1)]] = (seen'.reverse).map eB ∧ AtI (a :: r) (fun t q => foldL c seen' q = res ∧ t ≠ [] ∧ seen'.length ≤ t.length) (x + 1) := fun d k' n' hd h1 h2 => by
    obtain ⟨g1, g2, g3⟩ := good d hd
    exact ⟨d, (cutC 61 b).1 :: seen, g1, h1, h2, rfl, rfl, by simp, t ++ [b], q, p.succ, g3, by simp, by simp; omega⟩
   rw [p.suf.wr]
   rw [show ByteArray.mk #[103, 105, 118, 101, 115] = bA givesB from rfl, show ByteArray.mk #[119, 97, 110, 116, 115] = bA wantsB from rfl, bEq, bEq]
   have num : ¬ (c.k = 14 ∧ (cutC 61 b).1 = givesB) → ¬ (c.k = 14 ∧ (cutC 61 b).1 = wantsB) → ∀ (I : Int → Int → Int → Int → Int → Int → Int → Int → Int → Int → Int → Int → Int → Int → Int → Int → Int → Int → Int → Int → List (List U) → List (List U) → Prop), (∀ d : Cm, fieldL c (cutC 61 b).1 (cutC 61 b).2.1 = some d → ∀ a1 a2 a3 a4 a5 a6 a7 a8 a9 a10 a11 a12 a13 a14 a15 a16 a17 a18 a19, d.n = [a1, a2, a3, a4, a5, a6, a7, a8, a9, a10, a11, a12, a13, a14, a15, a16, a17, a18, a19] → I d.k a1 a2 a3 a4 a5 a6 a7 a8 a9 a10 a11 a12 a13 a14 a15 a16 a17 a18 a19 (d.g.map eP) (d.w.map eP)) →
    PRun Tryz.prog 8 [] [.u (.s (bA (cutC 61 b).2.1))] (post [.I, .B] [] (fun x1 b5 => (bif !b5 then Q (.t [Cm.zero.v, .i 2]) [] else PRun Tryz.prog 22 [] [.i c.k] (post [.L 1] [] (fun l10 => (PRun Tryz.prog 21 [] [.l 1 l10, .u (.s (bA (cutC 61 b).1))] (post [.B] [] (fun b6 => (bif !b6 then Q (.t [Cm.zero.v, .i 2]) [] else PRun Tryz.prog 23 [] [c.v, .u (.s (bA (cutC 61 b).1)), .i x1] (post [.agg [.i .i64, .i .i64, .i .i64, .i .i64, .i .i64, .i .i64, .i .i64, .i .i64, .i .i64, .i .i64, .i .i64, .i .i64, .i .i64, .i .i64, .i .i64, .i .i64, .i .i64, .i .i64, .i .i64, .i .i64, .l 2, .l 2], .B] [] (fun y0 y1 y2 y3 y4 y5 y6 y7 y8 y9 y10 y11 y12 y13 y14 y15 y16 y17 y18 y19 l11 l12 b7 => (I y0 y1 y2 y3 y4 y5 y6 y7 y8 y9 y10 y11 y12 y13 y14 y15 y16 y17 y18 y19 l11 l12 : Prop))) : Prop))) : Prop))) : Prop))) := fun hng hnw I hI => by
    have e0 : fieldL c (cutC 61 b).1 (cutC 61 b).2.1 = match numL (cutC 61 b).2.1 with | none => none | some n => if (cutC 61 b).1 ∈ fieldsOf c.k then some (setV c (cutC 61 b).1 n) else none := by
     unfold fieldL; rw [if_neg hng, if_neg hnw] <;> rfl
    refine rNumber_S (by omega) (fun v hv => ?_) fun hv n => ?_
    · rw [post_IB, Bool.not_true, cond_false]
      refine rfields_S ?_
      rw [post_L]
      have hfl := fieldsOf_len c.k
      refine in_S (by omega) ?_
      rw [post_B]
      rw [hv] at e0
      by_cases hm : (cutC 61 b).1 ∈ fieldsOf c.k
      · rw [decide_eq_true hm, Bool.not_true, cond_false]
        simp only [if_pos hm] at e0
        obtain ⟨j, hj, hj19⟩ := fieldsOf_nm hm
        have e2 : setV c (cutC 61 b).1 v = ⟨c.k, c.n.set j v, c.g, c.w⟩ := by unfold setV; rw [hj]
        refine rset_S ok.n (fun j' hj' => ?_) fun h => by rw [hj] at h; cases h
        obtain rfl : j = j' := by rw [hj] at hj'; exact Option.some.inj hj'
        refine post_AB (by rw [List.length_set]; exact ok.n) fun a1 a2 a3 a4 a5 a6 a7 a8 a9 a10 a11 a12 a13 a14 a15 a16 a17 a18 a19 hs2 => ?_
        rw [e2] at e0
        exact hI _ e0 a1 a2 a3 a4 a5 a6 a7 a8 a9 a10 a11 a12 a13 a14 a15 a16 a17 a18 a19 hs2
      · rw [decide_eq_false hm, Bool.not_false, cond_true]
        simp only [if_neg hm] at e0
        exact bad2 e0
    · rw [post_IB, Bool.not_false, cond_true]
      rw [hv] at e0
      exact bad2 e0
   rw [e1, hk] at num
   have st1 : ∀ (bb : Bool) (I J : List (List U) → Prop), c.k = 14 → bb = decide ((cutC 61 b).1 = givesB) → (bb = false → (cutC 61 b).1 = wantsB) → (∀ x, fieldL c (cutC 61 b).1 (cutC 61 b).2.1 = some ⟨c.k, c.n, x, c.w⟩ → I (x.map eP)) → (∀ x, fieldL c (cutC 61 b).1 (cutC 61 b).2.1 = some ⟨c.k, c.n, c.g, x⟩ → J (x.map eP)) →
    PRun Tryz.prog 10 [] [.u (.s (bA (cutC 61 b).2.1))] (post [.L 2, .B] [] (fun l8 b3 => (bif !b3 then Q (.t [Cm.zero.v, .i 2]) [] else (bif bb then I l8 else J l8) : Prop))) := fun bb I J h14 hb0 hb2 hI hJ => by
    refine rstacks_S (by omega) ?_
    unfold stV
    rw [show ∀ (m : Mem) (x : List (List U)) (b : Bool) (F : List (List U) → Bool → Prop), post [.L 2, .B] [] F (.t [.l 2 x, .u (.b b)]) m = F x b from fun _ _ _ _ => rfl]
    cases bb with
    | true =>
      have hng : (cutC 61 b).1 = givesB := of_decide_eq_true hb0.symm
      have e0 : fieldL c (cutC 61 b).1 (cutC 61 b).2.1 = (stacksL (cutC 61 b).2.1).map fun x => ⟨c.k, c.n, x, c.w⟩ := by unfold fieldL; rw [if_pos ⟨h14, hng⟩]
      cases hs3 : stacksL (cutC 61 b).2.1 with
      | some y => rw [hs3] at e0; exact hI y e0
      | none => rw [hs3] at e0; exact bad2 e0
    | false =>
      have hng : ¬ (cutC 61 b).1 = givesB := of_decide_eq_false hb0.symm
      have e0 : fieldL c (cutC 61 b).1 (cutC 61 b).2.1 = (stacksL (cutC 61 b).2.1).map fun x => ⟨c.k, c.n, c.g, x⟩ := by unfold fieldL; rw [if_neg (fun h => hng h.2), if_pos ⟨h14, hb2 rfl⟩]
      cases hs3 : stacksL (cutC 61 b).2.1 with
      | some y => rw [hs3] at e0; exact hJ y e0
      | none => rw [hs3] at e0; exact bad2 e0
   have fin : ∀ d : Cm, fieldL c (cutC 61 b).1 (cutC 61 b).2.1 = some d → d.k = c0 := fun d hd => by rw [(good d hd).2.1, hk]
   refine cEq (fun e => ?_) fun e => num (fun h => e (hk ▸ h.1)) (fun h => e (hk ▸ h.1)) _ fun d hd a1 a2 a3 a4 a5 a6 a7 a8 a9 a10 a11 a12 a13 a14 a15 a16 a17 a18 a19 hs2 => ⟨next d _ _ hd rfl hs2, p.suf.me⟩
   have h14 : c.k = 14 := by rw [hk, e]
   refine cIf (fun h1 => ?_) fun h1 => cIf (fun h2 => ?_) fun h2 => num (fun h => h1 h.2) (fun h => h2 h.2) _ fun d hd a1 a2 a3 a4 a5 a6 a7 a8 a9 a10 a11 a12 a13 a14 a15 a16 a17 a18 a19 hs2 => ⟨next d _ _ hd rfl hs2, p.suf.me⟩
   · exact st1 _ _ _ h14 rfl (fun h => absurd h1 (of_decide_eq_false h)) (fun y hy => ⟨next _ _ _ hy (fin _ hy) hn, p.suf.me⟩) fun y hy => ⟨next _ _ _ hy (fin _ hy) hn, p.suf.me⟩
   · exact st1 _ _ _ h14 rfl (fun h => h2) (fun y hy => ⟨next _ _ _ hy (fin _ hy) hn, p.suf.me⟩) fun y hy => ⟨next _ _ _ hy (fin _ hy) hn, p.suf.me⟩
end Go.Proofs.YtaogfopaalancaaGreatDoor
/- The law's known command; the law of the readers. -/
set_option linter.unusedVariables false
set_option maxRecDepth 100000
namespace Go.Proofs.YtaogfopaalancaaGreatDoor
open Go Go.Proofs Go.Lib
variable {Q : V → Mem → Prop}
def awC : Cm := ⟨14, [1, 2, 0, 0, 0, 0, 0, 0, 0, -7, 0, 0, 0, 0, 0, 0, 0, 0, 0], [(1, 5), (3, 2)], [(2, 1)]⟩
theorem aw_parse : parseL [32, 32, 105, 115, 115, 117, 101, 32, 119, 97, 110, 116, 115, 61, 50, 120, 49, 32, 119, 104, 111, 61, 49, 32, 103, 105, 118, 101, 115, 61, 49, 120, 53, 44, 51, 120, 50, 32, 110, 61, 45, 55, 32, 97, 115, 61, 50, 32] = some awC := by kernel_rfl
theorem aw_bad : parseL [116, 105, 99, 107, 32, 110, 61, 49, 32, 110, 61, 49] = none := by kernel_rfl
theorem aw_check : checkL awC = 0 := by kernel_rfl
theorem aw_line : lineT awC = [105, 115, 115, 117, 101, 32, 119, 104, 111, 61, 49, 32, 97, 115, 61, 50, 32, 110, 61, 45, 55, 32, 103, 105, 118, 101, 115, 61, 49, 120, 53, 44, 51, 120, 50, 32, 119, 97, 110, 116, 115, 61, 50, 120, 49] := by kernel_rfl
theorem aw_min : numL [45, 57, 50, 50, 51, 51, 55, 50, 48, 51, 54, 56, 53, 52, 55, 55, 53, 56, 48, 56] = some (-9223372036854775808) := by kernel_rfl
theorem aw_01 : numL [48, 49] = none := by kernel_rfl
theorem aw_64 : Cm64 awC := ⟨by decide, by decide, by decide⟩
theorem post_SI {m : Mem} {x : ByteArray} {n : Int} {F : ByteArray → Int → Prop} : post [.S, .I] [] F (.t [.u (.s x), .i n]) m = F x n := rfl
theorem awake_S (k : Q (.u (.b true)) []) : PRun Tryz.prog 4 [] [] Q := by
 refine S4 ?_
 refine cparse_S (l := [32, 32, 105, 115, 115, 117, 101, 32, 119, 97, 110, 116, 115, 61, 50, 120, 49, 32, 119, 104, 111, 61, 49, 32, 103, 105, 118, 101, 115, 61, 49, 120, 53, 44, 51, 120, 50, 32, 110, 61, 45, 55, 32, 97, 115, 61, 50, 32]) (by decide) ?_
 rw [aw_parse]
 show PRun Tryz.prog 13 [] [awC.v] _
 refine cline_S rfl (by decide) (by decide) aw_64 ?_
 unfold lnV
 rw [if_pos aw_check, aw_line, post_SI]
 refine cparse_S (l := [116, 105, 99, 107, 32, 110, 61, 49, 32, 110, 61, 49]) (by decide) ?_
 rw [aw_bad]
 refine number_S (l := [45, 57, 50, 50, 51, 51, 55, 50, 48, 51, 54, 56, 53, 52, 55, 55, 53, 56, 48, 56]) (by decide) (fun v hv => ?_) fun h => by rw [aw_min] at h; cases h
 rw [aw_min] at hv
 cases hv
 rw [post_IB]
 refine number_S (l := [48, 49]) (by decide) (fun v hv => by rw [aw_01] at hv; cases hv) fun h => ?_
 rw [post_IB]
 refine rsame_S (c := awC) rfl (by decide) (by decide) ?_
 rw [post_B, bEq]
 simpa using k
theorem parseW_ok {l : Bs} {ws : List Bs} {c : Cm} (h : parseW l ws = some c) : CmOk c := by
 have gen : ∀ (ws : List Bs) (seen : List Bs) (c d : Cm), CmOk c → foldL c seen ws = some d → CmOk d := by
  intro ws
  induction ws with
  | nil => intro seen c d hc hd; cases hd; exact hc
  | cons w r ih =>
    intro seen c d hc hd
    rw [foldL] at hd
    split at hd
    · cases hd
    · rename_i st hst
      unfold stepL at hst
      split at hst
      · cases hst
      · obtain ⟨x, hx, rfl⟩ := Option.map_eq_some_iff.1 hst
        exact ih _ _ _ (fieldL_ok hc hx).1 hd
 cases ws with
 | nil => cases h
 | cons a r =>
   rw [parseW] at h
   split at h
   · cases h
   · exact gen _ _ _ _ ⟨by simp, by simp, by simp⟩ h
theorem prV_cases {o : Option Cm} (ho : ∀ c, o = some c → CmOk c) : ∃ c e, CmOk c ∧ prV o = .t [c.v, .i e] := by
 cases o with
 | none => exact ⟨Cm.zero, 2, ⟨rfl, by simp [Cm.zero], by simp [Cm.zero]⟩, rfl⟩
 | some c => exact ⟨c, 0, ho c rfl, rfl⟩
theorem stV_eq (o : Option (List (Int × Int))) : stV o = .t [.l 2 ((o.getD []).map eP), .u (.b o.isSome)] := rfl
theorem post_LB {m : Mem} {x : List (List U)} {b : Bool} {F : List (List U) → Bool → Prop} : post [.L 2, .B] [] F (.t [.l 2 x, .u (.b b)]) m = F x b := rfl
theorem deskParses_run {line text : ByteArray} (k : Q (.u (.b true)) []) : PRun Tryz.prog 3 [] [.u (.s line), .u (.s text)] Q := by
 obtain ⟨a, rfl⟩ : ∃ a, line = bA a := ⟨_, bA_eta line⟩
 obtain ⟨t, rfl⟩ : ∃ t, text = bA t := ⟨_, bA_eta text⟩
 refine S3 (cIf (fun h => awake_S ?_) fun h1 => cIf (fun h => awake_S ?_) fun h2 => ?_)
 · rw [post_B]; exact k
 · rw [post_B]; exact k
 rw [bA_size] at h1 h2
 obtain ⟨⟨ck, cn, cg, cw⟩, e, ok, he⟩ := prV_cases (o := parseL a) fun c hc => parseW_ok hc
 obtain ⟨a1, a2, a3, a4, a5, a6, a7, a8, a9, a10, a11, a12, a13, a14, a15, a16, a17, a18, a19, hc⟩ := list19 ok.n
 have hc : cn = _ := hc
 subst hc
 have fin : ∀ (x : Int) (b : Bool), PRun Tryz.prog 9 [] [.u (.s (bA t))] (post [.L 2, .B] [] fun l5 b5 => PRun Tryz.prog 10 [] [.u (.s (bA t))] (post [.L 2, .B] [] fun l6 b6 => PRun Tryz.prog 11 [] [Cm.v ⟨ck, [a1, a2, a3, a4, a5, a6, a7, a8, a9, a10, a11, a12, a13, a14, a15, a16, a17, a18, a19], cg, cw⟩, Cm.v ⟨ck, [a1, a2, a3, a4, a5, a6, a7, a8, a9, a10, a11, a12, a13, a14, a15, a16, a17, a18, a19], cg, cw⟩] (post [.B] [] fun b7 => (bif b7 then (bif e == e then (bif x == x then (bif b == b then PRun Tryz.prog 12 [] [.l 2 l5, .l 2 l6] (post [.B] [] (fun b8 => (bif b8 then (bif b5 == b6 then PRun Tryz.prog 4 [] [] (post [.B] [] (fun b9 => (Q (.u (.b b9)) [] : Prop))) else Q (.u (.b false)) []) else Q (.u (.b false)) [] : Prop))) else Q (.u (.b false)) []) else Q (.u (.b false)) []) else Q (.u (.b false)) []) else Q (.u (.b false)) [] : Prop)))) := by
  intro x b
  refine stacks_S (by omega) ?_
  rw [stV_eq, post_LB]
  refine rstacks_S (by omega) ?_
  rw [stV_eq, post_LB]
  refine rsame_S ok.n (Nat.le_trans ok.g (by decide)) (Nat.le_trans ok.w (by decide)) ?_
  rw [post_B]
  simp only [beq_self_eq_true, cond_true]
  have hs : ((stacksL t).getD []).length ≤ 8 := by
   cases hx : stacksL t with
   | none => simp
   | some x => exact stacksL_len hx
  refine same_S (by omega) (by omega) ?_
  rw [post_B, decide_eq_true rfl, cond_true]
  refine awake_S ?_
  rw [post_B]; exact k
 refine cparse_S (by omega) ?_
 rw [he]
 show PRun Tryz.prog 6 [] _ _
 refine rparse_S (by omega) ?_
 rw [he]
 show PRun Tryz.prog 7 [] _ _
 refine number_S (by omega) (fun v hv => ?_) fun hv => ?_
 · rw [post_IB]
   refine rNumber_S (by omega) (fun v' hv' => ?_) fun hv' => by rw [hv] at hv'; cases hv'
   rw [hv] at hv'; cases hv'
   rw [post_IB]
   intro k1 hk
   rw [Bool.not_true, cond_false]
   exact hk _ (fin v true)
 · rw [post_IB]
   refine rNumber_S (by omega) (fun v' hv' => by rw [hv] at hv'; cases hv') fun hv' n => ?_
   rw [post_IB]
   intro k1 hk
   rw [Bool.not_false, cond_true]
   exact hk _ (fin 0 false)
end Go.Proofs.YtaogfopaalancaaGreatDoor
/- The row of DeskParses: whatever it is given it returns true, and what it was given reads as it did. -/
namespace Go.Proofs.YtaogfopaalancaaGreatDoor
open Go Go.Proofs Go.ChangeShapes Go.WideShapes Go.ChangeAt Go.RowKit
set_option maxRecDepth 100000
theorem gtab_of {P : Program} {W : World} {name : String} {g t e n : Nat} {k : IntKind} {zs : List Int} (hg : P.globalNamed name = some g) (hty : (P.globals[g]?).map (·.type) = some t)
 (ht : P.underlying t = some (.array n e)) (he : P.underlying e = some (.int k)) (hce : P.cellsOf e = 1) (hct : P.cellsOf t = n) (h : Lib.VarReads P W name (Lib.tabData k zs)) : GTab (fun b => W.heap[b]?) g k zs := by
 obtain ⟨g0, t0, cs, fuel, p, h1, h2, h3, h4⟩ := h
 obtain rfl := Option.some.inj (hg.symm.trans h1)
 obtain rfl := Option.some.inj (hty.symm.trans h2)
 have h5 := Lib.cells_of_tab ht he hce hct h4
 unfold World.var? at h3
 rw [h1, Option.bind_some] at h3
 split at h3
 · rename_i c T z heq
   cases h3
   exact ⟨T, z, heq.trans (by rw [← h5])⟩
 · cases h3
theorem gerr_of {P : Program} {W : World} {name nm : String} {d : DataW Unit} {g t : Nat} {ms : Array (String × TypeId)} (hg : P.globalNamed name = some g) (hty : (P.globals[g]?).map (·.type) = some t)
 (hi : P.underlying t = some (.interface ms)) (h : Lib.VarReads P W name (.iface nm d)) : GErr (fun b => W.heap[b]?) g := by
 obtain ⟨g0, t0, cs, fuel, p, h1, h2, h3, h4⟩ := h
 obtain rfl := Option.some.inj (hg.symm.trans h1)
 obtain rfl := Option.some.inj (hty.symm.trans h2)
 obtain ⟨fuel', u, v, h5, -⟩ := iface_of_trod hi h4
 unfold World.var? at h3
 rw [h1, Option.bind_some] at h3
 split at h3
 · rename_i c T z heq
   cases h3
   exact ⟨u, v, T, z, heq.trans (by obtain ⟨l⟩ := cs; rw [show l = _ from h5])⟩
 · cases h3
theorem gnum_of {W : World} (hsh : W.ShapedOpen Tryz.prog) (h : ∃ m, W.cell? ⟨1, 0, none⟩ = some (.int .i64 m)) : GNum (fun b => W.heap[b]?) 1 := by
 obtain ⟨cs, h1, h2, -⟩ := hsh.1 1 #[.int .i64 0] 3 (of_decide_eq_true (by kernel_rfl)) (by kernel_rfl)
 obtain ⟨m, hm⟩ := h
 unfold World.cell? at hm
 rw [show W.heap[(1 : Nat)]? = _ from h1] at hm
 obtain ⟨l⟩ := cs
 have h2 : l.length = 1 := h2
 match l, h2 with
 | [v], _ =>
   have hm : some v = some (Value.int .i64 m) := hm
   cases hm
   exact ⟨m, 3, (0, 0), h1⟩
theorem glH_of {W : World} (hL : laidMetH Tryz.prog Rows.deskParsesRow.laid W) (hsh : W.ShapedOpen Tryz.prog) : GlH W.heap := by
 rw [MakeChecks.laidMetH_plain _ _ _ (by kernel_rfl)] at hL
 refine ⟨⟨?_, ?_, ?_, ?_, ?_⟩⟩
 · exact gtab_of (name := "strings.asciiSpace") (by kernel_rfl) (by kernel_rfl) Tryz.underlying94 Tryz.underlying5 (by kernel_rfl) (by kernel_rfl) (Lib.laidMet.reads hL (List.mem_of_getElem? (i := 7) (by kernel_rfl)))
 · exact gtab_of (name := "internal/strconv.uint64pow10") (by kernel_rfl) (by kernel_rfl) Tryz.underlying113 Tryz.underlying81 (by kernel_rfl) (by kernel_rfl) (Lib.laidMet.reads hL (List.mem_of_getElem? (i := 2) (by kernel_rfl)))
 · exact gerr_of (by kernel_rfl) (by kernel_rfl) Tryz.underlying53 (Lib.laidMet.reads hL (n := "strconv.ErrSyntax") (List.mem_of_getElem? (i := 5) rfl))
 · exact gerr_of (by kernel_rfl) (by kernel_rfl) Tryz.underlying53 (Lib.laidMet.reads hL (n := "strconv.ErrRange") (List.mem_of_getElem? (i := 4) rfl))
 · exact gnum_of hsh (Tryz.laysM146.s1_3 W hsh)
theorem handed_laid {H : Type} {enc : TypeId × Value → H} {a : Assume} {C : Checked} {os : Os} {f : FuncId} {fn : Func} {s : ChangeSpec} {conds : List PathCond} {apart fresh handsOn again : Bool} {X : World → Array Value → Prop}
 (hX : ∀ (w w' : World) (args : Array Value), w.heap = w'.heap → X w args → X w' args)
 (own : ownKnob C.prog.godebug = none) (started : os.Started) (noInit : C.prog.inits.idxOf? f = none) (hfn : C.prog.funcs[f]? = some fn)
 (witness : ∃ (w : World) (tape : Tape) (i : Input), w.os = os ∧ (w.forCall tape i).Shaped C.prog ∧ i.vars = [] ∧ Input.okWide C.prog (w.forCall tape i) .any w.heap.size f i ∧
  ((s.pre enc C.prog fn conds apart (w.forCall tape i).memory i.args ∧ X (w.forCall tape i).memory i.args) ∧ sizedMet enc C.prog fn (OpenSpec.ofChange s) apart (w.forCall tape i).memory i.args) ∧ a.holds C.prog (lone (Frame.enter C.prog f i.args .normal) [] (w.forCall tape i)))
 (contract : ∀ (W : World) (base : Nat) (args : Array Value) (ds gs : List (DataW H)) (before : List MemPlace),
  (∀ (j : Nat) t v, fn.params[j]? = some t → args[j]? = some v → Value.okWide C.prog W .any base t v) →
  DataW.Whole enc C.prog fn.params.toList s.vars apart W args.toList ds gs before → X W args → W.ShapedOpen C.prog →
  Calls C.prog f args W fun e W' => ∃ v, e = .returned v ∧ s.post enc C.prog fn apart fresh handsOn again W args v W') :
 ReturnsInHanded a C os f .any (fun w args => (s.pre enc C.prog fn conds apart w args ∧ X w args) ∧ sizedMet enc C.prog fn (OpenSpec.ofChange s) apart w args) (s.post enc C.prog fn apart fresh handsOn again) := by
 refine returnsInHanded_of_calls own started noInit witness ?_
 intro w tape i _ hsh _ hok hpre _
 obtain ⟨_, _, _, fn', hfn', _, _, _, _, hval⟩ := hok
 have e : fn' = fn := Option.some.inj (hfn'.symm.trans hfn)
 subst e
 obtain ⟨⟨⟨ds, gs, before, hw, -⟩, hx⟩, -⟩ := hpre
 have hw' := DataW.Whole.of_heap (w' := w.forCall tape i) (by rfl) hw
 refine (contract (w.forCall tape i) w.heap.size i.args ds gs before hval hw' (hX _ _ _ (by rfl) hx) hsh).mono fun e W' ⟨v, he, hp⟩ => ?_
 subst he
 exact ChangeSpec.post_blind hp
theorem deskParses_lifted (os : Os) (started : os.Started) (H : Type) (enc : TypeId × Value → H) :
 ReturnsInHanded {} Tryz.checked os 3 .any (fun w args => (Rows.deskParsesSpec.pre enc Tryz.prog Tryz.f3 Rows.deskParsesRow.domain false w args ∧ laidMetH Tryz.prog Rows.deskParsesRow.laid w) ∧ sizedMet enc Tryz.prog Tryz.f3 (OpenSpec.ofChange Rows.deskParsesSpec) false w args) (Rows.deskParsesSpec.post enc Tryz.prog Tryz.f3 false true false false) := by
 refine handed_laid (C := Tryz.checked) (X := fun w _ => laidMetH Tryz.prog Rows.deskParsesRow.laid w) (fun _ _ _ hh h => h.of_heap hh) Tryz.own started (by kernel_rfl) Tryz.func3
  (ChangeSpec.witness_shaped (enc := enc) (C := Tryz.checked) (os := os) (X := fun w _ => laidMetH Tryz.prog Rows.deskParsesRow.laid w) false (World.laidAll Tryz.prog os Rows.deskParsesRow.laid) #[.string ⟨#[]⟩, .string ⟨#[]⟩] 8 (World.laidAll_os _ _ _)
   (World.shaped_of_ZipB (by kernel_rfl) (by kernel_rfl)) (by kernel_rfl) (by kernel_rfl) (by kernel_rfl)
   (by rw [MakeChecks.laidMetH_plain _ _ _ (by kernel_rfl)]; exact laidMet_laidAll _ (by kernel_rfl) (by kernel_rfl))) ?_
 intro W base args ds gs before hval0 hW hL hsh
 haveI : GlH W.heap := glH_of hL hsh
 have hval : ∀ (j : Nat) t v, Tryz.f3.params[j]? = some t → args[j]? = some v → Value.okWide Tryz.prog W .any base t v := hval0
 have hW' := hW
 obtain ⟨p, q, hA0, hV, rfl, hfz, hnd⟩ := hW
 have hA : DataW.TrodAll enc Tryz.prog W 0 (fun _ => true) true Tryz.f3.params.toList args.toList ds p := hA0
 rw [Tryz.params3] at hA hval
 obtain ⟨v0, v1, d0, d1, p0, p1, rfl, rfl, rfl, h0, h1⟩ := trodAll_two hA
 obtain ⟨rfl, rfl⟩ := trodVars_none hV
 obtain ⟨us0, hr0, sh0⟩ := open_data (ds := (.s .nil)) (by kernel_rfl) h0
 obtain ⟨x0, rfl⟩ : ∃ x, us0 = [.s x] := by obtain ⟨_, _, rfl, _, hh⟩ := sh0; obtain rfl : _ = [] := hh; exact ⟨_, rfl⟩
 have hr0 : Rd (allD W.heap) v0 (.s x0) := rd_string (hval 0 9 v0 rfl rfl) Tryz.underlying9 hr0
 obtain ⟨us1, hr1, sh1⟩ := open_data (ds := (.s .nil)) (by kernel_rfl) h1
 obtain ⟨x1, rfl⟩ : ∃ x, us1 = [.s x] := by obtain ⟨_, _, rfl, _, hh⟩ := sh1; obtain rfl : _ = [] := hh; exact ⟨_, rfl⟩
 have hr1 : Rd (allD W.heap) v1 (.s x1) := rd_string (hval 1 9 v1 rfl rfl) Tryz.underlying9 hr1
 clear hA0 hval0
 refine ((deskParses_run (Q := fun v _ => v = .u (.b true)) rfl (allD W.heap) [] [] [] W.heap _ (SAt.all W.heap) (.cons (.u hr0) (.cons (.u hr1) (.nil)))).2 W rfl).mono ?_
 rintro e W' ⟨v, rfl, ⟨D', ρ', chs', x, m', le, M', hv, rfl⟩, hsm⟩
 obtain rfl : v = .bool true := by cases hv with | u h => cases h; rfl
 have hb := belowOf (St.kept le M'.st) hsm
 have hlt0 : ∀ x ∈ p0, x.block < W.heap.size := fun x hx => by simpa using hW'.lt x (by simp [hx])
 have hlt1 : ∀ x ∈ p1, x.block < W.heap.size := fun x hx => by simpa using hW'.lt x (by simp [hx])
 exact ⟨_, rfl, _, _, _, [], _, [], hW', trodAll_mk1 (shut_bool Tryz.underlying4 true), trodAll_mk2 (hb.trod Tryz.laidOut (by kernel_rfl) (of_decide_eq_true (by kernel_rfl)) h0 hlt0) (hb.trod Tryz.laidOut (by kernel_rfl) (of_decide_eq_true (by kernel_rfl)) h1 hlt1), rfl, hb.frame _, fun h => by cases h⟩
theorem deskParses_holds : Rows.DeskParsesSaid :=
 OpenClaim.holds_of_wide 3 Tryz.f3 rfl rfl rfl rfl rfl rfl rfl ⟨rfl, rfl, rfl, rfl, rfl⟩ rfl rfl rfl rfl rfl (by kernel_rfl) Tryz.func3 (by kernel_rfl)
  (of_decide_eq_true (by kernel_rfl)) (by unfold Func.isWrapper; first | (rw [if_pos (by decide +kernel)]; kernel_rfl) | (rw [if_neg (by decide +kernel)]; exact ⟨rfl, rfl⟩))
  (fun os started H enc _ => deskParses_lifted os started H enc)
theorem deskParsesCard_holds : Rows.DeskParsesCardSaid :=
 Claim7.holds_tied_plain_at .later [] [.data, .data, .data, .data, .sentinel, .sentinel, .listed, .data, .pinned] true (true, "5191d26456624b88f5561a5bb38ec520d849086804ea461264c8cf72fac04412") true deskParses_holds (fun _ h => by cases h) (by kernel_rfl) (fun _ h => by cases h) deskParses_row_tie rfl ⟨rfl, rfl⟩ (by kernel_rfl) rfl
  (fun f fn hf hfn => by
   obtain rfl : f = 3 := Option.some.inj ((show Tryz.prog.funcNamed "bottomry/bottomrylaw37.DeskParses" = some 3 by kernel_rfl).symm.trans hf) |>.symm
   obtain rfl : fn = Tryz.f3 := (Option.some.inj (Tryz.func3.symm.trans hfn)).symm
   exact ⟨by kernel_rfl, fun j t ht => by
    rw [Tryz.params3] at ht
    have hm : t ∈ [9, 9] := by simpa using Array.mem_of_getElem? ht
    have hall : ([9, 9].all fun u => !Tryz.prog.wantsStandIn u) = true := by kernel_rfl
    exact (show Tryz.prog.wantsStandIn t = false by simpa using List.all_eq_true.1 hall t hm)⟩)
  (by kernel_rfl)
end Go.Proofs.YtaogfopaalancaaGreatDoor
