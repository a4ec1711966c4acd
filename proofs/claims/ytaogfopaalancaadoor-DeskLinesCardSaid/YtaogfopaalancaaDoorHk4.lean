/- The row of DeskLines: whatever it is given it returns true, and what it was given reads as it did. -/
import Derived.Test.YtaogfopaalancaaDoorHk3
import Derived.Test.YtaogfopaalancaaDoorProg
import Derived.Test.YtaogfopaalancaaDoorRows
import Derived.ProofKit
import Derived.Deep.SlicePairs
import Derived.Shelf.Strings.Cut
import Derived.Shelf.Strings.SplitShaped
import Derived.Shelf.Strings.OnBuilder
import Derived.Shelf.Strconv.Itoa4
import Derived.Shelf.Strconv.ParseIntPublic10
import Derived.Test.YtaogfopaalancaaDoorChecked
import Derived.Lib.SmallJoins
import Derived.Lib.Fields
import Derived.Lib.ItoaLen
import Derived.Test.YtaogfopaalancaaDoorTie
import Derived.Test.YtaogfopaalancaaDoorCards
import Derived.Lib.LaidU8
import Derived.Stop.LaidErr
import Derived.Stop.Joined
import Derived.LaidMore
import Derived.Lay
import Derived.SevenTiedAt
/- What the functions do, written by program (psv.py) and held against the program by the kernel. -/
set_option linter.unusedVariables false
set_option maxRecDepth 100000
namespace Go.Proofs.YtaogfopaalancaaDoor
open Go Go.Proofs
theorem mixTd2 : Tryd.prog.follows .mixedOrders = true := by kernel_rfl
theorem S23 {name : ByteArray} {Q : V → Mem → Prop} (hh : bif ByteArray.toList (ByteArray.mk #[109, 105, 110, 116]) == ByteArray.toList name then Q (.i 1) [] else (bif ByteArray.toList (ByteArray.mk #[115, 101, 101, 100]) == ByteArray.toList name then Q (.i 2) [] else (bif ByteArray.toList (ByteArray.mk #[100, 114, 97, 102, 116]) == ByteArray.toList name then Q (.i 3) [] else (bif ByteArray.toList (ByteArray.mk #[102, 111, 117, 110, 100]) == ByteArray.toList name then Q (.i 4) [] else (bif ByteArray.toList (ByteArray.mk #[101, 110, 114, 111, 108]) == ByteArray.toList name then Q (.i 5) [] else (bif ByteArray.toList (ByteArray.mk #[101, 120, 112, 101, 108]) == ByteArray.toList name then Q (.i 6) [] else (bif ByteArray.toList (ByteArray.mk #[112, 97, 121]) == ByteArray.toList name then Q (.i 7) [] else (bif ByteArray.toList (ByteArray.mk #[103, 105, 118, 101]) == ByteArray.toList name then Q (.i 8) [] else (bif ByteArray.toList (ByteArray.mk #[105, 110, 115, 116, 97, 108, 108]) == ByteArray.toList name then Q (.i 9) [] else (bif ByteArray.toList (ByteArray.mk #[112, 97, 117, 115, 101]) == ByteArray.toList name then Q (.i 10) [] else (bif ByteArray.toList (ByteArray.mk #[114, 101, 115, 117, 109, 101]) == ByteArray.toList name then Q (.i 11) [] else (bif ByteArray.toList (ByteArray.mk #[99, 97, 110, 99, 101, 108]) == ByteArray.toList name then Q (.i 12) [] else (bif ByteArray.toList (ByteArray.mk #[100, 101, 108, 105, 118, 101, 114]) == ByteArray.toList name then Q (.i 13) [] else (bif ByteArray.toList (ByteArray.mk #[105, 115, 115, 117, 101]) == ByteArray.toList name then Q (.i 14) [] else (bif ByteArray.toList (ByteArray.mk #[97, 99, 99, 101, 112, 116]) == ByteArray.toList name then Q (.i 15) [] else (bif ByteArray.toList (ByteArray.mk #[104, 97, 110, 100]) == ByteArray.toList name then Q (.i 16) [] else (bif ByteArray.toList (ByteArray.mk #[102, 97, 105, 108]) == ByteArray.toList name then Q (.i 17) [] else (bif ByteArray.toList (ByteArray.mk #[114, 101, 106, 101, 99, 116]) == ByteArray.toList name then Q (.i 18) [] else (bif ByteArray.toList (ByteArray.mk #[114, 101, 118, 111, 107, 101]) == ByteArray.toList name then Q (.i 19) [] else (bif ByteArray.toList (ByteArray.mk #[116, 105, 99, 107]) == ByteArray.toList name then Q (.i 20) [] else (bif ByteArray.toList (ByteArray.mk #[109, 111, 110, 101, 121]) == ByteArray.toList name then Q (.i 21) [] else (bif ByteArray.toList (ByteArray.mk #[115, 116, 97, 99, 107]) == ByteArray.toList name then Q (.i 22) [] else (bif ByteArray.toList (ByteArray.mk #[106, 111, 98]) == ByteArray.toList name then Q (.i 23) [] else (bif ByteArray.toList (ByteArray.mk #[100, 101, 97, 108]) == ByteArray.toList name then Q (.i 24) [] else (bif ByteArray.toList (ByteArray.mk #[99, 108, 111, 99, 107]) == ByteArray.toList name then Q (.i 25) [] else Q (.i 0) []))))))))))))))))))))))))) : PRun Tryd.prog 23 [] [.u (.s name)] Q :=
 funS2 mixTd2 Tryd.func23 (by kernel_rfl) (H := ⟨[], [], [33], [], [], false, 64, KN.no, false, SP.no⟩) (n := 3) (by kernel_rfl) hh
theorem S11 {kind : Int} {Q : V → Mem → Prop} (hh : bif decide (kind < 1) then Q (.u (.s (ByteArray.mk #[]))) [] else (bif decide (kind > 25) then Q (.u (.s (ByteArray.mk #[]))) [] else elL ([[.s (ByteArray.mk #[109, 105, 110, 116]), .s (ByteArray.mk #[97, 115, 32, 110])], [.s (ByteArray.mk #[115, 101, 101, 100]), .s (ByteArray.mk #[97, 115, 32, 100, 105, 118, 32, 112, 108, 97, 99, 101, 32, 116, 121, 112, 101, 32, 110])], [.s (ByteArray.mk #[100, 114, 97, 102, 116]), .s (ByteArray.mk #[97, 115, 32, 100, 105, 118, 32, 112, 108, 97, 99, 101, 32, 116, 121, 112, 101, 32, 109, 101, 32, 116, 101, 32, 114, 117, 110, 115])], [.s (ByteArray.mk #[102, 111, 117, 110, 100]), .s (ByteArray.mk #[119, 104, 111])], [.s (ByteArray.mk #[101, 110, 114, 111, 108]), .s (ByteArray.mk #[119, 104, 111, 32, 97, 115, 32, 116, 111, 32, 114, 111, 108, 101, 115])], [.s (ByteArray.mk #[101, 120, 112, 101, 108]), .s (ByteArray.mk #[119, 104, 111, 32, 97, 115, 32, 116, 111])], [.s (ByteArray.mk #[112, 97, 121]), .s (ByteArray.mk #[119, 104, 111, 32, 97, 115, 32, 116, 111, 32, 110])], [.s (ByteArray.mk #[103, 105, 118, 101]), .s (ByteArray.mk #[119, 104, 111, 32, 97, 115, 32, 100, 105, 118, 32, 116, 111, 32, 105, 110, 116, 111, 32, 112, 108, 97, 99, 101, 32, 116, 121, 112, 101, 32, 110])], [.s (ByteArray.mk #[105, 110, 115, 116, 97, 108, 108]), .s (ByteArray.mk #[119, 104, 111, 32, 97, 115, 32, 100, 105, 118, 32, 98, 97, 121, 32, 105, 100, 32, 116, 121, 112, 101, 32, 114, 117, 110, 115, 32, 99, 111, 112, 105, 101, 115])], [.s (ByteArray.mk #[112, 97, 117, 115, 101]), .s (ByteArray.mk #[119, 104, 111, 32, 105, 100])], [.s (ByteArray.mk #[114, 101, 115, 117, 109, 101]), .s (ByteArray.mk #[119, 104, 111, 32, 105, 100])], [.s (ByteArray.mk #[99, 97, 110, 99, 101, 108]), .s (ByteArray.mk #[119, 104, 111, 32, 105, 100])], [.s (ByteArray.mk #[100, 101, 108, 105, 118, 101, 114]), .s (ByteArray.mk #[119, 104, 111, 32, 105, 100])], [.s (ByteArray.mk #[105, 115, 115, 117, 101]), .s (ByteArray.mk #[119, 104, 111, 32, 97, 115, 32, 100, 105, 118, 32, 116, 121, 112, 101, 32, 116, 111, 32, 112, 108, 97, 99, 101, 32, 100, 101, 115, 116, 32, 110, 32, 112, 108, 101, 100, 103, 101, 32, 108, 97, 115, 116, 115, 32, 100, 97, 121, 115])], [.s (ByteArray.mk #[97, 99, 99, 101, 112, 116]), .s (ByteArray.mk #[119, 104, 111, 32, 97, 115, 32, 100, 105, 118, 32, 105, 100])], [.s (ByteArray.mk #[104, 97, 110, 100]), .s (ByteArray.mk #[119, 104, 111, 32, 105, 100])], [.s (ByteArray.mk #[102, 97, 105, 108]), .s (ByteArray.mk #[119, 104, 111, 32, 105, 100])], [.s (ByteArray.mk #[114, 101, 106, 101, 99, 116]), .s (ByteArray.mk #[119, 104, 111, 32, 105, 100])], [.s (ByteArray.mk #[114, 101, 118, 111, 107, 101]), .s (ByteArray.mk #[119, 104, 111, 32, 105, 100])], [.s (ByteArray.mk #[116, 105, 99, 107]), .s (ByteArray.mk #[110])], [.s (ByteArray.mk #[109, 111, 110, 101, 121]), .s (ByteArray.mk #[119, 104, 111, 32, 97, 115])], [.s (ByteArray.mk #[115, 116, 97, 99, 107]), .s (ByteArray.mk #[119, 104, 111, 32, 97, 115, 32, 100, 105, 118, 32, 112, 108, 97, 99, 101, 32, 116, 121, 112, 101])], [.s (ByteArray.mk #[106, 111, 98]), .s (ByteArray.mk #[119, 104, 111, 32, 105, 100])], [.s (ByteArray.mk #[100, 101, 97, 108]), .s (ByteArray.mk #[119, 104, 111, 32, 105, 100])], [.s (ByteArray.mk #[99, 108, 111, 99, 107]), .s (ByteArray.mk #[119, 104, 111])]] : List (List U)) (IntKind.wrap .i64 (kind - 1)) (fun r1 => dS (ug r1 0) (fun s1 => dS (ug r1 1) (fun s2 => Q (.u (.s s1)) []))))) : PRun Tryd.prog 11 [] [.i kind] Q :=
 funS2 mixTd2 Tryd.func11 (by kernel_rfl) (H := ⟨[], [], [33], [], [], false, 64, KN.no, false, SP.no⟩) (n := 3) (by kernel_rfl) hh
theorem S12 {kind : Int} {Q : V → Mem → Prop} (hh : bif decide (kind < 1) then Q (.l 1 []) [] else (bif decide (kind > 25) then Q (.l 1 []) [] else elL ([[.s (ByteArray.mk #[109, 105, 110, 116]), .s (ByteArray.mk #[97, 115, 32, 110])], [.s (ByteArray.mk #[115, 101, 101, 100]), .s (ByteArray.mk #[97, 115, 32, 100, 105, 118, 32, 112, 108, 97, 99, 101, 32, 116, 121, 112, 101, 32, 110])], [.s (ByteArray.mk #[100, 114, 97, 102, 116]), .s (ByteArray.mk #[97, 115, 32, 100, 105, 118, 32, 112, 108, 97, 99, 101, 32, 116, 121, 112, 101, 32, 109, 101, 32, 116, 101, 32, 114, 117, 110, 115])], [.s (ByteArray.mk #[102, 111, 117, 110, 100]), .s (ByteArray.mk #[119, 104, 111])], [.s (ByteArray.mk #[101, 110, 114, 111, 108]), .s (ByteArray.mk #[119, 104, 111, 32, 97, 115, 32, 116, 111, 32, 114, 111, 108, 101, 115])], [.s (ByteArray.mk #[101, 120, 112, 101, 108]), .s (ByteArray.mk #[119, 104, 111, 32, 97, 115, 32, 116, 111])], [.s (ByteArray.mk #[112, 97, 121]), .s (ByteArray.mk #[119, 104, 111, 32, 97, 115, 32, 116, 111, 32, 110])], [.s (ByteArray.mk #[103, 105, 118, 101]), .s (ByteArray.mk #[119, 104, 111, 32, 97, 115, 32, 100, 105, 118, 32, 116, 111, 32, 105, 110, 116, 111, 32, 112, 108, 97, 99, 101, 32, 116, 121, 112, 101, 32, 110])], [.s (ByteArray.mk #[105, 110, 115, 116, 97, 108, 108]), .s (ByteArray.mk #[119, 104, 111, 32, 97, 115, 32, 100, 105, 118, 32, 98, 97, 121, 32, 105, 100, 32, 116, 121, 112, 101, 32, 114, 117, 110, 115, 32, 99, 111, 112, 105, 101, 115])], [.s (ByteArray.mk #[112, 97, 117, 115, 101]), .s (ByteArray.mk #[119, 104, 111, 32, 105, 100])], [.s (ByteArray.mk #[114, 101, 115, 117, 109, 101]), .s (ByteArray.mk #[119, 104, 111, 32, 105, 100])], [.s (ByteArray.mk #[99, 97, 110, 99, 101, 108]), .s (ByteArray.mk #[119, 104, 111, 32, 105, 100])], [.s (ByteArray.mk #[100, 101, 108, 105, 118, 101, 114]), .s (ByteArray.mk #[119, 104, 111, 32, 105, 100])], [.s (ByteArray.mk #[105, 115, 115, 117, 101]), .s (ByteArray.mk #[119, 104, 111, 32, 97, 115, 32, 100, 105, 118, 32, 116, 121, 112, 101, 32, 116, 111, 32, 112, 108, 97, 99, 101, 32, 100, 101, 115, 116, 32, 110, 32, 112, 108, 101, 100, 103, 101, 32, 108, 97, 115, 116, 115, 32, 100, 97, 121, 115])], [.s (ByteArray.mk #[97, 99, 99, 101, 112, 116]), .s (ByteArray.mk #[119, 104, 111, 32, 97, 115, 32, 100, 105, 118, 32, 105, 100])], [.s (ByteArray.mk #[104, 97, 110, 100]), .s (ByteArray.mk #[119, 104, 111, 32, 105, 100])], [.s (ByteArray.mk #[102, 97, 105, 108]), .s (ByteArray.mk #[119, 104, 111, 32, 105, 100])], [.s (ByteArray.mk #[114, 101, 106, 101, 99, 116]), .s (ByteArray.mk #[119, 104, 111, 32, 105, 100])], [.s (ByteArray.mk #[114, 101, 118, 111, 107, 101]), .s (ByteArray.mk #[119, 104, 111, 32, 105, 100])], [.s (ByteArray.mk #[116, 105, 99, 107]), .s (ByteArray.mk #[110])], [.s (ByteArray.mk #[109, 111, 110, 101, 121]), .s (ByteArray.mk #[119, 104, 111, 32, 97, 115])], [.s (ByteArray.mk #[115, 116, 97, 99, 107]), .s (ByteArray.mk #[119, 104, 111, 32, 97, 115, 32, 100, 105, 118, 32, 112, 108, 97, 99, 101, 32, 116, 121, 112, 101])], [.s (ByteArray.mk #[106, 111, 98]), .s (ByteArray.mk #[119, 104, 111, 32, 105, 100])], [.s (ByteArray.mk #[100, 101, 97, 108]), .s (ByteArray.mk #[119, 104, 111, 32, 105, 100])], [.s (ByteArray.mk #[99, 108, 111, 99, 107]), .s (ByteArray.mk #[119, 104, 111])]] : List (List U)) (IntKind.wrap .i64 (kind - 1)) (fun r1 => dS (ug r1 0) (fun s1 => dS (ug r1 1) (fun s2 => PRun Tryd.prog 30 [] [.u (.s s2)] (post [.L 1] [] (fun l1 => (Q (.l 1 l1) [] : Prop)))))))) : PRun Tryd.prog 12 [] [.i kind] Q :=
 funS2 mixTd2 Tryd.func12 (by kernel_rfl) (H := ⟨[], [], [33], [], [], false, 64, KN.no, false, SP.no⟩) (n := 3) (by kernel_rfl) hh
theorem S13 {c_0 : Int} {c_1 : Int} {c_2 : Int} {c_3 : Int} {c_4 : Int} {c_5 : Int} {c_6 : Int} {c_7 : Int} {c_8 : Int} {c_9 : Int} {c_10 : Int} {c_11 : Int} {c_12 : Int} {c_13 : Int} {c_14 : Int} {c_15 : Int} {c_16 : Int} {c_17 : Int} {c_18 : Int} {c_19 : Int} {c_20 : List (List U)} {c_21 : List (List U)} {name : ByteArray} {Q : V → Mem → Prop} (hh : bif ByteArray.toList name == ByteArray.toList (ByteArray.mk #[119, 104, 111]) then Q (.t [.i c_1, .u (.b true)]) [] else (bif ByteArray.toList name == ByteArray.toList (ByteArray.mk #[97, 115]) then Q (.t [.i c_2, .u (.b true)]) [] else (bif ByteArray.toList name == ByteArray.toList (ByteArray.mk #[100, 105, 118]) then Q (.t [.i c_3, .u (.b true)]) [] else (bif ByteArray.toList name == ByteArray.toList (ByteArray.mk #[105, 100]) then Q (.t [.i c_4, .u (.b true)]) [] else (bif ByteArray.toList name == ByteArray.toList (ByteArray.mk #[116, 111]) then Q (.t [.i c_5, .u (.b true)]) [] else (bif ByteArray.toList name == ByteArray.toList (ByteArray.mk #[105, 110, 116, 111]) then Q (.t [.i c_6, .u (.b true)]) [] else (bif ByteArray.toList name == ByteArray.toList (ByteArray.mk #[112, 108, 97, 99, 101]) then Q (.t [.i c_7, .u (.b true)]) [] else (bif ByteArray.toList name == ByteArray.toList (ByteArray.mk #[100, 101, 115, 116]) then Q (.t [.i c_8, .u (.b true)]) [] else (bif ByteArray.toList name == ByteArray.toList (ByteArray.mk #[116, 121, 112, 101]) then Q (.t [.i c_9, .u (.b true)]) [] else (bif ByteArray.toList name == ByteArray.toList (ByteArray.mk #[110]) then Q (.t [.i c_10, .u (.b true)]) [] else (bif ByteArray.toList name == ByteArray.toList (ByteArray.mk #[112, 108, 101, 100, 103, 101]) then Q (.t [.i c_11, .u (.b true)]) [] else (bif ByteArray.toList name == ByteArray.toList (ByteArray.mk #[108, 97, 115, 116, 115]) then Q (.t [.i c_12, .u (.b true)]) [] else (bif ByteArray.toList name == ByteArray.toList (ByteArray.mk #[100, 97, 121, 115]) then Q (.t [.i c_13, .u (.b true)]) [] else (bif ByteArray.toList name == ByteArray.toList (ByteArray.mk #[114, 117, 110, 115]) then Q (.t [.i c_14, .u (.b true)]) [] else (bif ByteArray.toList name == ByteArray.toList (ByteArray.mk #[99, 111, 112, 105, 101, 115]) then Q (.t [.i c_15, .u (.b true)]) [] else (bif ByteArray.toList name == ByteArray.toList (ByteArray.mk #[114, 111, 108, 101, 115]) then Q (.t [.i c_16, .u (.b true)]) [] else (bif ByteArray.toList name == ByteArray.toList (ByteArray.mk #[109, 101]) then Q (.t [.i c_17, .u (.b true)]) [] else (bif ByteArray.toList name == ByteArray.toList (ByteArray.mk #[116, 101]) then Q (.t [.i c_18, .u (.b true)]) [] else (bif ByteArray.toList name == ByteArray.toList (ByteArray.mk #[98, 97, 121]) then Q (.t [.i c_19, .u (.b true)]) [] else Q (.t [.i 0, .u (.b false)]) []))))))))))))))))))) : PRun Tryd.prog 13 [] [.a [.i c_0, .i c_1, .i c_2, .i c_3, .i c_4, .i c_5, .i c_6, .i c_7, .i c_8, .i c_9, .i c_10, .i c_11, .i c_12, .i c_13, .i c_14, .i c_15, .i c_16, .i c_17, .i c_18, .i c_19, .l 2 c_20, .l 2 c_21], .u (.s name)] Q :=
 funS2 mixTd2 Tryd.func13 (by kernel_rfl) (H := ⟨[], [], [31], [], [], false, 64, KN.no, false, SP.no⟩) (n := 3) (by kernel_rfl) hh
theorem S42 {c_0 : Int} {c_1 : Int} {c_2 : Int} {c_3 : Int} {c_4 : Int} {c_5 : Int} {c_6 : Int} {c_7 : Int} {c_8 : Int} {c_9 : Int} {c_10 : Int} {c_11 : Int} {c_12 : Int} {c_13 : Int} {c_14 : Int} {c_15 : Int} {c_16 : Int} {c_17 : Int} {c_18 : Int} {c_19 : Int} {c_20 : List (List U)} {c_21 : List (List U)} {name : ByteArray} {n : Int} {Q : V → Mem → Prop} (hh : bif ByteArray.toList name == ByteArray.toList (ByteArray.mk #[119, 104, 111]) then PRun Tryd.prog 54 [] [.l 2 c_20] (post [.L 2] [] (fun l1 => (PRun Tryd.prog 54 [] [.l 2 c_21] (post [.L 2] [] (fun l2 => (Q (.t [.a [.i c_0, .i n, .i c_2, .i c_3, .i c_4, .i c_5, .i c_6, .i c_7, .i c_8, .i c_9, .i c_10, .i c_11, .i c_12, .i c_13, .i c_14, .i c_15, .i c_16, .i c_17, .i c_18, .i c_19, .l 2 l1, .l 2 l2], .u (.b true)]) [] : Prop))) : Prop))) else (bif ByteArray.toList name == ByteArray.toList (ByteArray.mk #[97, 115]) then PRun Tryd.prog 54 [] [.l 2 c_20] (post [.L 2] [] (fun l3 => (PRun Tryd.prog 54 [] [.l 2 c_21] (post [.L 2] [] (fun l4 => (Q (.t [.a [.i c_0, .i c_1, .i n, .i c_3, .i c_4, .i c_5, .i c_6, .i c_7, .i c_8, .i c_9, .i c_10, .i c_11, .i c_12, .i c_13, .i c_14, .i c_15, .i c_16, .i c_17, .i c_18, .i c_19, .l 2 l3, .l 2 l4], .u (.b true)]) [] : Prop))) : Prop))) else (bif ByteArray.toList name == ByteArray.toList (ByteArray.mk #[100, 105, 118]) then PRun Tryd.prog 54 [] [.l 2 c_20] (post [.L 2] [] (fun l5 => (PRun Tryd.prog 54 [] [.l 2 c_21] (post [.L 2] [] (fun l6 => (Q (.t [.a [.i c_0, .i c_1, .i c_2, .i n, .i c_4, .i c_5, .i c_6, .i c_7, .i c_8, .i c_9, .i c_10, .i c_11, .i c_12, .i c_13, .i c_14, .i c_15, .i c_16, .i c_17, .i c_18, .i c_19, .l 2 l5, .l 2 l6], .u (.b true)]) [] : Prop))) : Prop))) else (bif ByteArray.toList name == ByteArray.toList (ByteArray.mk #[105, 100]) then PRun Tryd.prog 54 [] [.l 2 c_20] (post [.L 2] [] (fun l7 => (PRun Tryd.prog 54 [] [.l 2 c_21] (post [.L 2] [] (fun l8 => (Q (.t [.a [.i c_0, .i c_1, .i c_2, .i c_3, .i n, .i c_5, .i c_6, .i c_7, .i c_8, .i c_9, .i c_10, .i c_11, .i c_12, .i c_13, .i c_14, .i c_15, .i c_16, .i c_17, .i c_18, .i c_19, .l 2 l7, .l 2 l8], .u (.b true)]) [] : Prop))) : Prop))) else (bif ByteArray.toList name == ByteArray.toList (ByteArray.mk #[116, 111]) then PRun Tryd.prog 54 [] [.l 2 c_20] (post [.L 2] [] (fun l9 => (PRun Tryd.prog 54 [] [.l 2 c_21] (post [.L 2] [] (fun l10 => (Q (.t [.a [.i c_0, .i c_1, .i c_2, .i c_3, .i c_4, .i n, .i c_6, .i c_7, .i c_8, .i c_9, .i c_10, .i c_11, .i c_12, .i c_13, .i c_14, .i c_15, .i c_16, .i c_17, .i c_18, .i c_19, .l 2 l9, .l 2 l10], .u (.b true)]) [] : Prop))) : Prop))) else (bif ByteArray.toList name == ByteArray.toList (ByteArray.mk #[105, 110, 116, 111]) then PRun Tryd.prog 54 [] [.l 2 c_20] (post [.L 2] [] (fun l11 => (PRun Tryd.prog 54 [] [.l 2 c_21] (post [.L 2] [] (fun l12 => (Q (.t [.a [.i c_0, .i c_1, .i c_2, .i c_3, .i c_4, .i c_5, .i n, .i c_7, .i c_8, .i c_9, .i c_10, .i c_11, .i c_12, .i c_13, .i c_14, .i c_15, .i c_16, .i c_17, .i c_18, .i c_19, .l 2 l11, .l 2 l12], .u (.b true)]) [] : Prop))) : Prop))) else (bif ByteArray.toList name == ByteArray.toList (ByteArray.mk #[112, 108, 97, 99, 101]) then PRun Tryd.prog 54 [] [.l 2 c_20] (post [.L 2] [] (fun l13 => (PRun Tryd.prog 54 [] [.l 2 c_21] (post [.L 2] [] (fun l14 => (Q (.t [.a [.i c_0, .i c_1, .i c_2, .i c_3, .i c_4, .i c_5, .i c_6, .i n, .i c_8, .i c_9, .i c_10, .i c_11, .i c_12, .i c_13, .i c_14, .i c_15, .i c_16, .i c_17, .i c_18, .i c_19, .l 2 l13, .l 2 l14], .u (.b true)]) [] : Prop))) : Prop))) else (bif ByteArray.toList name == ByteArray.toList (ByteArray.mk #[100, 101, 115, 116]) then PRun Tryd.prog 54 [] [.l 2 c_20] (post [.L 2] [] (fun l15 => (PRun Tryd.prog 54 [] [.l 2 c_21] (post [.L 2] [] (fun l16 => (Q (.t [.a [.i c_0, .i c_1, .i c_2, .i c_3, .i c_4, .i c_5, .i c_6, .i c_7, .i n, .i c_9, .i c_10, .i c_11, .i c_12, .i c_13, .i c_14, .i c_15, .i c_16, .i c_17, .i c_18, .i c_19, .l 2 l15, .l 2 l16], .u (.b true)]) [] : Prop))) : Prop))) else (bif ByteArray.toList name == ByteArray.toList (ByteArray.mk #[116, 121, 112, 101]) then PRun Tryd.prog 54 [] [.l 2 c_20] (post [.L 2] [] (fun l17 => (PRun Tryd.prog 54 [] [.l 2 c_21] (post [.L 2] [] (fun l18 => (Q (.t [.a [.i c_0, .i c_1, .i c_2, .i c_3, .i c_4, .i c_5, .i c_6, .i c_7, .i c_8, .i n, .i c_10, .i c_11, .i c_12, .i c_13, .i c_14, .i c_15, .i c_16, .i c_17, .i c_18, .i c_19, .l 2 l17, .l 2 l18], .u (.b true)]) [] : Prop))) : Prop))) else (bif ByteArray.toList name == ByteArray.toList (ByteArray.mk #[110]) then PRun Tryd.prog 54 [] [.l 2 c_20] (post [.L 2] [] (fun l19 => (PRun Tryd.prog 54 [] [.l 2 c_21] (post [.L 2] [] (fun l20 => (Q (.t [.a [.i c_0, .i c_1, .i c_2, .i c_3, .i c_4, .i c_5, .i c_6, .i c_7, .i c_8, .i c_9, .i n, .i c_11, .i c_12, .i c_13, .i c_14, .i c_15, .i c_16, .i c_17, .i c_18, .i c_19, .l 2 l19, .l 2 l20], .u (.b true)]) [] : Prop))) : Prop))) else (bif ByteArray.toList name == ByteArray.toList (ByteArray.mk #[112, 108, 101, 100, 103, 101]) then PRun Tryd.prog 54 [] [.l 2 c_20] (post [.L 2] [] (fun l21 => (PRun Tryd.prog 54 [] [.l 2 c_21] (post [.L 2] [] (fun l22 => (Q (.t [.a [.i c_0, .i c_1, .i c_2, .i c_3, .i c_4, .i c_5, .i c_6, .i c_7, .i c_8, .i c_9, .i c_10, .i n, .i c_12, .i c_13, .i c_14, .i c_15, .i c_16, .i c_17, .i c_18, .i c_19, .l 2 l21, .l 2 l22], .u (.b true)]) [] : Prop))) : Prop))) else (bif ByteArray.toList name == ByteArray.toList (ByteArray.mk #[108, 97, 115, 116, 115]) then PRun Tryd.prog 54 [] [.l 2 c_20] (post [.L 2] [] (fun l23 => (PRun Tryd.prog 54 [] [.l 2 c_21] (post [.L 2] [] (fun l24 => (Q (.t [.a [.i c_0, .i c_1, .i c_2, .i c_3, .i c_4, .i c_5, .i c_6, .i c_7, .i c_8, .i c_9, .i c_10, .i c_11, .i n, .i c_13, .i c_14, .i c_15, .i c_16, .i c_17, .i c_18, .i c_19, .l 2 l23, .l 2 l24], .u (.b true)]) [] : Prop))) : Prop))) else (bif ByteArray.toList name == ByteArray.toList (ByteArray.mk #[100, 97, 121, 115]) then PRun Tryd.prog 54 [] [.l 2 c_20] (post [.L 2] [] (fun l25 => (PRun Tryd.prog 54 [] [.l 2 c_21] (post [.L 2] [] (fun l26 => (Q (.t [.a [.i c_0, .i c_1, .i c_2, .i c_3, .i c_4, .i c_5, .i c_6, .i c_7, .i c_8, .i c_9, .i c_10, .i c_11, .i c_12, .i n, .i c_14, .i c_15, .i c_16, .i c_17, .i c_18, .i c_19, .l 2 l25, .l 2 l26], .u (.b true)]) [] : Prop))) : Prop))) else (bif ByteArray.toList name == ByteArray.toList (ByteArray.mk #[114, 117, 110, 115]) then PRun Tryd.prog 54 [] [.l 2 c_20] (post [.L 2] [] (fun l27 => (PRun Tryd.prog 54 [] [.l 2 c_21] (post [.L 2] [] (fun l28 => (Q (.t [.a [.i c_0, .i c_1, .i c_2, .i c_3, .i c_4, .i c_5, .i c_6, .i c_7, .i c_8, .i c_9, .i c_10, .i c_11, .i c_12, .i c_13, .i n, .i c_15, .i c_16, .i c_17, .i c_18, .i c_19, .l 2 l27, .l 2 l28], .u (.b true)]) [] : Prop))) : Prop))) else (bif ByteArray.toList name == ByteArray.toList (ByteArray.mk #[99, 111, 112, 105, 101, 115]) then PRun Tryd.prog 54 [] [.l 2 c_20] (post [.L 2] [] (fun l29 => (PRun Tryd.prog 54 [] [.l 2 c_21] (post [.L 2] [] (fun l30 => (Q (.t [.a [.i c_0, .i c_1, .i c_2, .i c_3, .i c_4, .i c_5, .i c_6, .i c_7, .i c_8, .i c_9, .i c_10, .i c_11, .i c_12, .i c_13, .i c_14, .i n, .i c_16, .i c_17, .i c_18, .i c_19, .l 2 l29, .l 2 l30], .u (.b true)]) [] : Prop))) : Prop))) else (bif ByteArray.toList name == ByteArray.toList (ByteArray.mk #[114, 111, 108, 101, 115]) then PRun Tryd.prog 54 [] [.l 2 c_20] (post [.L 2] [] (fun l31 => (PRun Tryd.prog 54 [] [.l 2 c_21] (post [.L 2] [] (fun l32 => (Q (.t [.a [.i c_0, .i c_1, .i c_2, .i c_3, .i c_4, .i c_5, .i c_6, .i c_7, .i c_8, .i c_9, .i c_10, .i c_11, .i c_12, .i c_13, .i c_14, .i c_15, .i n, .i c_17, .i c_18, .i c_19, .l 2 l31, .l 2 l32], .u (.b true)]) [] : Prop))) : Prop))) else (bif ByteArray.toList name == ByteArray.toList (ByteArray.mk #[109, 101]) then PRun Tryd.prog 54 [] [.l 2 c_20] (post [.L 2] [] (fun l33 => (PRun Tryd.prog 54 [] [.l 2 c_21] (post [.L 2] [] (fun l34 => (Q (.t [.a [.i c_0, .i c_1, .i c_2, .i c_3, .i c_4, .i c_5, .i c_6, .i c_7, .i c_8, .i c_9, .i c_10, .i c_11, .i c_12, .i c_13, .i c_14, .i c_15, .i c_16, .i n, .i c_18, .i c_19, .l 2 l33, .l 2 l34], .u (.b true)]) [] : Prop))) : Prop))) else (bif ByteArray.toList name == ByteArray.toList (ByteArray.mk #[116, 101]) then PRun Tryd.prog 54 [] [.l 2 c_20] (post [.L 2] [] (fun l35 => (PRun Tryd.prog 54 [] [.l 2 c_21] (post [.L 2] [] (fun l36 => (Q (.t [.a [.i c_0, .i c_1, .i c_2, .i c_3, .i c_4, .i c_5, .i c_6, .i c_7, .i c_8, .i c_9, .i c_10, .i c_11, .i c_12, .i c_13, .i c_14, .i c_15, .i c_16, .i c_17, .i n, .i c_19, .l 2 l35, .l 2 l36], .u (.b true)]) [] : Prop))) : Prop))) else (bif ByteArray.toList name == ByteArray.toList (ByteArray.mk #[98, 97, 121]) then PRun Tryd.prog 54 [] [.l 2 c_20] (post [.L 2] [] (fun l37 => (PRun Tryd.prog 54 [] [.l 2 c_21] (post [.L 2] [] (fun l38 => (Q (.t [.a [.i c_0, .i c_1, .i c_2, .i c_3, .i c_4, .i c_5, .i c_6, .i c_7, .i c_8, .i c_9, .i c_10, .i c_11, .i c_12, .i c_13, .i c_14, .i c_15, .i c_16, .i c_17, .i c_18, .i n, .l 2 l37, .l 2 l38], .u (.b true)]) [] : Prop))) : Prop))) else Q (.t [.a [.i 0, .i 0, .i 0, .i 0, .i 0, .i 0, .i 0, .i 0, .i 0, .i 0, .i 0, .i 0, .i 0, .i 0, .i 0, .i 0, .i 0, .i 0, .i 0, .i 0, .l 2 [], .l 2 []], .u (.b false)]) []))))))))))))))))))) : PRun Tryd.prog 42 [] [.a [.i c_0, .i c_1, .i c_2, .i c_3, .i c_4, .i c_5, .i c_6, .i c_7, .i c_8, .i c_9, .i c_10, .i c_11, .i c_12, .i c_13, .i c_14, .i c_15, .i c_16, .i c_17, .i c_18, .i c_19, .l 2 c_20, .l 2 c_21], .u (.s name), .i n] Q :=
 funS2 mixTd2 Tryd.func42 (by kernel_rfl) (H := ⟨[], [], [31], [], [], false, 64, KN.no, false, SP.no⟩) (n := 3) (by kernel_rfl) hh
theorem S38 {Q : V → Mem → Prop} (hh : Q (.l 1 [[.s (ByteArray.mk #[109, 105, 110, 116])], [.s (ByteArray.mk #[115, 101, 101, 100])], [.s (ByteArray.mk #[100, 114, 97, 102, 116])], [.s (ByteArray.mk #[102, 111, 117, 110, 100])], [.s (ByteArray.mk #[101, 110, 114, 111, 108])], [.s (ByteArray.mk #[101, 120, 112, 101, 108])], [.s (ByteArray.mk #[112, 97, 121])], [.s (ByteArray.mk #[103, 105, 118, 101])], [.s (ByteArray.mk #[105, 110, 115, 116, 97, 108, 108])], [.s (ByteArray.mk #[112, 97, 117, 115, 101])], [.s (ByteArray.mk #[114, 101, 115, 117, 109, 101])], [.s (ByteArray.mk #[99, 97, 110, 99, 101, 108])], [.s (ByteArray.mk #[100, 101, 108, 105, 118, 101, 114])], [.s (ByteArray.mk #[105, 115, 115, 117, 101])], [.s (ByteArray.mk #[97, 99, 99, 101, 112, 116])], [.s (ByteArray.mk #[104, 97, 110, 100])], [.s (ByteArray.mk #[102, 97, 105, 108])], [.s (ByteArray.mk #[114, 101, 106, 101, 99, 116])], [.s (ByteArray.mk #[114, 101, 118, 111, 107, 101])], [.s (ByteArray.mk #[116, 105, 99, 107])], [.s (ByteArray.mk #[109, 111, 110, 101, 121])], [.s (ByteArray.mk #[115, 116, 97, 99, 107])], [.s (ByteArray.mk #[106, 111, 98])], [.s (ByteArray.mk #[100, 101, 97, 108])], [.s (ByteArray.mk #[99, 108, 111, 99, 107])]]) []) : PRun Tryd.prog 38 [] [] Q :=
 funS2 mixTd2 Tryd.func38 (by kernel_rfl) (H := ⟨[], [], [], [], [], false, 64, KN.no, false, SP.no⟩) (n := 2) (by kernel_rfl) hh
theorem S18 {kind : Int} {Q : V → Mem → Prop} (hh : ∀ k1 : Prop, ((Q (.l 1 []) []) → k1) → (bif kind == 1 then Q (.l 1 [[.s (ByteArray.mk #[97, 115])], [.s (ByteArray.mk #[110])]]) [] else (bif kind == 2 then Q (.l 1 [[.s (ByteArray.mk #[97, 115])], [.s (ByteArray.mk #[100, 105, 118])], [.s (ByteArray.mk #[112, 108, 97, 99, 101])], [.s (ByteArray.mk #[116, 121, 112, 101])], [.s (ByteArray.mk #[110])]]) [] else (bif kind == 3 then Q (.l 1 [[.s (ByteArray.mk #[97, 115])], [.s (ByteArray.mk #[100, 105, 118])], [.s (ByteArray.mk #[112, 108, 97, 99, 101])], [.s (ByteArray.mk #[116, 121, 112, 101])], [.s (ByteArray.mk #[109, 101])], [.s (ByteArray.mk #[116, 101])], [.s (ByteArray.mk #[114, 117, 110, 115])]]) [] else ∀ k2 : Bool → Prop, (∀ b1 : Bool, ((bif b1 then Q (.l 1 [[.s (ByteArray.mk #[119, 104, 111])]]) [] else (bif kind == 5 then Q (.l 1 [[.s (ByteArray.mk #[119, 104, 111])], [.s (ByteArray.mk #[97, 115])], [.s (ByteArray.mk #[116, 111])], [.s (ByteArray.mk #[114, 111, 108, 101, 115])]]) [] else (bif kind == 6 then Q (.l 1 [[.s (ByteArray.mk #[119, 104, 111])], [.s (ByteArray.mk #[97, 115])], [.s (ByteArray.mk #[116, 111])]]) [] else (bif kind == 7 then Q (.l 1 [[.s (ByteArray.mk #[119, 104, 111])], [.s (ByteArray.mk #[97, 115])], [.s (ByteArray.mk #[116, 111])], [.s (ByteArray.mk #[110])]]) [] else (bif kind == 8 then Q (.l 1 [[.s (ByteArray.mk #[119, 104, 111])], [.s (ByteArray.mk #[97, 115])], [.s (ByteArray.mk #[100, 105, 118])], [.s (ByteArray.mk #[116, 111])], [.s (ByteArray.mk #[105, 110, 116, 111])], [.s (ByteArray.mk #[112, 108, 97, 99, 101])], [.s (ByteArray.mk #[116, 121, 112, 101])], [.s (ByteArray.mk #[110])]]) [] else (bif kind == 9 then Q (.l 1 [[.s (ByteArray.mk #[119, 104, 111])], [.s (ByteArray.mk #[97, 115])], [.s (ByteArray.mk #[100, 105, 118])], [.s (ByteArray.mk #[98, 97, 121])], [.s (ByteArray.mk #[105, 100])], [.s (ByteArray.mk #[116, 121, 112, 101])], [.s (ByteArray.mk #[114, 117, 110, 115])], [.s (ByteArray.mk #[99, 111, 112, 105, 101, 115])]]) [] else ∀ k3 : Bool → Prop, (∀ b2 : Bool, ((bif b2 then Q (.l 1 [[.s (ByteArray.mk #[119, 104, 111])], [.s (ByteArray.mk #[105, 100])]]) [] else (bif kind == 14 then Q (.l 1 [[.s (ByteArray.mk #[119, 104, 111])], [.s (ByteArray.mk #[97, 115])], [.s (ByteArray.mk #[100, 105, 118])], [.s (ByteArray.mk #[116, 121, 112, 101])], [.s (ByteArray.mk #[116, 111])], [.s (ByteArray.mk #[112, 108, 97, 99, 101])], [.s (ByteArray.mk #[100, 101, 115, 116])], [.s (ByteArray.mk #[110])], [.s (ByteArray.mk #[112, 108, 101, 100, 103, 101])], [.s (ByteArray.mk #[108, 97, 115, 116, 115])], [.s (ByteArray.mk #[100, 97, 121, 115])]]) [] else (bif kind == 15 then Q (.l 1 [[.s (ByteArray.mk #[119, 104, 111])], [.s (ByteArray.mk #[97, 115])], [.s (ByteArray.mk #[100, 105, 118])], [.s (ByteArray.mk #[105, 100])]]) [] else (bif kind == 20 then Q (.l 1 [[.s (ByteArray.mk #[110])]]) [] else (bif kind == 21 then Q (.l 1 [[.s (ByteArray.mk #[119, 104, 111])], [.s (ByteArray.mk #[97, 115])]]) [] else (bif kind == 22 then Q (.l 1 [[.s (ByteArray.mk #[119, 104, 111])], [.s (ByteArray.mk #[97, 115])], [.s (ByteArray.mk #[100, 105, 118])], [.s (ByteArray.mk #[112, 108, 97, 99, 101])], [.s (ByteArray.mk #[116, 121, 112, 101])]]) [] else k1))))))) → k3 b2) → (bif kind == 10 then k3 (kind == 10) else (bif kind == 11 then k3 (kind == 11) else (bif kind == 12 then k3 (kind == 12) else (bif kind == 13 then k3 (kind == 13) else (bif kind == 16 then k3 (kind == 16) else (bif kind == 17 then k3 (kind == 17) else (bif kind == 18 then k3 (kind == 18) else (bif kind == 19 then k3 (kind == 19) else (bif kind == 23 then k3 (kind == 23) else k3 (kind == 24))))))))))))))))) → k2 b1) → (bif kind == 4 then k2 (kind == 4) else k2 (kind == 25)))))) : PRun Tryd.prog 18 [] [.i kind] Q :=
 funS2 mixTd2 Tryd.func18 (by kernel_rfl) (H := ⟨[], [((18, 10, 0), ⟨[(13, .B)], []⟩), ((18, 31, 0), ⟨[(32, .B)], []⟩), ((18, 42, 0), ⟨[], []⟩)], [], [], [], false, 64, KN.no, false, SP.no⟩) (n := 2) (by kernel_rfl) hh
theorem S36 {Q : V → Mem → Prop} (hh : Q (.l 1 [[.s (ByteArray.mk #[119, 104, 111])], [.s (ByteArray.mk #[97, 115])], [.s (ByteArray.mk #[100, 105, 118])], [.s (ByteArray.mk #[105, 100])], [.s (ByteArray.mk #[116, 111])], [.s (ByteArray.mk #[105, 110, 116, 111])], [.s (ByteArray.mk #[112, 108, 97, 99, 101])], [.s (ByteArray.mk #[100, 101, 115, 116])], [.s (ByteArray.mk #[116, 121, 112, 101])], [.s (ByteArray.mk #[110])], [.s (ByteArray.mk #[112, 108, 101, 100, 103, 101])], [.s (ByteArray.mk #[108, 97, 115, 116, 115])], [.s (ByteArray.mk #[100, 97, 121, 115])], [.s (ByteArray.mk #[114, 117, 110, 115])], [.s (ByteArray.mk #[99, 111, 112, 105, 101, 115])], [.s (ByteArray.mk #[114, 111, 108, 101, 115])], [.s (ByteArray.mk #[109, 101])], [.s (ByteArray.mk #[116, 101])], [.s (ByteArray.mk #[98, 97, 121])]]) []) : PRun Tryd.prog 36 [] [] Q :=
 funS2 mixTd2 Tryd.func36 (by kernel_rfl) (H := ⟨[], [], [], [], [], false, 64, KN.no, false, SP.no⟩) (n := 2) (by kernel_rfl) hh
theorem S26 {c_0 : Int} {c_1 : Int} {c_2 : Int} {c_3 : Int} {c_4 : Int} {c_5 : Int} {c_6 : Int} {c_7 : Int} {c_8 : Int} {c_9 : Int} {c_10 : Int} {c_11 : Int} {c_12 : Int} {c_13 : Int} {c_14 : Int} {c_15 : Int} {c_16 : Int} {c_17 : Int} {c_18 : Int} {c_19 : Int} {c_20 : List (List U)} {c_21 : List (List U)} {Q : V → Mem → Prop} (hh : Q (.l 1 [[.n c_1], [.n c_2], [.n c_3], [.n c_4], [.n c_5], [.n c_6], [.n c_7], [.n c_8], [.n c_9], [.n c_10], [.n c_11], [.n c_12], [.n c_13], [.n c_14], [.n c_15], [.n c_16], [.n c_17], [.n c_18], [.n c_19]]) []) : PRun Tryd.prog 26 [] [.a [.i c_0, .i c_1, .i c_2, .i c_3, .i c_4, .i c_5, .i c_6, .i c_7, .i c_8, .i c_9, .i c_10, .i c_11, .i c_12, .i c_13, .i c_14, .i c_15, .i c_16, .i c_17, .i c_18, .i c_19, .l 2 c_20, .l 2 c_21]] Q :=
 funS2 mixTd2 Tryd.func26 (by kernel_rfl) (H := ⟨[], [], [], [], [], false, 64, KN.no, false, SP.no⟩) (n := 2) (by kernel_rfl) hh
theorem S39 {field : ByteArray} {Q : V → Mem → Prop} (hh : PRun Tryd.prog 36 [] [] (post [.L 1] [] (fun l1 => ∃ (I1 : Int → Prop) (f1 : Int → Nat), I1 0 ∧ (∀ x1 : Int, I1 x1 → (bif decide (x1 < (List.length l1 : Int)) then elL l1 x1 (fun r1 => dS (ug r1 0) (fun s1 => (bif ByteArray.toList s1 == ByteArray.toList field then Q (.i x1) [] else I1 (IntKind.wrap .i64 (x1 + 1)) ∧ f1 (IntKind.wrap .i64 (x1 + 1)) < f1 x1))) else Q (.i (-1)) []))))) : PRun Tryd.prog 39 [] [.u (.s field)] Q :=
 funS2 mixTd2 Tryd.func39 (by kernel_rfl) (H := ⟨[((39, 3, 0), ⟨[(4, .I)], []⟩)], [], [], [], [], false, 64, KN.no, false, SP.no⟩) (n := 2) (by kernel_rfl) hh
theorem S8 {a_0 : Int} {a_1 : Int} {a_2 : Int} {a_3 : Int} {a_4 : Int} {a_5 : Int} {a_6 : Int} {a_7 : Int} {a_8 : Int} {a_9 : Int} {a_10 : Int} {a_11 : Int} {a_12 : Int} {a_13 : Int} {a_14 : Int} {a_15 : Int} {a_16 : Int} {a_17 : Int} {a_18 : Int} {a_19 : Int} {a_20 : List (List U)} {a_21 : List (List U)} {b_0 : Int} {b_1 : Int} {b_2 : Int} {b_3 : Int} {b_4 : Int} {b_5 : Int} {b_6 : Int} {b_7 : Int} {b_8 : Int} {b_9 : Int} {b_10 : Int} {b_11 : Int} {b_12 : Int} {b_13 : Int} {b_14 : Int} {b_15 : Int} {b_16 : Int} {b_17 : Int} {b_18 : Int} {b_19 : Int} {b_20 : List (List U)} {b_21 : List (List U)} {Q : V → Mem → Prop} (hh : PRun Tryd.prog 26 [] [.a [.i a_0, .i a_1, .i a_2, .i a_3, .i a_4, .i a_5, .i a_6, .i a_7, .i a_8, .i a_9, .i a_10, .i a_11, .i a_12, .i a_13, .i a_14, .i a_15, .i a_16, .i a_17, .i a_18, .i a_19, .l 2 a_20, .l 2 a_21]] (post [.L 1] [] (fun l1 => (PRun Tryd.prog 26 [] [.a [.i b_0, .i b_1, .i b_2, .i b_3, .i b_4, .i b_5, .i b_6, .i b_7, .i b_8, .i b_9, .i b_10, .i b_11, .i b_12, .i b_13, .i b_14, .i b_15, .i b_16, .i b_17, .i b_18, .i b_19, .l 2 b_20, .l 2 b_21]] (post [.L 1] [] (fun l2 => ∃ (I1 : Int → Prop) (f1 : Int → Nat), I1 0 ∧ (∀ x1 : Int, I1 x1 → (bif decide (x1 < (List.length l1 : Int)) then (bif decide (x1 < (List.length l2 : Int)) then elL l1 x1 (fun r1 => dI .i64 (ug r1 0) (fun x2 => elL l2 x1 (fun r2 => dI .i64 (ug r2 0) (fun x3 => (bif x2 != x3 then Q (.u (.b false)) [] else I1 (IntKind.wrap .i64 (x1 + 1)) ∧ f1 (IntKind.wrap .i64 (x1 + 1)) < f1 x1))))) else (bif a_0 == b_0 then PRun Tryd.prog 27 [] [.l 2 a_20, .l 2 b_20] (post [.B] [] (fun b1 => (bif b1 then PRun Tryd.prog 27 [] [.l 2 a_21, .l 2 b_21] (post [.B] [] (fun b2 => (Q (.u (.b b2)) [] : Prop))) else Q (.u (.b false)) [] : Prop))) else Q (.u (.b false)) [])) else (bif a_0 == b_0 then PRun Tryd.prog 27 [] [.l 2 a_20, .l 2 b_20] (post [.B] [] (fun b3 => (bif b3 then PRun Tryd.prog 27 [] [.l 2 a_21, .l 2 b_21] (post [.B] [] (fun b4 => (Q (.u (.b b4)) [] : Prop))) else Q (.u (.b false)) [] : Prop))) else Q (.u (.b false)) []))))) : Prop)))) : PRun Tryd.prog 8 [] [.a [.i a_0, .i a_1, .i a_2, .i a_3, .i a_4, .i a_5, .i a_6, .i a_7, .i a_8, .i a_9, .i a_10, .i a_11, .i a_12, .i a_13, .i a_14, .i a_15, .i a_16, .i a_17, .i a_18, .i a_19, .l 2 a_20, .l 2 a_21], .a [.i b_0, .i b_1, .i b_2, .i b_3, .i b_4, .i b_5, .i b_6, .i b_7, .i b_8, .i b_9, .i b_10, .i b_11, .i b_12, .i b_13, .i b_14, .i b_15, .i b_16, .i b_17, .i b_18, .i b_19, .l 2 b_20, .l 2 b_21]] Q :=
 funS2 mixTd2 Tryd.func8 (by kernel_rfl) (H := ⟨[((8, 3, 2), ⟨[(7, .I)], []⟩)], [], [], [], [], false, 64, KN.no, false, SP.no⟩) (n := 2) (by kernel_rfl) hh
theorem S17 {kind : Int} {Q : V → Mem → Prop} (hh : bif decide (kind < 1) then Q (.u (.s (ByteArray.mk #[]))) [] else (bif decide (kind > 25) then Q (.u (.s (ByteArray.mk #[]))) [] else PRun Tryd.prog 38 [] [] (post [.L 1] [] (fun l1 => (elL l1 (IntKind.wrap .i64 (kind - 1)) (fun r1 => dS (ug r1 0) (fun s1 => Q (.u (.s s1)) [])) : Prop))))) : PRun Tryd.prog 17 [] [.i kind] Q :=
 funS2 mixTd2 Tryd.func17 (by kernel_rfl) (H := ⟨[], [], [], [], [], false, 64, KN.no, false, SP.no⟩) (n := 2) (by kernel_rfl) hh
theorem S19 {c_0 : Int} {c_1 : Int} {c_2 : Int} {c_3 : Int} {c_4 : Int} {c_5 : Int} {c_6 : Int} {c_7 : Int} {c_8 : Int} {c_9 : Int} {c_10 : Int} {c_11 : Int} {c_12 : Int} {c_13 : Int} {c_14 : Int} {c_15 : Int} {c_16 : Int} {c_17 : Int} {c_18 : Int} {c_19 : Int} {c_20 : List (List U)} {c_21 : List (List U)} {field : ByteArray} {Q : V → Mem → Prop} (hh : PRun Tryd.prog 39 [] [.u (.s field)] (post [.I] [] (fun x1 => (bif decide (x1 < 0) then Q (.t [.i 0, .u (.b false)]) [] else PRun Tryd.prog 26 [] [.a [.i c_0, .i c_1, .i c_2, .i c_3, .i c_4, .i c_5, .i c_6, .i c_7, .i c_8, .i c_9, .i c_10, .i c_11, .i c_12, .i c_13, .i c_14, .i c_15, .i c_16, .i c_17, .i c_18, .i c_19, .l 2 c_20, .l 2 c_21]] (post [.L 1] [] (fun l1 => (elL l1 x1 (fun r1 => dI .i64 (ug r1 0) (fun x2 => Q (.t [.i x2, .u (.b true)]) [])) : Prop))) : Prop)))) : PRun Tryd.prog 19 [] [.a [.i c_0, .i c_1, .i c_2, .i c_3, .i c_4, .i c_5, .i c_6, .i c_7, .i c_8, .i c_9, .i c_10, .i c_11, .i c_12, .i c_13, .i c_14, .i c_15, .i c_16, .i c_17, .i c_18, .i c_19, .l 2 c_20, .l 2 c_21], .u (.s field)] Q :=
 funS2 mixTd2 Tryd.func19 (by kernel_rfl) (H := ⟨[], [], [], [], [], false, 64, KN.no, false, SP.no⟩) (n := 2) (by kernel_rfl) hh
theorem S37 {l : List (List U)} {s : ByteArray} {Q : V → Mem → Prop} (hh : ∃ (I1 : Int → Prop) (f1 : Int → Nat), I1 0 ∧ (∀ x1 : Int, I1 x1 → (bif decide (x1 < (List.length l : Int)) then elL l x1 (fun r1 => dS (ug r1 0) (fun s1 => (bif ByteArray.toList s1 == ByteArray.toList s then Q (.u (.b true)) [] else I1 (IntKind.wrap .i64 (x1 + 1)) ∧ f1 (IntKind.wrap .i64 (x1 + 1)) < f1 x1))) else Q (.u (.b false)) []))) : PRun Tryd.prog 37 [] [.l 1 l, .u (.s s)] Q :=
 funS2 mixTd2 Tryd.func37 (by kernel_rfl) (H := ⟨[((37, 2, 0), ⟨[(5, .I)], []⟩)], [], [], [], [], false, 64, KN.no, false, SP.no⟩) (n := 2) (by kernel_rfl) hh
end Go.Proofs.YtaogfopaalancaaDoor
/- What the functions do, written by program (psv.py) and held against the program by the kernel. -/
set_option linter.unusedVariables false
set_option maxRecDepth 100000
namespace Go.Proofs.YtaogfopaalancaaDoor
open Go Go.Proofs
theorem mixTd4 : Tryd.prog.follows .mixedOrders = true := by kernel_rfl
theorem S16 {c_0 : Int} {c_1 : Int} {c_2 : Int} {c_3 : Int} {c_4 : Int} {c_5 : Int} {c_6 : Int} {c_7 : Int} {c_8 : Int} {c_9 : Int} {c_10 : Int} {c_11 : Int} {c_12 : Int} {c_13 : Int} {c_14 : Int} {c_15 : Int} {c_16 : Int} {c_17 : Int} {c_18 : Int} {c_19 : Int} {c_20 : List (List U)} {c_21 : List (List U)} {Q : V → Mem → Prop} (hh : PRun Tryd.prog 18 [] [.i c_0] (post [.L 1] [] (fun l1 => ∀ k1 : Prop, ((PRun Tryd.prog 26 [] [.a [.i c_0, .i c_1, .i c_2, .i c_3, .i c_4, .i c_5, .i c_6, .i c_7, .i c_8, .i c_9, .i c_10, .i c_11, .i c_12, .i c_13, .i c_14, .i c_15, .i c_16, .i c_17, .i c_18, .i c_19, .l 2 c_20, .l 2 c_21]] (post [.L 1] [] (fun l2 => (PRun Tryd.prog 36 [] [] (post [.L 1] [] (fun l3 => ∃ (I1 : Int → Prop) (f1 : Int → Nat), I1 0 ∧ (∀ x1 : Int, I1 x1 → (bif decide (x1 < (List.length l2 : Int)) then (bif decide (x1 < (List.length l3 : Int)) then elL l2 x1 (fun r1 => dI .i64 (ug r1 0) (fun x2 => (bif x2 != 0 then elL l3 x1 (fun r2 => dS (ug r2 0) (fun s1 => PRun Tryd.prog 37 [] [.l 1 l1, .u (.s s1)] (post [.B] [] (fun b1 => (bif !b1 then Q (.i 1) [] else I1 (IntKind.wrap .i64 (x1 + 1)) ∧ f1 (IntKind.wrap .i64 (x1 + 1)) < f1 x1 : Prop))))) else I1 (IntKind.wrap .i64 (x1 + 1)) ∧ f1 (IntKind.wrap .i64 (x1 + 1)) < f1 x1))) else Q (.i 0) []) else Q (.i 0) [])))) : Prop)))) → k1) → (bif (List.length l1 : Int) == 0 then Q (.i 1) [] else (bif decide ((List.length c_20 : Int) > 8) then Q (.i 1) [] else (bif decide ((List.length c_21 : Int) > 8) then Q (.i 1) [] else (bif c_0 != 14 then (bif decide (IntKind.wrap .i64 ((List.length c_20 : Int) + (List.length c_21 : Int)) > 0) then Q (.i 1) [] else k1) else k1))))))) : PRun Tryd.prog 16 [] [.a [.i c_0, .i c_1, .i c_2, .i c_3, .i c_4, .i c_5, .i c_6, .i c_7, .i c_8, .i c_9, .i c_10, .i c_11, .i c_12, .i c_13, .i c_14, .i c_15, .i c_16, .i c_17, .i c_18, .i c_19, .l 2 c_20, .l 2 c_21]] Q :=
 funS2 mixTd4 Tryd.func16 (by kernel_rfl) (H := ⟨[((16, 6, 1), ⟨[(6, .I)], []⟩)], [((16, 4, 1), ⟨[], []⟩)], [], [], [], false, 64, KN.no, false, SP.no⟩) (n := 2) (by kernel_rfl) hh
theorem S6 {c_0 : Int} {c_1 : Int} {c_2 : Int} {c_3 : Int} {c_4 : Int} {c_5 : Int} {c_6 : Int} {c_7 : Int} {c_8 : Int} {c_9 : Int} {c_10 : Int} {c_11 : Int} {c_12 : Int} {c_13 : Int} {c_14 : Int} {c_15 : Int} {c_16 : Int} {c_17 : Int} {c_18 : Int} {c_19 : Int} {c_20 : List (List U)} {c_21 : List (List U)} {Q : V → Mem → Prop} (hh : PRun Tryd.prog 16 [] [.a [.i c_0, .i c_1, .i c_2, .i c_3, .i c_4, .i c_5, .i c_6, .i c_7, .i c_8, .i c_9, .i c_10, .i c_11, .i c_12, .i c_13, .i c_14, .i c_15, .i c_16, .i c_17, .i c_18, .i c_19, .l 2 c_20, .l 2 c_21]] (post [.I] [] (fun x1 => (bif x1 != 0 then Q (.t [.u (.s (ByteArray.mk #[])), .i x1]) [] else PRun Tryd.prog 17 [] [.i c_0] (post [.S] [] (fun s1 => (PRun Tryd.prog 18 [] [.i c_0] (post [.L 1] [] (fun l1 => ∃ (I1 : ByteArray → Int → Prop) (f1 : ByteArray → Int → Nat), I1 s1 0 ∧ (∀ s2 : ByteArray, ∀ x2 : Int, I1 s2 x2 → (bif decide (x2 < (List.length l1 : Int)) then elL l1 x2 (fun r1 => dS (ug r1 0) (fun s3 => PRun Tryd.prog 19 [] [.a [.i c_0, .i c_1, .i c_2, .i c_3, .i c_4, .i c_5, .i c_6, .i c_7, .i c_8, .i c_9, .i c_10, .i c_11, .i c_12, .i c_13, .i c_14, .i c_15, .i c_16, .i c_17, .i c_18, .i c_19, .l 2 c_20, .l 2 c_21], .u (.s s3)] (post [.I, .B] [] (fun x3 b1 => (bif x3 != 0 then ByteArray.size s2 + ByteArray.size (ByteArray.mk #[32]) < 9223372036854775808 ∧ (elL l1 x2 (fun r2 => dS (ug r2 0) (fun s4 => ByteArray.size (s2 ++ ByteArray.mk #[32]) + ByteArray.size s4 < 9223372036854775808 ∧ (ByteArray.size (s2 ++ ByteArray.mk #[32] ++ s4) + ByteArray.size (ByteArray.mk #[61]) < 9223372036854775808 ∧ (PRun Tryd.prog 20 [] [.i x3] (post [.S] [] (fun s5 => (ByteArray.size (s2 ++ ByteArray.mk #[32] ++ s4 ++ ByteArray.mk #[61]) + ByteArray.size s5 < 9223372036854775808 ∧ (I1 (s2 ++ ByteArray.mk #[32] ++ s4 ++ ByteArray.mk #[61] ++ s5) (IntKind.wrap .i64 (x2 + 1)) ∧ f1 (s2 ++ ByteArray.mk #[32] ++ s4 ++ ByteArray.mk #[61] ++ s5) (IntKind.wrap .i64 (x2 + 1)) < f1 s2 x2) : Prop)))))))) else I1 s2 (IntKind.wrap .i64 (x2 + 1)) ∧ f1 s2 (IntKind.wrap .i64 (x2 + 1)) < f1 s2 x2 : Prop))))) else ∀ k1 : ByteArray → Prop, (∀ s6 : ByteArray, ((bif decide ((List.length c_21 : Int) > 0) then ByteArray.size s6 + ByteArray.size (ByteArray.mk #[32, 119, 97, 110, 116, 115, 61]) < 9223372036854775808 ∧ (PRun Tryd.prog 21 [] [.l 2 c_21] (post [.S] [] (fun s7 => (ByteArray.size (s6 ++ ByteArray.mk #[32, 119, 97, 110, 116, 115, 61]) + ByteArray.size s7 < 9223372036854775808 ∧ (Q (.t [.u (.s (s6 ++ ByteArray.mk #[32, 119, 97, 110, 116, 115, 61] ++ s7)), .i 0]) []) : Prop)))) else Q (.t [.u (.s s6), .i 0]) [])) → k1 s6) → (bif decide ((List.length c_20 : Int) > 0) then ByteArray.size s2 + ByteArray.size (ByteArray.mk #[32, 103, 105, 118, 101, 115, 61]) < 9223372036854775808 ∧ (PRun Tryd.prog 21 [] [.l 2 c_20] (post [.S] [] (fun s8 => (ByteArray.size (s2 ++ ByteArray.mk #[32, 103, 105, 118, 101, 115, 61]) + ByteArray.size s8 < 9223372036854775808 ∧ (k1 (s2 ++ ByteArray.mk #[32, 103, 105, 118, 101, 115, 61] ++ s8)) : Prop)))) else k1 s2))))) : Prop))) : Prop)))) : PRun Tryd.prog 6 [] [.a [.i c_0, .i c_1, .i c_2, .i c_3, .i c_4, .i c_5, .i c_6, .i c_7, .i c_8, .i c_9, .i c_10, .i c_11, .i c_12, .i c_13, .i c_14, .i c_15, .i c_16, .i c_17, .i c_18, .i c_19, .l 2 c_20, .l 2 c_21]] Q :=
 funS2 mixTd4 Tryd.func6 (by kernel_rfl) (H := ⟨[((6, 7, 1), ⟨[(5, .S), (7, .I)], []⟩)], [((6, 14, 1), ⟨[(5, .S)], []⟩)], [], [], [], false, 64, KN.no, false, SP.no⟩) (n := 2) (by kernel_rfl) hh
end Go.Proofs.YtaogfopaalancaaDoor
/- What the functions do, written by program (psv.py) and held against the program by the kernel. -/
set_option linter.unusedVariables false
set_option maxRecDepth 100000
namespace Go.Proofs.YtaogfopaalancaaDoor
open Go Go.Proofs
theorem mixTd5 : Tryd.prog.follows .mixedOrders = true := by kernel_rfl
theorem S32 {s : List (List U)} {v : ByteArray} {Q : V → Mem → Prop} (hh : ∃ (I1 : Int → Prop) (f1 : Int → Nat), I1 0 ∧ (∀ x1 : Int, I1 x1 → (bif decide (x1 < (List.length s : Int)) then elL s x1 (fun r1 => dS (ug r1 0) (fun s1 => (bif ByteArray.toList v == ByteArray.toList s1 then Q (.u (.b (decide (x1 ≥ 0)))) [] else I1 (IntKind.wrap .i64 (x1 + 1)) ∧ f1 (IntKind.wrap .i64 (x1 + 1)) < f1 x1))) else Q (.u (.b false)) []))) : PRun Tryd.prog 32 [] [.l 1 s, .u (.s v)] Q :=
 funS2 mixTd5 Tryd.func32 (by kernel_rfl) (H := ⟨[((48, 2, 0), ⟨[(8, .I)], []⟩)], [], [48], [], [], false, 64, KN.no, false, SP.no⟩) (n := 3) (by kernel_rfl) hh
theorem S10 {c_0 : Int} {c_1 : Int} {c_2 : Int} {c_3 : Int} {c_4 : Int} {c_5 : Int} {c_6 : Int} {c_7 : Int} {c_8 : Int} {c_9 : Int} {c_10 : Int} {c_11 : Int} {c_12 : Int} {c_13 : Int} {c_14 : Int} {c_15 : Int} {c_16 : Int} {c_17 : Int} {c_18 : Int} {c_19 : Int} {c_20 : List (List U)} {c_21 : List (List U)} {Q : V → Mem → Prop} (hh : PRun Tryd.prog 12 [] [.i c_0] (post [.L 1] [] (fun l1 => ∀ k1 : Bool → Prop, (∀ b1 : Bool, (∀ k2 : Bool → Prop, (∀ b2 : Bool, ((bif (List.length l1 : Int) == 0 then Q (.i 1) [] else (bif !b2 then Q (.i 1) [] else PRun Tryd.prog 30 [] [.u (.s (ByteArray.mk #[119, 104, 111, 32, 97, 115, 32, 100, 105, 118, 32, 105, 100, 32, 116, 111, 32, 105, 110, 116, 111, 32, 112, 108, 97, 99, 101, 32, 100, 101, 115, 116, 32, 116, 121, 112, 101, 32, 110, 32, 112, 108, 101, 100, 103, 101, 32, 108, 97, 115, 116, 115, 32, 100, 97, 121, 115, 32, 114, 117, 110, 115, 32, 99, 111, 112, 105, 101, 115, 32, 114, 111, 108, 101, 115, 32, 109, 101, 32, 116, 101, 32, 98, 97, 121]))] (post [.L 1] [] (fun l2 => ∃ (I1 : Int → Prop) (f1 : Int → Nat), I1 0 ∧ (∀ x1 : Int, I1 x1 → (bif decide (x1 < (List.length l2 : Int)) then elL l2 x1 (fun r1 => dS (ug r1 0) (fun s1 => (bif ByteArray.toList s1 == ByteArray.toList (ByteArray.mk #[119, 104, 111]) then (bif c_1 != 0 then PRun Tryd.prog 32 [] [.l 1 l1, .u (.s s1)] (post [.B] [] (fun b3 => (bif !b3 then Q (.i 1) [] else I1 (IntKind.wrap .i64 (x1 + 1)) ∧ f1 (IntKind.wrap .i64 (x1 + 1)) < f1 x1 : Prop))) else I1 (IntKind.wrap .i64 (x1 + 1)) ∧ f1 (IntKind.wrap .i64 (x1 + 1)) < f1 x1) else (bif ByteArray.toList s1 == ByteArray.toList (ByteArray.mk #[97, 115]) then (bif c_2 != 0 then PRun Tryd.prog 32 [] [.l 1 l1, .u (.s s1)] (post [.B] [] (fun b4 => (bif !b4 then Q (.i 1) [] else I1 (IntKind.wrap .i64 (x1 + 1)) ∧ f1 (IntKind.wrap .i64 (x1 + 1)) < f1 x1 : Prop))) else I1 (IntKind.wrap .i64 (x1 + 1)) ∧ f1 (IntKind.wrap .i64 (x1 + 1)) < f1 x1) else (bif ByteArray.toList s1 == ByteArray.toList (ByteArray.mk #[100, 105, 118]) then (bif c_3 != 0 then PRun Tryd.prog 32 [] [.l 1 l1, .u (.s s1)] (post [.B] [] (fun b5 => (bif !b5 then Q (.i 1) [] else I1 (IntKind.wrap .i64 (x1 + 1)) ∧ f1 (IntKind.wrap .i64 (x1 + 1)) < f1 x1 : Prop))) else I1 (IntKind.wrap .i64 (x1 + 1)) ∧ f1 (IntKind.wrap .i64 (x1 + 1)) < f1 x1) else (bif ByteArray.toList s1 == ByteArray.toList (ByteArray.mk #[105, 100]) then (bif c_4 != 0 then PRun Tryd.prog 32 [] [.l 1 l1, .u (.s s1)] (post [.B] [] (fun b6 => (bif !b6 then Q (.i 1) [] else I1 (IntKind.wrap .i64 (x1 + 1)) ∧ f1 (IntKind.wrap .i64 (x1 + 1)) < f1 x1 : Prop))) else I1 (IntKind.wrap .i64 (x1 + 1)) ∧ f1 (IntKind.wrap .i64 (x1 + 1)) < f1 x1) else (bif ByteArray.toList s1 == ByteArray.toList (ByteArray.mk #[116, 111]) then (bif c_5 != 0 then PRun Tryd.prog 32 [] [.l 1 l1, .u (.s s1)] (post [.B] [] (fun b7 => (bif !b7 then Q (.i 1) [] else I1 (IntKind.wrap .i64 (x1 + 1)) ∧ f1 (IntKind.wrap .i64 (x1 + 1)) < f1 x1 : Prop))) else I1 (IntKind.wrap .i64 (x1 + 1)) ∧ f1 (IntKind.wrap .i64 (x1 + 1)) < f1 x1) else (bif ByteArray.toList s1 == ByteArray.toList (ByteArray.mk #[105, 110, 116, 111]) then (bif c_6 != 0 then PRun Tryd.prog 32 [] [.l 1 l1, .u (.s s1)] (post [.B] [] (fun b8 => (bif !b8 then Q (.i 1) [] else I1 (IntKind.wrap .i64 (x1 + 1)) ∧ f1 (IntKind.wrap .i64 (x1 + 1)) < f1 x1 : Prop))) else I1 (IntKind.wrap .i64 (x1 + 1)) ∧ f1 (IntKind.wrap .i64 (x1 + 1)) < f1 x1) else (bif ByteArray.toList s1 == ByteArray.toList (ByteArray.mk #[112, 108, 97, 99, 101]) then (bif c_7 != 0 then PRun Tryd.prog 32 [] [.l 1 l1, .u (.s s1)] (post [.B] [] (fun b9 => (bif !b9 then Q (.i 1) [] else I1 (IntKind.wrap .i64 (x1 + 1)) ∧ f1 (IntKind.wrap .i64 (x1 + 1)) < f1 x1 : Prop))) else I1 (IntKind.wrap .i64 (x1 + 1)) ∧ f1 (IntKind.wrap .i64 (x1 + 1)) < f1 x1) else (bif ByteArray.toList s1 == ByteArray.toList (ByteArray.mk #[100, 101, 115, 116]) then (bif c_8 != 0 then PRun Tryd.prog 32 [] [.l 1 l1, .u (.s s1)] (post [.B] [] (fun b10 => (bif !b10 then Q (.i 1) [] else I1 (IntKind.wrap .i64 (x1 + 1)) ∧ f1 (IntKind.wrap .i64 (x1 + 1)) < f1 x1 : Prop))) else I1 (IntKind.wrap .i64 (x1 + 1)) ∧ f1 (IntKind.wrap .i64 (x1 + 1)) < f1 x1) else (bif ByteArray.toList s1 == ByteArray.toList (ByteArray.mk #[116, 121, 112, 101]) then (bif c_9 != 0 then PRun Tryd.prog 32 [] [.l 1 l1, .u (.s s1)] (post [.B] [] (fun b11 => (bif !b11 then Q (.i 1) [] else I1 (IntKind.wrap .i64 (x1 + 1)) ∧ f1 (IntKind.wrap .i64 (x1 + 1)) < f1 x1 : Prop))) else I1 (IntKind.wrap .i64 (x1 + 1)) ∧ f1 (IntKind.wrap .i64 (x1 + 1)) < f1 x1) else (bif ByteArray.toList s1 == ByteArray.toList (ByteArray.mk #[110]) then (bif c_10 != 0 then PRun Tryd.prog 32 [] [.l 1 l1, .u (.s s1)] (post [.B] [] (fun b12 => (bif !b12 then Q (.i 1) [] else I1 (IntKind.wrap .i64 (x1 + 1)) ∧ f1 (IntKind.wrap .i64 (x1 + 1)) < f1 x1 : Prop))) else I1 (IntKind.wrap .i64 (x1 + 1)) ∧ f1 (IntKind.wrap .i64 (x1 + 1)) < f1 x1) else (bif ByteArray.toList s1 == ByteArray.toList (ByteArray.mk #[112, 108, 101, 100, 103, 101]) then (bif c_11 != 0 then PRun Tryd.prog 32 [] [.l 1 l1, .u (.s s1)] (post [.B] [] (fun b13 => (bif !b13 then Q (.i 1) [] else I1 (IntKind.wrap .i64 (x1 + 1)) ∧ f1 (IntKind.wrap .i64 (x1 + 1)) < f1 x1 : Prop))) else I1 (IntKind.wrap .i64 (x1 + 1)) ∧ f1 (IntKind.wrap .i64 (x1 + 1)) < f1 x1) else (bif ByteArray.toList s1 == ByteArray.toList (ByteArray.mk #[108, 97, 115, 116, 115]) then (bif c_12 != 0 then PRun Tryd.prog 32 [] [.l 1 l1, .u (.s s1)] (post [.B] [] (fun b14 => (bif !b14 then Q (.i 1) [] else I1 (IntKind.wrap .i64 (x1 + 1)) ∧ f1 (IntKind.wrap .i64 (x1 + 1)) < f1 x1 : Prop))) else I1 (IntKind.wrap .i64 (x1 + 1)) ∧ f1 (IntKind.wrap .i64 (x1 + 1)) < f1 x1) else (bif ByteArray.toList s1 == ByteArray.toList (ByteArray.mk #[100, 97, 121, 115]) then (bif c_13 != 0 then PRun Tryd.prog 32 [] [.l 1 l1, .u (.s s1)] (post [.B] [] (fun b15 => (bif !b15 then Q (.i 1) [] else I1 (IntKind.wrap .i64 (x1 + 1)) ∧ f1 (IntKind.wrap .i64 (x1 + 1)) < f1 x1 : Prop))) else I1 (IntKind.wrap .i64 (x1 + 1)) ∧ f1 (IntKind.wrap .i64 (x1 + 1)) < f1 x1) else (bif ByteArray.toList s1 == ByteArray.toList (ByteArray.mk #[114, 117, 110, 115]) then (bif c_14 != 0 then PRun Tryd.prog 32 [] [.l 1 l1, .u (.s s1)] (post [.B] [] (fun b16 => (bif !b16 then Q (.i 1) [] else I1 (IntKind.wrap .i64 (x1 + 1)) ∧ f1 (IntKind.wrap .i64 (x1 + 1)) < f1 x1 : Prop))) else I1 (IntKind.wrap .i64 (x1 + 1)) ∧ f1 (IntKind.wrap .i64 (x1 + 1)) < f1 x1) else (bif ByteArray.toList s1 == ByteArray.toList (ByteArray.mk #[99, 111, 112, 105, 101, 115]) then (bif c_15 != 0 then PRun Tryd.prog 32 [] [.l 1 l1, .u (.s s1)] (post [.B] [] (fun b17 => (bif !b17 then Q (.i 1) [] else I1 (IntKind.wrap .i64 (x1 + 1)) ∧ f1 (IntKind.wrap .i64 (x1 + 1)) < f1 x1 : Prop))) else I1 (IntKind.wrap .i64 (x1 + 1)) ∧ f1 (IntKind.wrap .i64 (x1 + 1)) < f1 x1) else (bif ByteArray.toList s1 == ByteArray.toList (ByteArray.mk #[114, 111, 108, 101, 115]) then (bif c_16 != 0 then PRun Tryd.prog 32 [] [.l 1 l1, .u (.s s1)] (post [.B] [] (fun b18 => (bif !b18 then Q (.i 1) [] else I1 (IntKind.wrap .i64 (x1 + 1)) ∧ f1 (IntKind.wrap .i64 (x1 + 1)) < f1 x1 : Prop))) else I1 (IntKind.wrap .i64 (x1 + 1)) ∧ f1 (IntKind.wrap .i64 (x1 + 1)) < f1 x1) else (bif ByteArray.toList s1 == ByteArray.toList (ByteArray.mk #[109, 101]) then (bif c_17 != 0 then PRun Tryd.prog 32 [] [.l 1 l1, .u (.s s1)] (post [.B] [] (fun b19 => (bif !b19 then Q (.i 1) [] else I1 (IntKind.wrap .i64 (x1 + 1)) ∧ f1 (IntKind.wrap .i64 (x1 + 1)) < f1 x1 : Prop))) else I1 (IntKind.wrap .i64 (x1 + 1)) ∧ f1 (IntKind.wrap .i64 (x1 + 1)) < f1 x1) else (bif ByteArray.toList s1 == ByteArray.toList (ByteArray.mk #[116, 101]) then (bif c_18 != 0 then PRun Tryd.prog 32 [] [.l 1 l1, .u (.s s1)] (post [.B] [] (fun b20 => (bif !b20 then Q (.i 1) [] else I1 (IntKind.wrap .i64 (x1 + 1)) ∧ f1 (IntKind.wrap .i64 (x1 + 1)) < f1 x1 : Prop))) else I1 (IntKind.wrap .i64 (x1 + 1)) ∧ f1 (IntKind.wrap .i64 (x1 + 1)) < f1 x1) else (bif ByteArray.toList s1 == ByteArray.toList (ByteArray.mk #[98, 97, 121]) then (bif c_19 != 0 then PRun Tryd.prog 32 [] [.l 1 l1, .u (.s s1)] (post [.B] [] (fun b21 => (bif !b21 then Q (.i 1) [] else I1 (IntKind.wrap .i64 (x1 + 1)) ∧ f1 (IntKind.wrap .i64 (x1 + 1)) < f1 x1 : Prop))) else I1 (IntKind.wrap .i64 (x1 + 1)) ∧ f1 (IntKind.wrap .i64 (x1 + 1)) < f1 x1) else False))))))))))))))))))))) else Q (.i 0) []))))))) → k2 b2) → (bif c_0 != 14 then k2 (IntKind.wrap .i64 ((List.length c_20 : Int) + (List.length c_21 : Int)) == 0) else k2 b1)) → k1 b1) → (bif decide ((List.length c_20 : Int) ≤ 8) then k1 (decide ((List.length c_21 : Int) ≤ 8)) else k1 false)))) : PRun Tryd.prog 10 [] [.a [.i c_0, .i c_1, .i c_2, .i c_3, .i c_4, .i c_5, .i c_6, .i c_7, .i c_8, .i c_9, .i c_10, .i c_11, .i c_12, .i c_13, .i c_14, .i c_15, .i c_16, .i c_17, .i c_18, .i c_19, .l 2 c_20, .l 2 c_21]] Q :=
 funS2 mixTd5 Tryd.func10 (by kernel_rfl) (H := ⟨[((10, 8, 1), ⟨[(40, .I)], []⟩)], [((10, 3, 1), ⟨[(4, .B)], []⟩), ((10, 5, 1), ⟨[(4, .B)], []⟩)], [31], [], [], false, 64, KN.no, false, SP.no⟩) (n := 3) (by kernel_rfl) hh
theorem S25 {c_0 : Int} {c_1 : Int} {c_2 : Int} {c_3 : Int} {c_4 : Int} {c_5 : Int} {c_6 : Int} {c_7 : Int} {c_8 : Int} {c_9 : Int} {c_10 : Int} {c_11 : Int} {c_12 : Int} {c_13 : Int} {c_14 : Int} {c_15 : Int} {c_16 : Int} {c_17 : Int} {c_18 : Int} {c_19 : Int} {c_20 : List (List U)} {c_21 : List (List U)} {name : ByteArray} {text : ByteArray} {Q : V → Mem → Prop} (hh : bif c_0 == 14 then (bif ByteArray.toList name == ByteArray.toList (ByteArray.mk #[103, 105, 118, 101, 115]) then PRun Tryd.prog 41 [] [.u (.s text)] (post [.L 2, .B] [] (fun l1 b1 => (bif ByteArray.toList name == ByteArray.toList (ByteArray.mk #[103, 105, 118, 101, 115]) then Q (.t [.a [.i c_0, .i c_1, .i c_2, .i c_3, .i c_4, .i c_5, .i c_6, .i c_7, .i c_8, .i c_9, .i c_10, .i c_11, .i c_12, .i c_13, .i c_14, .i c_15, .i c_16, .i c_17, .i c_18, .i c_19, .l 2 l1, .l 2 c_21], .u (.b b1)]) [] else Q (.t [.a [.i c_0, .i c_1, .i c_2, .i c_3, .i c_4, .i c_5, .i c_6, .i c_7, .i c_8, .i c_9, .i c_10, .i c_11, .i c_12, .i c_13, .i c_14, .i c_15, .i c_16, .i c_17, .i c_18, .i c_19, .l 2 c_20, .l 2 l1], .u (.b b1)]) [] : Prop))) else (bif ByteArray.toList name == ByteArray.toList (ByteArray.mk #[119, 97, 110, 116, 115]) then PRun Tryd.prog 41 [] [.u (.s text)] (post [.L 2, .B] [] (fun l2 b2 => (bif ByteArray.toList name == ByteArray.toList (ByteArray.mk #[103, 105, 118, 101, 115]) then Q (.t [.a [.i c_0, .i c_1, .i c_2, .i c_3, .i c_4, .i c_5, .i c_6, .i c_7, .i c_8, .i c_9, .i c_10, .i c_11, .i c_12, .i c_13, .i c_14, .i c_15, .i c_16, .i c_17, .i c_18, .i c_19, .l 2 l2, .l 2 c_21], .u (.b b2)]) [] else Q (.t [.a [.i c_0, .i c_1, .i c_2, .i c_3, .i c_4, .i c_5, .i c_6, .i c_7, .i c_8, .i c_9, .i c_10, .i c_11, .i c_12, .i c_13, .i c_14, .i c_15, .i c_16, .i c_17, .i c_18, .i c_19, .l 2 c_20, .l 2 l2], .u (.b b2)]) [] : Prop))) else PRun Tryd.prog 9 [] [.u (.s text)] (post [.I, .B] [] (fun x1 b3 => (bif !b3 then Q (.t [.a [.i c_0, .i c_1, .i c_2, .i c_3, .i c_4, .i c_5, .i c_6, .i c_7, .i c_8, .i c_9, .i c_10, .i c_11, .i c_12, .i c_13, .i c_14, .i c_15, .i c_16, .i c_17, .i c_18, .i c_19, .l 2 c_20, .l 2 c_21], .u (.b false)]) [] else PRun Tryd.prog 12 [] [.i c_0] (post [.L 1] [] (fun l3 => (PRun Tryd.prog 32 [] [.l 1 l3, .u (.s name)] (post [.B] [] (fun b4 => (bif !b4 then Q (.t [.a [.i c_0, .i c_1, .i c_2, .i c_3, .i c_4, .i c_5, .i c_6, .i c_7, .i c_8, .i c_9, .i c_10, .i c_11, .i c_12, .i c_13, .i c_14, .i c_15, .i c_16, .i c_17, .i c_18, .i c_19, .l 2 c_20, .l 2 c_21], .u (.b false)]) [] else PRun Tryd.prog 42 [] [.a [.i c_0, .i c_1, .i c_2, .i c_3, .i c_4, .i c_5, .i c_6, .i c_7, .i c_8, .i c_9, .i c_10, .i c_11, .i c_12, .i c_13, .i c_14, .i c_15, .i c_16, .i c_17, .i c_18, .i c_19, .l 2 c_20, .l 2 c_21], .u (.s name), .i x1] (post [.agg [.i .i64, .i .i64, .i .i64, .i .i64, .i .i64, .i .i64, .i .i64, .i .i64, .i .i64, .i .i64, .i .i64, .i .i64, .i .i64, .i .i64, .i .i64, .i .i64, .i .i64, .i .i64, .i .i64, .i .i64, .l 2, .l 2], .B] [] (fun x2 x3 x4 x5 x6 x7 x8 x9 x10 x11 x12 x13 x14 x15 x16 x17 x18 x19 x20 x21 l4 l5 b5 => (Q (.t [.a [.i x2, .i x3, .i x4, .i x5, .i x6, .i x7, .i x8, .i x9, .i x10, .i x11, .i x12, .i x13, .i x14, .i x15, .i x16, .i x17, .i x18, .i x19, .i x20, .i x21, .l 2 l4, .l 2 l5], .u (.b b5)]) [] : Prop))) : Prop))) : Prop))) : Prop))))) else PRun Tryd.prog 9 [] [.u (.s text)] (post [.I, .B] [] (fun x22 b6 => (bif !b6 then Q (.t [.a [.i c_0, .i c_1, .i c_2, .i c_3, .i c_4, .i c_5, .i c_6, .i c_7, .i c_8, .i c_9, .i c_10, .i c_11, .i c_12, .i c_13, .i c_14, .i c_15, .i c_16, .i c_17, .i c_18, .i c_19, .l 2 c_20, .l 2 c_21], .u (.b false)]) [] else PRun Tryd.prog 12 [] [.i c_0] (post [.L 1] [] (fun l6 => (PRun Tryd.prog 32 [] [.l 1 l6, .u (.s name)] (post [.B] [] (fun b7 => (bif !b7 then Q (.t [.a [.i c_0, .i c_1, .i c_2, .i c_3, .i c_4, .i c_5, .i c_6, .i c_7, .i c_8, .i c_9, .i c_10, .i c_11, .i c_12, .i c_13, .i c_14, .i c_15, .i c_16, .i c_17, .i c_18, .i c_19, .l 2 c_20, .l 2 c_21], .u (.b false)]) [] else PRun Tryd.prog 42 [] [.a [.i c_0, .i c_1, .i c_2, .i c_3, .i c_4, .i c_5, .i c_6, .i c_7, .i c_8, .i c_9, .i c_10, .i c_11, .i c_12, .i c_13, .i c_14, .i c_15, .i c_16, .i c_17, .i c_18, .i c_19, .l 2 c_20, .l 2 c_21], .u (.s name), .i x22] (post [.agg [.i .i64, .i .i64, .i .i64, .i .i64, .i .i64, .i .i64, .i .i64, .i .i64, .i .i64, .i .i64, .i .i64, .i .i64, .i .i64, .i .i64, .i .i64, .i .i64, .i .i64, .i .i64, .i .i64, .i .i64, .l 2, .l 2], .B] [] (fun x23 x24 x25 x26 x27 x28 x29 x30 x31 x32 x33 x34 x35 x36 x37 x38 x39 x40 x41 x42 l7 l8 b8 => (Q (.t [.a [.i x23, .i x24, .i x25, .i x26, .i x27, .i x28, .i x29, .i x30, .i x31, .i x32, .i x33, .i x34, .i x35, .i x36, .i x37, .i x38, .i x39, .i x40, .i x41, .i x42, .l 2 l7, .l 2 l8], .u (.b b8)]) [] : Prop))) : Prop))) : Prop))) : Prop)))) : PRun Tryd.prog 25 [] [.a [.i c_0, .i c_1, .i c_2, .i c_3, .i c_4, .i c_5, .i c_6, .i c_7, .i c_8, .i c_9, .i c_10, .i c_11, .i c_12, .i c_13, .i c_14, .i c_15, .i c_16, .i c_17, .i c_18, .i c_19, .l 2 c_20, .l 2 c_21], .u (.s name), .u (.s text)] Q :=
 funS2 mixTd5 Tryd.func25 (by kernel_rfl) (H := ⟨[], [], [], [], [], false, 64, KN.no, false, SP.no⟩) (n := 2) (by kernel_rfl) hh
end Go.Proofs.YtaogfopaalancaaDoor
/- What the functions do, written by program (psv.py) and held against the program by the kernel. -/
set_option linter.unusedVariables false
set_option maxRecDepth 100000
namespace Go.Proofs.YtaogfopaalancaaDoor
open Go Go.Proofs
theorem mixTd3 : Tryd.prog.follows .mixedOrders = true := by kernel_rfl
theorem S15 {l : List (List U)} {Q : V → Mem → Prop} (hh : ∃ (I1 : List (List U) → Int → Prop) (f1 : List (List U) → Int → Nat), I1 [] 0 ∧ (∀ l1 : List (List U), ∀ x1 : Int, I1 l1 x1 → (bif decide (x1 < (List.length l : Int)) then elL l x1 (fun r1 => dI .i64 (ug r1 0) (fun x2 => dI .i64 (ug r1 1) (fun x3 => PRun Tryd.prog 14 [] [.i x2] (post [.S] [] (fun s1 => (ByteArray.size s1 + ByteArray.size (ByteArray.mk #[120]) < 9223372036854775808 ∧ (PRun Tryd.prog 14 [] [.i x3] (post [.S] [] (fun s2 => (ByteArray.size (s1 ++ ByteArray.mk #[120]) + ByteArray.size s2 < 9223372036854775808 ∧ (apOk l1 [[.s (s1 ++ ByteArray.mk #[120] ++ s2)]] ∧ (I1 (l1 ++ [[.s (s1 ++ ByteArray.mk #[120] ++ s2)]]) (IntKind.wrap .i64 (x1 + 1)) ∧ f1 (l1 ++ [[.s (s1 ++ ByteArray.mk #[120] ++ s2)]]) (IntKind.wrap .i64 (x1 + 1)) < f1 l1 x1)) : Prop)))) : Prop)))))) else PRun Tryd.prog 35 [] [.l 1 l1, .u (.s (ByteArray.mk #[44]))] (post [.S] [] (fun s3 => (Q (.u (.s s3)) [] : Prop)))))) : PRun Tryd.prog 15 [] [.l 2 l] Q :=
 funS2 mixTd3 Tryd.func15 (by kernel_rfl) (H := ⟨[((15, 3, 0), ⟨[(3, .one (.ow 9 1)), (8, .I)], []⟩)], [], [], [], [], false, 64, KN.no, false, SP.no⟩) (n := 2) (by kernel_rfl) hh
theorem S5 {c_0 : Int} {c_1 : Int} {c_2 : Int} {c_3 : Int} {c_4 : Int} {c_5 : Int} {c_6 : Int} {c_7 : Int} {c_8 : Int} {c_9 : Int} {c_10 : Int} {c_11 : Int} {c_12 : Int} {c_13 : Int} {c_14 : Int} {c_15 : Int} {c_16 : Int} {c_17 : Int} {c_18 : Int} {c_19 : Int} {c_20 : List (List U)} {c_21 : List (List U)} {Q : V → Mem → Prop} (hh : PRun Tryd.prog 10 [] [.a [.i c_0, .i c_1, .i c_2, .i c_3, .i c_4, .i c_5, .i c_6, .i c_7, .i c_8, .i c_9, .i c_10, .i c_11, .i c_12, .i c_13, .i c_14, .i c_15, .i c_16, .i c_17, .i c_18, .i c_19, .l 2 c_20, .l 2 c_21]] (post [.I] [] (fun x1 => (bif x1 != 0 then Q (.t [.u (.s (ByteArray.mk #[])), .i x1]) [] else PRun Tryd.prog 11 [] [.i c_0] (post [.S] [] (fun s1 => (PRun Tryd.prog 12 [] [.i c_0] (post [.L 1] [] (fun l1 => ∃ (I1 : ByteArray → Int → Prop) (f1 : ByteArray → Int → Nat), I1 s1 0 ∧ (∀ s2 : ByteArray, ∀ x2 : Int, I1 s2 x2 → (bif decide (x2 < (List.length l1 : Int)) then elL l1 x2 (fun r1 => dS (ug r1 0) (fun s3 => PRun Tryd.prog 13 [] [.a [.i c_0, .i c_1, .i c_2, .i c_3, .i c_4, .i c_5, .i c_6, .i c_7, .i c_8, .i c_9, .i c_10, .i c_11, .i c_12, .i c_13, .i c_14, .i c_15, .i c_16, .i c_17, .i c_18, .i c_19, .l 2 c_20, .l 2 c_21], .u (.s s3)] (post [.I, .B] [] (fun x3 b1 => (bif x3 != 0 then ByteArray.size (ByteArray.mk #[32]) + ByteArray.size s3 < 9223372036854775808 ∧ (ByteArray.size (ByteArray.mk #[32] ++ s3) + ByteArray.size (ByteArray.mk #[61]) < 9223372036854775808 ∧ (PRun Tryd.prog 14 [] [.i x3] (post [.S] [] (fun s4 => (ByteArray.size (ByteArray.mk #[32] ++ s3 ++ ByteArray.mk #[61]) + ByteArray.size s4 < 9223372036854775808 ∧ (ByteArray.size s2 + ByteArray.size (ByteArray.mk #[32] ++ s3 ++ ByteArray.mk #[61] ++ s4) < 9223372036854775808 ∧ (I1 (s2 ++ (ByteArray.mk #[32] ++ s3 ++ ByteArray.mk #[61] ++ s4)) (IntKind.wrap .i64 (x2 + 1)) ∧ f1 (s2 ++ (ByteArray.mk #[32] ++ s3 ++ ByteArray.mk #[61] ++ s4)) (IntKind.wrap .i64 (x2 + 1)) < f1 s2 x2)) : Prop))))) else I1 s2 (IntKind.wrap .i64 (x2 + 1)) ∧ f1 s2 (IntKind.wrap .i64 (x2 + 1)) < f1 s2 x2 : Prop))))) else (bif decide ((List.length c_20 : Int) > 0) then PRun Tryd.prog 15 [] [.l 2 c_20] (post [.S] [] (fun s5 => (ByteArray.size (ByteArray.mk #[32, 103, 105, 118, 101, 115, 61]) + ByteArray.size s5 < 9223372036854775808 ∧ (ByteArray.size s2 + ByteArray.size (ByteArray.mk #[32, 103, 105, 118, 101, 115, 61] ++ s5) < 9223372036854775808 ∧ (bif decide ((List.length c_21 : Int) > 0) then PRun Tryd.prog 15 [] [.l 2 c_21] (post [.S] [] (fun s6 => (ByteArray.size (ByteArray.mk #[32, 119, 97, 110, 116, 115, 61]) + ByteArray.size s6 < 9223372036854775808 ∧ (ByteArray.size (s2 ++ (ByteArray.mk #[32, 103, 105, 118, 101, 115, 61] ++ s5)) + ByteArray.size (ByteArray.mk #[32, 119, 97, 110, 116, 115, 61] ++ s6) < 9223372036854775808 ∧ (Q (.t [.u (.s (s2 ++ (ByteArray.mk #[32, 103, 105, 118, 101, 115, 61] ++ s5) ++ (ByteArray.mk #[32, 119, 97, 110, 116, 115, 61] ++ s6))), .i 0]) [])) : Prop))) else Q (.t [.u (.s (s2 ++ (ByteArray.mk #[32, 103, 105, 118, 101, 115, 61] ++ s5))), .i 0]) [])) : Prop))) else (bif decide ((List.length c_21 : Int) > 0) then PRun Tryd.prog 15 [] [.l 2 c_21] (post [.S] [] (fun s7 => (ByteArray.size (ByteArray.mk #[32, 119, 97, 110, 116, 115, 61]) + ByteArray.size s7 < 9223372036854775808 ∧ (ByteArray.size s2 + ByteArray.size (ByteArray.mk #[32, 119, 97, 110, 116, 115, 61] ++ s7) < 9223372036854775808 ∧ (Q (.t [.u (.s (s2 ++ (ByteArray.mk #[32, 119, 97, 110, 116, 115, 61] ++ s7))), .i 0]) [])) : Prop))) else Q (.t [.u (.s s2), .i 0]) [])))))) : Prop))) : Prop)))) : PRun Tryd.prog 5 [] [.a [.i c_0, .i c_1, .i c_2, .i c_3, .i c_4, .i c_5, .i c_6, .i c_7, .i c_8, .i c_9, .i c_10, .i c_11, .i c_12, .i c_13, .i c_14, .i c_15, .i c_16, .i c_17, .i c_18, .i c_19, .l 2 c_20, .l 2 c_21]] Q :=
 funS2 mixTd3 Tryd.func5 (by kernel_rfl) (H := ⟨[((5, 6, 1), ⟨[(5, .S), (22, .I)], []⟩)], [], [], [], [], false, 64, KN.no, false, SP.no⟩) (n := 2) (by kernel_rfl) hh
theorem S7 {line : ByteArray} {Q : V → Mem → Prop} (hh : PRun Tryd.prog 22 [] [.u (.s line)] (post [.L 1] [] (fun l1 => (bif decide ((ByteArray.size line : Int) > 1024) then Q (.t [.a [.i 0, .i 0, .i 0, .i 0, .i 0, .i 0, .i 0, .i 0, .i 0, .i 0, .i 0, .i 0, .i 0, .i 0, .i 0, .i 0, .i 0, .i 0, .i 0, .i 0, .l 2 [], .l 2 []], .i 2]) [] else (bif (List.length l1 : Int) == 0 then Q (.t [.a [.i 0, .i 0, .i 0, .i 0, .i 0, .i 0, .i 0, .i 0, .i 0, .i 0, .i 0, .i 0, .i 0, .i 0, .i 0, .i 0, .i 0, .i 0, .i 0, .i 0, .l 2 [], .l 2 []], .i 2]) [] else elL l1 0 (fun r1 => dS (ug r1 0) (fun s1 => PRun Tryd.prog 23 [] [.u (.s s1)] (post [.I] [] (fun x1 => (bif x1 == 0 then Q (.t [.a [.i 0, .i 0, .i 0, .i 0, .i 0, .i 0, .i 0, .i 0, .i 0, .i 0, .i 0, .i 0, .i 0, .i 0, .i 0, .i 0, .i 0, .i 0, .i 0, .i 0, .l 2 [], .l 2 []], .i 2]) [] else 0 ≤ (1 : Int) ∧ ((1 : Int) ≤ (List.length l1 : Int) ∧ (List.length l1 : Int) ≤ (List.length l1 : Int) ∧ (∃ (I1 : Int → Int → Int → Int → Int → Int → Int → Int → Int → Int → Int → Int → Int → Int → Int → Int → Int → Int → Int → Int → Int → List (List U) → List (List U) → Int → Int → Int → Int → Int → Int → Int → Int → Int → Int → Int → Int → Int → Int → Int → Int → Int → Int → Int → Int → List (List U) → List (List U) → List (MK × List U) → Prop) (f1 : Int → Int → Int → Int → Int → Int → Int → Int → Int → Int → Int → Int → Int → Int → Int → Int → Int → Int → Int → Int → Int → List (List U) → List (List U) → Int → Int → Int → Int → Int → Int → Int → Int → Int → Int → Int → Int → Int → Int → Int → Int → Int → Int → Int → Int → List (List U) → List (List U) → List (MK × List U) → Nat), I1 0 0 0 0 0 0 0 0 0 0 0 0 0 0 0 0 0 0 0 0 0 [] [] x1 0 0 0 0 0 0 0 0 0 0 0 0 0 0 0 0 0 0 0 [] [] [] ∧ (∀ x2 : Int, ∀ x3 : Int, ∀ x4 : Int, ∀ x5 : Int, ∀ x6 : Int, ∀ x7 : Int, ∀ x8 : Int, ∀ x9 : Int, ∀ x10 : Int, ∀ x11 : Int, ∀ x12 : Int, ∀ x13 : Int, ∀ x14 : Int, ∀ x15 : Int, ∀ x16 : Int, ∀ x17 : Int, ∀ x18 : Int, ∀ x19 : Int, ∀ x20 : Int, ∀ x21 : Int, ∀ x22 : Int, ∀ l2 : List (List U), ∀ l3 : List (List U), ∀ x23 : Int, ∀ x24 : Int, ∀ x25 : Int, ∀ x26 : Int, ∀ x27 : Int, ∀ x28 : Int, ∀ x29 : Int, ∀ x30 : Int, ∀ x31 : Int, ∀ x32 : Int, ∀ x33 : Int, ∀ x34 : Int, ∀ x35 : Int, ∀ x36 : Int, ∀ x37 : Int, ∀ x38 : Int, ∀ x39 : Int, ∀ x40 : Int, ∀ x41 : Int, ∀ x42 : Int, ∀ l4 : List (List U), ∀ l5 : List (List U), ∀ m1 : List (MK × List U), I1 x2 x3 x4 x5 x6 x7 x8 x9 x10 x11 x12 x13 x14 x15 x16 x17 x18 x19 x20 x21 x22 l2 l3 x23 x24 x25 x26 x27 x28 x29 x30 x31 x32 x33 x34 x35 x36 x37 x38 x39 x40 x41 x42 l4 l5 m1 → (bif decide (x2 < (List.length (List.drop 1 (List.take (List.length l1) l1)) : Int)) then elL (List.drop 1 (List.take (List.length l1) l1)) x2 (fun r2 => dS (ug r2 0) (fun s2 => PRun Tryd.prog 24 [] [.u (.s s2), .u (.s (ByteArray.mk #[61]))] (post [.S, .S, .B] [] (fun s3 s4 b1 => ∀ k1 : Int → Int → Int → Int → Int → Int → Int → Int → Int → Int → Int → Int → Int → Int → Int → Int → Int → Int → Int → Int → List (List U) → List (List U) → Prop, (∀ x43 : Int, ∀ x44 : Int, ∀ x45 : Int, ∀ x46 : Int, ∀ x47 : Int, ∀ x48 : Int, ∀ x49 : Int, ∀ x50 : Int, ∀ x51 : Int, ∀ x52 : Int, ∀ x53 : Int, ∀ x54 : Int, ∀ x55 : Int, ∀ x56 : Int, ∀ x57 : Int, ∀ x58 : Int, ∀ x59 : Int, ∀ x60 : Int, ∀ x61 : Int, ∀ x62 : Int, ∀ l6 : List (List U), ∀ l7 : List (List U), (PRun Tryd.prog 25 [] [.a [.i x23, .i x24, .i x25, .i x26, .i x27, .i x28, .i x29, .i x30, .i x31, .i x32, .i x33, .i x34, .i x35, .i x36, .i x37, .i x38, .i x39, .i x40, .i x41, .i x42, .l 2 l4, .l 2 l5], .u (.s s3), .u (.s s4)] (post [.agg [.i .i64, .i .i64, .i .i64, .i .i64, .i .i64, .i .i64, .i .i64, .i .i64, .i .i64, .i .i64, .i .i64, .i .i64, .i .i64, .i .i64, .i .i64, .i .i64, .i .i64, .i .i64, .i .i64, .i .i64, .l 2, .l 2], .B] [] (fun x63 x64 x65 x66 x67 x68 x69 x70 x71 x72 x73 x74 x75 x76 x77 x78 x79 x80 x81 x82 l8 l9 b2 => (bif !b2 then Q (.t [.a [.i 0, .i 0, .i 0, .i 0, .i 0, .i 0, .i 0, .i 0, .i 0, .i 0, .i 0, .i 0, .i 0, .i 0, .i 0, .i 0, .i 0, .i 0, .i 0, .i 0, .l 2 [], .l 2 []], .i 2]) [] else I1 (IntKind.wrap .i64 (x2 + 1)) x43 x44 x45 x46 x47 x48 x49 x50 x51 x52 x53 x54 x55 x56 x57 x58 x59 x60 x61 x62 l6 l7 x63 x64 x65 x66 x67 x68 x69 x70 x71 x72 x73 x74 x75 x76 x77 x78 x79 x80 x81 x82 l8 l9 (rSet m1 (.s s3) [.b true]) ∧ f1 (IntKind.wrap .i64 (x2 + 1)) x43 x44 x45 x46 x47 x48 x49 x50 x51 x52 x53 x54 x55 x56 x57 x58 x59 x60 x61 x62 l6 l7 x63 x64 x65 x66 x67 x68 x69 x70 x71 x72 x73 x74 x75 x76 x77 x78 x79 x80 x81 x82 l8 l9 (rSet m1 (.s s3) [.b true]) < f1 x2 x3 x4 x5 x6 x7 x8 x9 x10 x11 x12 x13 x14 x15 x16 x17 x18 x19 x20 x21 x22 l2 l3 x23 x24 x25 x26 x27 x28 x29 x30 x31 x32 x33 x34 x35 x36 x37 x38 x39 x40 x41 x42 l4 l5 m1 : Prop)))) → k1 x43 x44 x45 x46 x47 x48 x49 x50 x51 x52 x53 x54 x55 x56 x57 x58 x59 x60 x61 x62 l6 l7) → (bif !b1 then Q (.t [.a [.i 0, .i 0, .i 0, .i 0, .i 0, .i 0, .i 0, .i 0, .i 0, .i 0, .i 0, .i 0, .i 0, .i 0, .i 0, .i 0, .i 0, .i 0, .i 0, .i 0, .l 2 [], .l 2 []], .i 2]) [] else mO (rGet m1 (.s s3)) (fun r3 => (dB (ug r3 0) (fun b3 => (bif b3 then Q (.t [.a [.i 0, .i 0, .i 0, .i 0, .i 0, .i 0, .i 0, .i 0, .i 0, .i 0, .i 0, .i 0, .i 0, .i 0, .i 0, .i 0, .i 0, .i 0, .i 0, .i 0, .l 2 [], .l 2 []], .i 2]) [] else k1 x3 x4 x5 x6 x7 x8 x9 x10 x11 x12 x13 x14 x15 x16 x17 x18 x19 x20 x21 x22 l2 l3)) : Prop)) (k1 x3 x4 x5 x6 x7 x8 x9 x10 x11 x12 x13 x14 x15 x16 x17 x18 x19 x20 x21 x22 l2 l3)))))) else Q (.t [.a [.i x23, .i x24, .i x25, .i x26, .i x27, .i x28, .i x29, .i x30, .i x31, .i x32, .i x33, .i x34, .i x35, .i x36, .i x37, .i x38, .i x39, .i x40, .i x41, .i x42, .l 2 l4, .l 2 l5], .i 0]) [])))) : Prop)))))) : Prop)))) : PRun Tryd.prog 7 [] [.u (.s line)] Q :=
 funS2 mixTd3 Tryd.func7 (by kernel_rfl) (H := ⟨[((7, 9, 3), ⟨[(36, .I)], [(0, .c [.i .i64, .i .i64, .i .i64, .i .i64, .i .i64, .i .i64, .i .i64, .i .i64, .i .i64, .i .i64, .i .i64, .i .i64, .i .i64, .i .i64, .i .i64, .i .i64, .i .i64, .i .i64, .i .i64, .i .i64, .ow 36 2, .ow 36 2]), (1, .c [.i .i64, .i .i64, .i .i64, .i .i64, .i .i64, .i .i64, .i .i64, .i .i64, .i .i64, .i .i64, .i .i64, .i .i64, .i .i64, .i .i64, .i .i64, .i .i64, .i .i64, .i .i64, .i .i64, .i .i64, .l 2, .l 2]), (2, .mp .s 1 false)]⟩)], [((7, 14, 5), ⟨[], [(0, .c [.i .i64, .i .i64, .i .i64, .i .i64, .i .i64, .i .i64, .i .i64, .i .i64, .i .i64, .i .i64, .i .i64, .i .i64, .i .i64, .i .i64, .i .i64, .i .i64, .i .i64, .i .i64, .i .i64, .i .i64, .ow 36 2, .ow 36 2])]⟩)], [], [], [], false, 64, KN.no, false, SP.no⟩) (n := 2) (by kernel_rfl) hh
theorem S4 {Q : V → Mem → Prop} (hh : PRun Tryd.prog 7 [] [.u (.s (ByteArray.mk #[32, 32, 105, 115, 115, 117, 101, 32, 119, 97, 110, 116, 115, 61, 50, 120, 49, 32, 119, 104, 111, 61, 49, 32, 103, 105, 118, 101, 115, 61, 49, 120, 53, 44, 51, 120, 50, 32, 110, 61, 45, 55, 32, 97, 115, 61, 50, 32]))] (post [.agg [.i .i64, .i .i64, .i .i64, .i .i64, .i .i64, .i .i64, .i .i64, .i .i64, .i .i64, .i .i64, .i .i64, .i .i64, .i .i64, .i .i64, .i .i64, .i .i64, .i .i64, .i .i64, .i .i64, .i .i64, .l 2, .l 2], .I] [] (fun x1 x2 x3 x4 x5 x6 x7 x8 x9 x10 x11 x12 x13 x14 x15 x16 x17 x18 x19 x20 l1 l2 x21 => (PRun Tryd.prog 5 [] [.a [.i x1, .i x2, .i x3, .i x4, .i x5, .i x6, .i x7, .i x8, .i x9, .i x10, .i x11, .i x12, .i x13, .i x14, .i x15, .i x16, .i x17, .i x18, .i x19, .i x20, .l 2 l1, .l 2 l2]] (post [.S, .I] [] (fun s1 x22 => (PRun Tryd.prog 7 [] [.u (.s (ByteArray.mk #[116, 105, 99, 107, 32, 110, 61, 49, 32, 110, 61, 49]))] (post [.agg [.i .i64, .i .i64, .i .i64, .i .i64, .i .i64, .i .i64, .i .i64, .i .i64, .i .i64, .i .i64, .i .i64, .i .i64, .i .i64, .i .i64, .i .i64, .i .i64, .i .i64, .i .i64, .i .i64, .i .i64, .l 2, .l 2], .I] [] (fun x23 x24 x25 x26 x27 x28 x29 x30 x31 x32 x33 x34 x35 x36 x37 x38 x39 x40 x41 x42 l3 l4 x43 => (PRun Tryd.prog 9 [] [.u (.s (ByteArray.mk #[45, 57, 50, 50, 51, 51, 55, 50, 48, 51, 54, 56, 53, 52, 55, 55, 53, 56, 48, 56]))] (post [.I, .B] [] (fun x44 b1 => (PRun Tryd.prog 9 [] [.u (.s (ByteArray.mk #[48, 49]))] (post [.I, .B] [] (fun x45 b2 => (bif x21 == 0 then PRun Tryd.prog 8 [] [.a [.i x1, .i x2, .i x3, .i x4, .i x5, .i x6, .i x7, .i x8, .i x9, .i x10, .i x11, .i x12, .i x13, .i x14, .i x15, .i x16, .i x17, .i x18, .i x19, .i x20, .l 2 l1, .l 2 l2], .a [.i 14, .i 1, .i 2, .i 0, .i 0, .i 0, .i 0, .i 0, .i 0, .i 0, .i (-7), .i 0, .i 0, .i 0, .i 0, .i 0, .i 0, .i 0, .i 0, .i 0, .l 2 [[.n 1, .n 5], [.n 3, .n 2]], .l 2 [[.n 2, .n 1]]]] (post [.B] [] (fun b3 => (bif b3 then (bif ByteArray.toList s1 == ByteArray.toList (ByteArray.mk #[105, 115, 115, 117, 101, 32, 119, 104, 111, 61, 49, 32, 97, 115, 61, 50, 32, 110, 61, 45, 55, 32, 103, 105, 118, 101, 115, 61, 49, 120, 53, 44, 51, 120, 50, 32, 119, 97, 110, 116, 115, 61, 50, 120, 49]) then (bif x22 == 0 then (bif x43 == 2 then (bif x44 == -9223372036854775808 then (bif b1 then Q (.u (.b (!b2))) [] else Q (.u (.b false)) []) else Q (.u (.b false)) []) else Q (.u (.b false)) []) else Q (.u (.b false)) []) else Q (.u (.b false)) []) else Q (.u (.b false)) [] : Prop))) else Q (.u (.b false)) [] : Prop))) : Prop))) : Prop))) : Prop))) : Prop)))) : PRun Tryd.prog 4 [] [] Q :=
 funS2 mixTd3 Tryd.func4 (by kernel_rfl) (H := ⟨[], [], [], [], [], false, 64, KN.no, false, SP.no⟩) (n := 2) (by kernel_rfl) hh
theorem S3 {c_0 : Int} {c_1 : Int} {c_2 : Int} {c_3 : Int} {c_4 : Int} {c_5 : Int} {c_6 : Int} {c_7 : Int} {c_8 : Int} {c_9 : Int} {c_10 : Int} {c_11 : Int} {c_12 : Int} {c_13 : Int} {c_14 : Int} {c_15 : Int} {c_16 : Int} {c_17 : Int} {c_18 : Int} {c_19 : Int} {c_20 : List (List U)} {c_21 : List (List U)} {Q : V → Mem → Prop} (hh : bif decide ((List.length c_20 : Int) > 12) then PRun Tryd.prog 4 [] [] (post [.B] [] (fun b1 => (Q (.u (.b b1)) [] : Prop))) else (bif decide ((List.length c_21 : Int) > 12) then PRun Tryd.prog 4 [] [] (post [.B] [] (fun b2 => (Q (.u (.b b2)) [] : Prop))) else PRun Tryd.prog 5 [] [.a [.i c_0, .i c_1, .i c_2, .i c_3, .i c_4, .i c_5, .i c_6, .i c_7, .i c_8, .i c_9, .i c_10, .i c_11, .i c_12, .i c_13, .i c_14, .i c_15, .i c_16, .i c_17, .i c_18, .i c_19, .l 2 c_20, .l 2 c_21]] (post [.S, .I] [] (fun s1 x1 => (PRun Tryd.prog 6 [] [.a [.i c_0, .i c_1, .i c_2, .i c_3, .i c_4, .i c_5, .i c_6, .i c_7, .i c_8, .i c_9, .i c_10, .i c_11, .i c_12, .i c_13, .i c_14, .i c_15, .i c_16, .i c_17, .i c_18, .i c_19, .l 2 c_20, .l 2 c_21]] (post [.S, .I] [] (fun s2 x2 => (bif !(ByteArray.toList s1 == ByteArray.toList s2) then Q (.u (.b false)) [] else (bif x1 != x2 then Q (.u (.b false)) [] else PRun Tryd.prog 7 [] [.u (.s s1)] (post [.agg [.i .i64, .i .i64, .i .i64, .i .i64, .i .i64, .i .i64, .i .i64, .i .i64, .i .i64, .i .i64, .i .i64, .i .i64, .i .i64, .i .i64, .i .i64, .i .i64, .i .i64, .i .i64, .i .i64, .i .i64, .l 2, .l 2], .I] [] (fun x3 x4 x5 x6 x7 x8 x9 x10 x11 x12 x13 x14 x15 x16 x17 x18 x19 x20 x21 x22 l1 l2 x23 => (bif x1 != 0 then (bif ByteArray.toList s1 == ByteArray.toList (ByteArray.mk #[]) then PRun Tryd.prog 4 [] [] (post [.B] [] (fun b3 => (Q (.u (.b b3)) [] : Prop))) else (bif x1 == 0 then (bif x23 == 0 then PRun Tryd.prog 8 [] [.a [.i x3, .i x4, .i x5, .i x6, .i x7, .i x8, .i x9, .i x10, .i x11, .i x12, .i x13, .i x14, .i x15, .i x16, .i x17, .i x18, .i x19, .i x20, .i x21, .i x22, .l 2 l1, .l 2 l2], .a [.i c_0, .i c_1, .i c_2, .i c_3, .i c_4, .i c_5, .i c_6, .i c_7, .i c_8, .i c_9, .i c_10, .i c_11, .i c_12, .i c_13, .i c_14, .i c_15, .i c_16, .i c_17, .i c_18, .i c_19, .l 2 c_20, .l 2 c_21]] (post [.B] [] (fun b4 => (bif b4 then PRun Tryd.prog 4 [] [] (post [.B] [] (fun b5 => (Q (.u (.b b5)) [] : Prop))) else Q (.u (.b false)) [] : Prop))) else Q (.u (.b false)) []) else Q (.u (.b false)) [])) else (bif x1 == 0 then (bif x23 == 0 then PRun Tryd.prog 8 [] [.a [.i x3, .i x4, .i x5, .i x6, .i x7, .i x8, .i x9, .i x10, .i x11, .i x12, .i x13, .i x14, .i x15, .i x16, .i x17, .i x18, .i x19, .i x20, .i x21, .i x22, .l 2 l1, .l 2 l2], .a [.i c_0, .i c_1, .i c_2, .i c_3, .i c_4, .i c_5, .i c_6, .i c_7, .i c_8, .i c_9, .i c_10, .i c_11, .i c_12, .i c_13, .i c_14, .i c_15, .i c_16, .i c_17, .i c_18, .i c_19, .l 2 c_20, .l 2 c_21]] (post [.B] [] (fun b6 => (bif b6 then PRun Tryd.prog 4 [] [] (post [.B] [] (fun b7 => (Q (.u (.b b7)) [] : Prop))) else Q (.u (.b false)) [] : Prop))) else Q (.u (.b false)) []) else Q (.u (.b false)) []) : Prop)))) : Prop))) : Prop))))) : PRun Tryd.prog 3 [] [.a [.i c_0, .i c_1, .i c_2, .i c_3, .i c_4, .i c_5, .i c_6, .i c_7, .i c_8, .i c_9, .i c_10, .i c_11, .i c_12, .i c_13, .i c_14, .i c_15, .i c_16, .i c_17, .i c_18, .i c_19, .l 2 c_20, .l 2 c_21]] Q :=
 funS2 mixTd3 Tryd.func3 (by kernel_rfl) (H := ⟨[], [], [], [], [], false, 64, KN.no, false, SP.no⟩) (n := 2) (by kernel_rfl) hh
theorem S21 {l : List (List U)} {Q : V → Mem → Prop} (hh : ∃ (I1 : ByteArray → Int → Prop) (f1 : ByteArray → Int → Nat), I1 (ByteArray.mk #[]) 0 ∧ (∀ s1 : ByteArray, ∀ x1 : Int, I1 s1 x1 → (bif decide (x1 < (List.length l : Int)) then ∀ k1 : ByteArray → Prop, (∀ s2 : ByteArray, (elL l x1 (fun r1 => dI .i64 (ug r1 0) (fun x2 => elL l x1 (fun r2 => dI .i64 (ug r2 1) (fun x3 => PRun Tryd.prog 20 [] [.i x2] (post [.S] [] (fun s3 => (ByteArray.size s2 + ByteArray.size s3 < 9223372036854775808 ∧ (ByteArray.size (s2 ++ s3) + ByteArray.size (ByteArray.mk #[120]) < 9223372036854775808 ∧ (PRun Tryd.prog 20 [] [.i x3] (post [.S] [] (fun s4 => (ByteArray.size (s2 ++ s3 ++ ByteArray.mk #[120]) + ByteArray.size s4 < 9223372036854775808 ∧ (I1 (s2 ++ s3 ++ ByteArray.mk #[120] ++ s4) (IntKind.wrap .i64 (x1 + 1)) ∧ f1 (s2 ++ s3 ++ ByteArray.mk #[120] ++ s4) (IntKind.wrap .i64 (x1 + 1)) < f1 s1 x1) : Prop))))) : Prop)))))))) → k1 s2) → (bif decide (x1 > 0) then ByteArray.size s1 + ByteArray.size (ByteArray.mk #[44]) < 9223372036854775808 ∧ (k1 (s1 ++ ByteArray.mk #[44])) else k1 s1) else Q (.u (.s s1)) []))) : PRun Tryd.prog 21 [] [.l 2 l] Q :=
 funS2 mixTd3 Tryd.func21 (by kernel_rfl) (H := ⟨[((21, 3, 0), ⟨[(3, .S), (4, .I)], []⟩)], [((21, 7, 0), ⟨[(3, .S)], []⟩)], [], [], [], false, 64, KN.no, false, SP.no⟩) (n := 2) (by kernel_rfl) hh
end Go.Proofs.YtaogfopaalancaaDoor
/- From the symbolic engine's runs to the rows. -/
set_option linter.unusedVariables false
namespace Go.Proofs.YtaogfopaalancaaDoor
open Go Go.Proofs Go.ChangeShapes Go.WideShapes Go.ChangeAt Go.RowKit
theorem Tryd.own : ownKnob Tryd.prog.godebug = none := by kernel_rfl
theorem Tryd.laidOut : laidOutB Tryd.prog = true := by kernel_rfl
theorem belowOf {W W' : World} (k : Keep W.heap W'.heap) (s : Same W W') : RowKit.Below W.heap.size W W' :=
 ⟨s.os, s.tape, s.output, k.size, fun b hb => k.blk b hb (by simp)⟩
theorem rp_agg {D : Fz} {cs : Array Value} {us : List U} (h : RdL D (Value.agg cs).cells.toList us) : Rp D [] (.agg cs) (.a (us.map .u)) := by
 obtain ⟨cs⟩ := cs
 exact .a (RpC.ofU h)
theorem SAt.all (h : Heap) [GlH h] : SAt (allD h) [] [] [] [] h := ⟨rfl, rfl, fun i L ab ch h => by simp at h, by simpa using St.all h⟩
end Go.Proofs.YtaogfopaalancaaDoor
/- The library's functions on texts and numbers, by its own contracts. -/
set_option linter.unusedVariables false
namespace Go.Proofs.YtaogfopaalancaaDoor
open Go Go.Proofs Go.Shelf Go.Lib
variable {Q : V → Mem → Prop}
theorem tab_is {P : Program} {w : World} {D : Fz} {C : List Chunk} {name : String} {g : Nat} {k : IntKind} {zs : List Int} (hg : P.globalNamed name = some g) (S : St D C w.heap) (t : GTab D.f g k zs) : TabIs P w name k zs := by
 obtain ⟨T, z, e⟩ := t
 unfold TabIs World.var?
 rw [hg]
 simp only [Option.bind_some, (S.fz _ _ e).1]
theorem cell_is {w : World} {D : Fz} {C : List Chunk} {g : Nat} {v : Value} {T : TypeId} {z : Nat × Nat} (S : St D C w.heap) (e : D.f g = some (.cells #[v] T z)) : w.cell? ⟨g, 0, none⟩ = some v := by
 show hcell w.heap _ = _
 rw [hcell_of (S.fz _ _ e).1]; rfl
theorem gSp : Tryd.prog.globalNamed "strings.asciiSpace" = some 0 := by kernel_rfl
theorem gPw : Tryd.prog.globalNamed "internal/strconv.uint64pow10" = some 5 := by kernel_rfl
theorem keep_app (h : Heap) (os : Array Obj) : Keep h (h ++ os) := ⟨by simp, fun b hb _ => by simp [Array.getElem?_append, hb]⟩
theorem callCut : Callable Tryd.prog 24 := ⟨_, Tryd.func24, by kernel_rfl, by kernel_rfl⟩
theorem callSplit : Callable Tryd.prog 53 := ⟨_, Tryd.func53, by kernel_rfl, by kernel_rfl⟩
theorem callFields : Callable Tryd.prog 30 := ⟨_, Tryd.func30, by kernel_rfl, by kernel_rfl⟩
theorem callItoa : Callable Tryd.prog 14 := ⟨_, Tryd.func14, by kernel_rfl, by kernel_rfl⟩
theorem callJoin : Callable Tryd.prog 35 := ⟨_, Tryd.func35, by kernel_rfl, by kernel_rfl⟩
theorem sCut_S (c : UInt8) {l : Bs} (hl : l.length < 4294967281) (k : Q (.t [.u (.s (bA (cutC c l).1)), .u (.s (bA (cutC c l).2.1)), .u (.b (cutC c l).2.2)]) []) : PRun Tryd.prog 24 [] [.u (.s (bA l)), .u (.s (bA [c]))] Q := by
 refine .keep fun D C h vs S F => ?_
 obtain ⟨v, w, rfl, h1, h2⟩ := F.two
 rw [Rd.str_iff.1 h1.u_inv, Rd.str_iff.1 h2.u_inv]
 refine ⟨callCut, fun w hw => ?_⟩
 subst hw
 obtain ⟨m, T, z, e⟩ := D.gl.ml
 refine (Any.strings_Cut Tryd.lays145 (bA l) (bA [c]) m w hl (cell_is S e)).mono ?_
 rintro e w' ⟨rfl, n, rfl⟩
 refine ⟨_, rfl, ⟨.refl _ _, _, .t (.cons (.u (.str _)) (.cons (.u (.str _)) (.cons (.u (.bool _)) .nil))), ?_⟩, ⟨rfl, rfl, rfl, trivial⟩⟩
 show Q (.t [.u (.s (bA (cut l [c]).1)), .u (.s (bA (cut l [c]).2.1)), .u (.b (cut l [c]).2.2)]) []
 rw [cut_lib]
 exact k
theorem sSplit_S (c : UInt8) {l : Bs} (hl : l.length < 4294967281) (k : Q (.l 1 ((splitC c l).map eB)) []) : PRun Tryd.prog 53 [] [.u (.s (bA l)), .u (.s (bA [c]))] Q := by
 refine PRun.texts (T := Tryd.laysM146_ren.t 9) (fun D C h vs S F => ?_) k
 obtain ⟨v, w, rfl, h1, h2⟩ := F.two
 rw [Rd.str_iff.1 h1.u_inv, Rd.str_iff.1 h2.u_inv]
 refine ⟨callSplit, fun w hw => ?_⟩
 subst hw
 obtain ⟨m, T, z, e⟩ := D.gl.ml
 refine (Any.strings_Split { Tryd.laysM146 with } Tryd.laysM146.i9 (bA l) (bA [c]) m w hl (cell_is S e) (Nat.le_refl 1)).mono ?_
 rintro e w' ⟨rfl, rfl⟩
 obtain ⟨g1, g2⟩ := split_lib c l.length l (Nat.le_refl _)
 have e1 : countB (bA l) (bA [c]) + 1 = (splitC c l).length := g2
 have e2 : (splitB (bA [c]) 0 (countB (bA l) (bA [c])) (bA l)).map Value.string = (splitC c l).map fun x => Value.string (bA x) := by
  have : (splitB (bA [c]) 0 (countB (bA l) (bA [c])) (bA l)).map (·.data.toList) = splitC c l := by rw [splitB_data]; exact g1
  rw [← this, List.map_map]; rfl
 rw [e1, e2]
 exact ⟨_, rfl, ⟨rfl, rfl⟩, ⟨rfl, rfl, rfl, trivial⟩⟩
theorem sFields_S {l : Bs} (hl : l.length < 4294967281) (ha : l.all (fun b => Nat.blt b.toNat 128) = true) (k : Q (.l 1 ((fields l).map eB)) []) : PRun Tryd.prog 30 [] [.u (.s (bA l))] Q := by
 refine PRun.texts (T := Tryd.laysM157_ren.t 9) (fun D C h vs S F => ?_) k
 obtain ⟨v, rfl, h1⟩ := F.one
 rw [Rd.str_iff.1 h1.u_inv]
 refine ⟨callFields, fun w hw => ?_⟩
 subst hw
 refine (Any.strings_Fields_laid Tryd.laysM157 (bA l) w hl (fun j b hb => ?_) (tab_is gSp S D.gl.sp)).mono ?_
 · have := List.all_eq_true.1 ha b (List.mem_of_getElem? hb)
   exact Nat.le_of_ble_eq_true this
 rintro e w' ⟨rfl, rfl⟩
 exact ⟨_, rfl, ⟨rfl, rfl⟩, ⟨rfl, rfl, rfl, trivial⟩⟩
theorem itoa_S {n : Int} (h0 : -9223372036854775808 ≤ n) (h1 : n ≤ 9223372036854775807) (k : Q (.u (.s (bA (itoa n)))) []) : PRun Tryd.prog 14 [] [.i n] Q := by
 refine .keep fun D C h vs S F => ?_
 obtain ⟨v, rfl, hv⟩ := F.one
 rw [Rd.int_iff.1 hv.u_inv]
 refine ⟨callItoa, fun w hw => ?_⟩
 subst hw
 refine (Any.strconv_Itoa Tryd.laysM171 n h0 h1 w (tab_is gPw S D.gl.pw)).mono ?_
 rintro e w' ⟨rfl, j, os, rfl⟩
 exact ⟨_, rfl, ⟨keep_app _ _, _, .u (.str _), k⟩, ⟨rfl, rfl, rfl, trivial⟩⟩
theorem rd_texts {D : Fz} {C : List Chunk} {h : Heap} {a : Option Addr} {n c : Nat} {l : List Bs} (S : St D C h) (hr : Rd D (.slice a n c) (.l 1 (l.map eB))) :
 (l = [] ∧ n = 0) ∨ ∃ b o, a = some ⟨b, o, none⟩ ∧ n = l.length ∧ l.length ≤ c ∧ b < h.size ∧ ∀ (j : Nat) x, l[j]? = some x → hcell h ⟨b, o + j, none⟩ = some (.string (bA x)) := by
 generalize hl : l.map eB = rows at hr
 cases hr with
 | nil => exact .inl ⟨by simpa using hl, rfl⟩
 | row b o c arr T f rows sz v h1 h2 h3 h4 h5 =>
   subst hl
   refine .inr ⟨b, o, rfl, by simp, by simpa using h2, lt_of_get (S.fz _ _ h1).1, fun j x hx => ?_⟩
   have e1 : (l.map eB)[j]? = some (eB x) := by rw [List.getElem?_map, hx]; rfl
   have e2 := h4 j 0 _ _ e1 rfl
   have e3 := Rd.str_iff.1 (h5 j 0 _ _ e1 rfl)
   rw [hcell_of (S.fz _ _ h1).1, ← e3, ← e2]
   simp
theorem sJoin_S {l : List Bs} {sep : Bs} (hl : l.length ≤ 1000000) (hj : (join l sep).length ≤ 140737488355328) (k : Q (.u (.s (bA (join l sep)))) []) : PRun Tryd.prog 35 [] [.l 1 (l.map eB), .u (.s (bA sep))] Q := by
 refine .keep fun D C h vs S F => ?_
 obtain ⟨v, w, rfl, h1, h2⟩ := F.two
 rw [Rd.str_iff.1 h2.u_inv]
 obtain ⟨a, c, rfl, -⟩ := h1.l_inv
 refine ⟨callJoin, fun w hw => ?_⟩
 subst hw
 rw [List.length_map] at *
 rcases rd_texts S h1.u_inv with ⟨rfl, hn⟩ | ⟨b, o, rfl, hn, hc, hb, hx⟩
 · refine (Any.strings_Join_none Tryd.lays156 Tryd.Builder_Extra_156 a c (bA sep) w).mono ?_
   rintro e w' ⟨rfl, rfl⟩
   exact ⟨_, rfl, ⟨.refl _ _, _, .u (.str _), k⟩, ⟨rfl, rfl, rfl, trivial⟩⟩
 · have e : (l.map bA).length = l.length := List.length_map _
   have e2 : (l.map bA).map (·.data.toList) = l := by rw [List.map_map]; exact List.map_id _
   have := Any.strings_Join Tryd.lays156 Tryd.Builder_Extra_156 b o c (l.map bA) (bA sep) w (fun j x hx' => by
    rw [List.getElem?_map] at hx'
    obtain ⟨y, hy, rfl⟩ := Option.map_eq_some_iff.1 hx'
    exact hx j y hy) hb (by rw [e]; omega) (by rw [e]; exact hc) (by rw [e2]; exact hj)
   rw [e, e2] at this
   refine this.mono ?_
   rintro e w' ⟨rfl, bw⟩
   exact ⟨_, rfl, ⟨⟨bw.size, fun b hb _ => bw.block b hb⟩, _, .u (.str _), k⟩, ⟨bw.tape, bw.os, bw.output, trivial⟩⟩
end Go.Proofs.YtaogfopaalancaaDoor
/- Texts: the reference's parts and numbers. -/
set_option linter.unusedVariables false
namespace Go.Proofs.YtaogfopaalancaaDoor
open Go Go.Proofs Go.Lib
variable {Q : V → Mem → Prop}
theorem bEq (a b : Bs) : (ByteArray.toList (bA a) == ByteArray.toList (bA b)) = decide (a = b) := by
 rw [ByteArray.toList_eq, ByteArray.toList_eq]
 rw [Bool.eq_iff_iff]; simp
section
variable {L t l : Bs} {a : UInt8} {x : Int}
end
theorem strOf1 (n : Int) : strOf [n] = bA [UInt8.ofNat n.toNat] := rfl
theorem u8w {x : Int} (h : 0 ≤ x) (h2 : x < 256) : IntKind.wrap .u8 x = x := by
 rw [IntKind.wrap_u8]; omega
theorem num0_S : ∀ u : Nat, u ≤ 9223372036854775808 → (u : Int) ≤ 9223372036854775807 → ∀ {Q : V → Mem → Prop}, Q (.u (.s (bA (decDigits u)))) [] → PRun Tryd.prog 20 [] [.i u] Q := by
 intro u
 induction u using Nat.strongRecOn with
 | _ u ih =>
   intro hu hu' Q k
   refine S20 ?_
   rw [decide_eq_false (by omega), cond_false]
   refine cIf (fun h9 => ?_) fun h9 => ?_
   · have e1 : Int.tdiv (u : Int) 10 = ((u / 10 : Nat) : Int) := by rw [Int.tdiv_eq_ediv_of_nonneg (by omega)]; omega
     have e2 : Int.tmod (u : Int) 10 = ((u % 10 : Nat) : Int) := by rw [Int.tmod_eq_emod_of_nonneg (by omega)]; omega
     rw [e1, e2, w64 (by omega) (by omega)]
     refine ⟨by omega, ih (u / 10) (by omega) (by omega) (by omega) ?_⟩
     rw [post_S]
     refine ⟨by omega, ih (u % 10) (by omega) (by omega) (by omega) ?_⟩
     rw [post_S, bA_app, bA_size, bA_size]
     have d1 := (dec_len (u := u / 10) (by omega)).2
     have d2 := (dec_len (u := u % 10) (by omega)).2
     have : decDigits u = decDigits (u / 10) ++ decDigits (u % 10) := by
      rw [decDigits, dif_neg (by omega), decDigits_one (i := u % 10) (by omega)]
     rw [← this]
     exact ⟨by omega, k⟩
   · rw [w64 (by omega) (by omega), u8w (by omega) (by omega), strOf1, show ((48 : Int) + u).toNat = 48 + u by omega, ← decDigits_one (by omega)]
     exact k
theorem num1_S : ∀ u : Nat, 1 ≤ u → u ≤ 9223372036854775808 → ∀ {Q : V → Mem → Prop}, Q (.u (.s (bA (45 :: decDigits u)))) [] → PRun Tryd.prog 20 [] [.i (-(u : Int))] Q := by
 intro u
 induction u using Nat.strongRecOn with
 | _ u ih =>
   intro h1 hu Q k
   refine S20 ?_
   rw [decide_eq_true (by omega), cond_true]
   refine cIf (fun h9 => ?_) fun h9 => ?_
   · rw [show (0 : Int) - -(u : Int) = u by omega, w64 (by omega) (by omega)]
     refine num0_S u (by omega) (by omega) ?_
     rw [post_S]
     have d1 := (dec_len (u := u) (by omega)).2
     refine ⟨?_, k⟩
     show 1 + (decDigits u).length < _
     omega
   · have e1 : Int.tdiv (-(u : Int)) 10 = -((u / 10 : Nat) : Int) := by rw [Int.neg_tdiv, Int.tdiv_eq_ediv_of_nonneg (by omega)]; omega
     have e2 : Int.tmod (-(u : Int)) 10 = -((u % 10 : Nat) : Int) := by rw [Int.neg_tmod, Int.tmod_eq_emod_of_nonneg (by omega)]; omega
     rw [e1, e2, w64 (by omega) (by omega)]
     refine ⟨by omega, ih (u / 10) (by omega) (by omega) (by omega) ?_⟩
     rw [post_S, show (0 : Int) - -((u % 10 : Nat) : Int) = ((u % 10 : Nat) : Int) by omega, w64 (by omega) (by omega)]
     refine ⟨by omega, num0_S (u % 10) (by omega) (by omega) ?_⟩
     rw [post_S, bA_app, bA_size, bA_size]
     have d1 := (dec_len (u := u / 10) (by omega)).2
     have d2 := (dec_len (u := u % 10) (by omega)).2
     have : decDigits u = decDigits (u / 10) ++ decDigits (u % 10) := by
      rw [decDigits, dif_neg (by omega), decDigits_one (i := u % 10) (by omega)]
     rw [List.cons_append, ← this]
     exact ⟨by simp only [List.length_cons]; omega, k⟩
theorem rnum_S {n : Int} (h0 : -9223372036854775808 ≤ n) (h1 : n ≤ 9223372036854775807) (k : Q (.u (.s (bA (itoa n)))) []) : PRun Tryd.prog 20 [] [.i n] Q := by
 unfold itoa at k
 by_cases h : n < 0
 · rw [if_pos h] at k
   have e : n = -(n.natAbs : Int) := by omega
   generalize n.natAbs = u at *
   subst e
   exact num1_S u (by omega) (by omega) k
 · rw [if_neg h] at k
   obtain ⟨u, rfl⟩ := Int.eq_ofNat_of_zero_le (show 0 ≤ n by omega)
   exact num0_S u (by omega) (by omega) k
end Go.Proofs.YtaogfopaalancaaDoor
/- The code's numbers: by the kit's walk, as the library hands out an error. -/
set_option linter.unusedVariables false
namespace Go.Proofs.YtaogfopaalancaaDoor
open Go Go.Proofs Go.Lib Go.Shelf Go.RowKit
variable {Q : V → Mem → Prop}
theorem tab_below {w w' : World} {name : String} {k : IntKind} {zs : List Int} {g : Nat} (hg : Tryd.prog.globalNamed name = some g) (hlt : g < w.heap.size) (b : Below w.heap.size w w') (h : TabIs Tryd.prog w name k zs) : TabIs Tryd.prog w' name k zs := by
 unfold TabIs World.var? at *
 rw [hg] at *
 simp only [Option.bind_some] at *
 rw [b.block g hlt]; exact h
theorem below_grow {n : Nat} {w w' : World} (b : Below n w w') (hn : n ≤ w'.heap.size) (j : Nat) (os : Array Obj) : Below n w (Sort.grow (w'.drewN j) os) :=
 ⟨b.os, b.tape, b.output, Nat.le_trans b.size (by simp [Sort.grow]), fun k hk => by
  rw [← b.block k hk]
  show (w'.heap ++ os)[k]? = _
  rw [Array.getElem?_append_left (by omega)]⟩
set_option maxRecDepth 100000 in
theorem number_ok (s : ByteArray) (v : Int) (b : Bool) (hb : b = (itoa v == s.toList)) (h : parseIntB 64 s.data.toList = .ok v) (h0 : -9223372036854775808 ≤ v) (h1 : v ≤ 9223372036854775807) (hmax : s.size ≤ 9223372036854775806) (w : World) (hlt : 5 < w.heap.size) (htab : TabIs Tryd.prog w "internal/strconv.uint64pow10" .u64 pow10Tab) :
 Calls Tryd.prog 9 #[.string s] w fun e w' => e = .returned (.tuple #[.int .i64 (cond b v 0), .bool b]) ∧ Below w.heap.size w w' := by
 go_enter Tryd.func9, Tryd.ntmps9
 go_wp2_with (first
  | (go_at_call 28; refine (Any.strconv_ParseInt_10_at64_ok Tryd.laysC174 s hmax v h _).mono ?_; rintro e w' ⟨rfl, hw⟩
     have hw1 : Below w.heap.size w w' := by
      rcases hw with rfl | ⟨t, rfl⟩
      · exact .refl _ _
      · exact Go.Joins.below_bytesWorld _ _ _ _ (Nat.le_refl _)
     clear hw)
  | (go_at_call 29; refine (Any.strconv_FormatInt_10 Tryd.laysM173 v h0 h1 _ (tab_below gPw hlt (by assumption) htab)).mono ?_; rintro e w' ⟨rfl, j, os, rfl⟩))
 · have hx : (!itoa v == s.toList) = true := by assumption
   rw [← hb] at hx
   obtain rfl : b = false := by simpa using hx
   go_ret2
   exact ⟨rfl, below_grow hw1 hw1.size _ _⟩
 · have hx : (!itoa v == s.toList) = false := by assumption
   rw [← hb] at hx
   obtain rfl : b = true := by simpa using hx
   go_ret2
   exact ⟨rfl, below_grow hw1 hw1.size _ _⟩
set_option maxRecDepth 100000 in
theorem number_bad (s : ByteArray) (h : ∀ v, parseIntB 64 s.data.toList ≠ .ok v) (hlim : s.size ≤ 281474976710656) (w : World) (hs : ∃ t p, w.cell? ⟨3, 0, none⟩ = some (.iface t p)) (hr : ∃ t p, w.cell? ⟨4, 0, none⟩ = some (.iface t p)) :
 Calls Tryd.prog 9 #[.string s] w fun e w' => e = .returned (.tuple #[.int .i64 0, .bool false]) ∧ Below w.heap.size w w' := by
 obtain ⟨t1, p1, hs⟩ := hs
 obtain ⟨t2, p2, hr⟩ := hr
 have key : Calls Tryd.prog 28 #[.string s, .int .i64 10, .int .i64 64] w fun e w' => (∃ n t p, e = .returned (.tuple #[.int .i64 n, .iface t p])) ∧ Below w.heap.size w w' := by
  rcases hp : parseIntB 64 s.data.toList with v | _ | _
  · exact absurd hp (h v)
  · exact (Any.strconv_ParseInt_10_at64_syntax Tryd.laysC174 s hlim hp _ w hs (.inr ⟨_, _, rfl⟩)).mono fun e w' ⟨N, he, _, _, hb⟩ => ⟨⟨_, _, _, he⟩, hb⟩
  · exact (Any.strconv_ParseInt_10_at64_range Tryd.laysC174 s hlim hp _ w hr (.inr ⟨_, _, rfl⟩)).mono fun e w' ⟨N, he, _, _, hb⟩ => ⟨⟨_, _, _, he⟩, hb⟩
 go_enter Tryd.func9, Tryd.ntmps9
 go_wp2_with (go_at_call 28; refine key.mono ?_; rintro e w' ⟨⟨n, t, p, rfl⟩, hw⟩)
 go_ret2
 exact ⟨rfl, by assumption⟩
theorem callNum : Callable Tryd.prog 9 := ⟨_, Tryd.func9, by kernel_rfl, by kernel_rfl⟩
theorem number_S {l : Bs} (hl : l.length ≤ 1000000000000) (k1 : ∀ v, numL l = some v → Q (.t [.i v, .u (.b true)]) []) (k0 : numL l = none → Q (.t [.i 0, .u (.b false)]) []) : PRun Tryd.prog 9 [] [.u (.s (bA l))] Q := by
 refine .keep fun D C h vs S F => ?_
 obtain ⟨v, rfl, hv⟩ := F.one
 rw [Rd.str_iff.1 hv.u_inv]
 refine ⟨callNum, fun w hw => ?_⟩
 subst hw
 have hz := bA_size l
 by_cases hp : ∃ v, parseIntB 64 l = .ok v
 · obtain ⟨v, hp⟩ := hp
   have hin := parse_in hp
   obtain ⟨T, z, e⟩ := D.gl.pw
   refine (number_ok (bA l) v _ rfl hp hin.1 hin.2 (by omega) w (lt_of_get (S.fz _ _ e).1) (tab_is gPw S D.gl.pw)).mono ?_
   rintro e w' ⟨rfl, hb⟩
   refine ⟨_, rfl, ⟨⟨hb.size, fun b hb' _ => hb.block b hb'⟩, _, .t (.cons (.u (.int _ _)) (.cons (.u (.bool _)) .nil)), ?_⟩, ⟨hb.tape, hb.os, hb.output, trivial⟩⟩
   have e1 : (itoa v == (bA l).toList) = decide (itoa v = l) := by
    rw [ByteArray.toList_eq, Bool.eq_iff_iff]; simp
   rw [e1]
   by_cases he : itoa v = l
   · rw [decide_eq_true he]
     exact k1 v (numL_iff.2 ⟨hin.1, hin.2, he⟩)
   · rw [decide_eq_false he]
     refine k0 ?_
     cases hn : numL l with
     | none => rfl
     | some u =>
       obtain ⟨g1, g2, rfl⟩ := numL_iff.1 hn
       rw [parse_itoa g1 g2] at hp
       cases hp
       exact absurd rfl he
 · obtain ⟨t1, p1, T1, z1, e1⟩ := D.gl.es
   obtain ⟨t2, p2, T2, z2, e2⟩ := D.gl.er
   refine (number_bad (bA l) (fun v hv => hp ⟨v, hv⟩) (by omega) w ⟨_, _, cell_is S e1⟩ ⟨_, _, cell_is S e2⟩).mono ?_
   rintro e w' ⟨rfl, hb⟩
   refine ⟨_, rfl, ⟨⟨hb.size, fun b hb' _ => hb.block b hb'⟩, _, .t (.cons (.u (.int _ _)) (.cons (.u (.bool _)) .nil)), k0 ?_⟩, ⟨hb.tape, hb.os, hb.output, trivial⟩⟩
   cases hn : numL l with
   | none => rfl
   | some u =>
     obtain ⟨g1, g2, rfl⟩ := numL_iff.1 hn
     exact absurd ⟨u, parse_itoa g1 g2⟩ hp
end Go.Proofs.YtaogfopaalancaaDoor
/- Texts: words and stacks of both sides. -/
set_option linter.unusedVariables false
namespace Go.Proofs.YtaogfopaalancaaDoor
open Go Go.Proofs Go.Lib
variable {Q : V → Mem → Prop}
theorem splitA_len (c : UInt8) : ∀ l p, (splitA c p l).length ≤ l.length + 1
 | [], p => by simp [splitA]
 | b :: l, p => by
   rw [splitA]; split
   · have := splitA_len c l []; simp; omega
   · have := splitA_len c l (p ++ [b]); simp; omega
theorem si_inj (D : Fz) {s s' : ByteArray} {p p' : Nat} (h : Ob.si s p = Ob.si s' p') : s = s' ∧ p = p' := by
 have h1 := congrArg Ob.f h
 have h2 : ([(0, Obj.stringIter s p)] : Chunk) = [(0, .stringIter s' p')] := (congrFun (congrFun (congrFun h1 D) 0) [(0, .stringIter s p)]).mp rfl
 injection h2 with h3
 injection h3 with _ h3
 injection h3 with h3 h4
 exact ⟨h3, h4⟩
noncomputable def siM (X : Ob) : Nat := open Classical in if h : ∃ q : ByteArray × Nat, X = Ob.si q.1 q.2 then h.choose.1.size - h.choose.2 else 0
theorem siM_si (D : Fz) (s : ByteArray) (p : Nat) : siM (.si s p) = s.size - p := by
 unfold siM
 have h : ∃ q : ByteArray × Nat, Ob.si s p = Ob.si q.1 q.2 := ⟨(s, p), rfl⟩
 rw [dif_pos h]
 obtain ⟨h1, h2⟩ := si_inj D h.choose_spec
 rw [← h1, ← h2]
theorem get_bang (l : Bs) (j : Nat) : (bA l).get! j = l.getD j 0 := by
 show (Array.mk l)[j]! = _
 by_cases h : j < l.length
 · simp [h, List.getD]
 · simp [h, List.getD]; rfl
theorem not_sp {b : UInt8} (h : b.toNat / 64 = 2) : b ≠ 32 := fun e => by rw [e] at h; exact absurd h (by decide)
theorem dec_sp {l : Bs} {p : Nat} (hp : p < l.length) : ((Utf8.decode (bA l) p).1 = 32 ↔ l.getD p 0 = 32) ∧ 1 ≤ (Utf8.decode (bA l) p).2 ∧
 p + (Utf8.decode (bA l) p).2 ≤ l.length ∧ ∀ j, p < j → j < p + (Utf8.decode (bA l) p).2 → l.getD j 0 ≠ 32 := by
 have hz : ((l.getD p 0).toNat = 32 ↔ l.getD p 0 = 32) := ⟨fun h => u8_ext h, fun h => by rw [h]; rfl⟩
 have big : ∀ {c : Nat}, 128 ≤ c → ¬ (l.getD p 0).toNat < 128 → (c = 32 ↔ l.getD p 0 = 32) := fun hc hb => ⟨fun e => by omega, fun e => by rw [e] at hb; exact absurd (by decide) hb⟩
 have one : ¬ (l.getD p 0).toNat < 128 → ((Utf8.runeError, 1).1 = 32 ↔ l.getD p 0 = 32) ∧ 1 ≤ (Utf8.runeError, 1).2 ∧ p + (Utf8.runeError, 1).2 ≤ l.length ∧ ∀ j, p < j → j < p + (Utf8.runeError, 1).2 → l.getD j 0 ≠ 32 := fun hb =>
  ⟨big (by decide) hb, Nat.le_refl _, hp, fun j h1 h2 => by simp only at h2; omega⟩
 unfold Utf8.decode
 simp only [get_bang, Nat.add_zero, bA_size]
 split
 · exact ⟨hz, Nat.le_refl _, hp, fun j h1 h2 => by simp only at h2; omega⟩
 rename_i hb
 split
 · rename_i h
   simp only [Bool.and_eq_true, beq_iff_eq, decide_eq_true_eq] at h
   split
   · rename_i hc
     refine ⟨big hc hb, Nat.le_of_ble_eq_true rfl, h.2.1, fun j h1 h2 => ?_⟩
     simp only at h2
     rw [show j = p + 1 by omega]; exact not_sp h.2.2
   · exact one hb
 split
 · rename_i h
   simp only [Bool.and_eq_true, beq_iff_eq, decide_eq_true_eq] at h
   split
   · rename_i hc
     simp only [Bool.and_eq_true, decide_eq_true_eq] at hc
     refine ⟨big (by omega) hb, Nat.le_of_ble_eq_true rfl, h.2.1, fun j h1 h2 => ?_⟩
     simp only at h2
     rcases (show j = p + 1 ∨ j = p + 2 by omega) with rfl | rfl
     · exact not_sp h.1.2.2
     · exact not_sp h.2.2
   · exact one hb
 split
 · rename_i h
   simp only [Bool.and_eq_true, beq_iff_eq, decide_eq_true_eq] at h
   split
   · rename_i hc
     simp only [Bool.and_eq_true, decide_eq_true_eq] at hc
     refine ⟨big (by omega) hb, Nat.le_of_ble_eq_true rfl, h.2.1, fun j h1 h2 => ?_⟩
     simp only at h2
     rcases (show j = p + 1 ∨ j = p + 2 ∨ j = p + 3 by omega) with rfl | rfl | rfl
     · exact not_sp h.1.1.2.2
     · exact not_sp h.1.2.2
     · exact not_sp h.2.2
   · exact one hb
 · exact one hb
theorem words_nil : wordsL [] = [] := rfl
theorem words_S {l : Bs} (hl : l.length ≤ 900000) (k : Q (.l 1 ((wordsL l).map eB)) []) : PRun Tryd.prog 22 [] [.u (.s (bA l))] Q := by
 refine (Classical.em (Nonempty Fz)).elim (fun hD => ?_) fun hD => fun D => absurd ⟨D⟩ hD
 obtain ⟨D0⟩ := hD
 have hz := bA_size l
 refine S22 ⟨by show (l.length : Nat) + 1 < _; omega, ?_⟩
 rw [show ByteArray.mk #[32] = bA [32] from rfl, bA_app]
 obtain ⟨L, hL⟩ : ∃ L, L = l ++ [32] := ⟨_, rfl⟩
 rw [← hL]
 have hLl : L.length = l.length + 1 := by rw [hL]; simp
 have hLw : wordsL L = wordsL l := by rw [hL, words_sp]
 refine ⟨fun out x X => ∃ f p o, X = Ob.si (bA L) p ∧ x = (f : Nat) ∧ f ≤ p ∧ p ≤ L.length ∧ (∀ j, f ≤ j → j < p → L.getD j 0 ≠ 32) ∧ out = o.map eB ∧ o ++ wordsL (L.drop f) = wordsL l ∧ o.length ≤ f, fun _ _ X => siM X,
  ⟨0, 0, [], rfl, rfl, Nat.le_refl _, Nat.zero_le _, fun j h1 h2 => by omega, rfl, by rw [List.drop_zero, hLw]; rfl, Nat.le_refl _⟩, ?_⟩
 rintro _ _ _ ⟨f, p, o, rfl, rfl, h1, h2, h3, rfl, h4, h5⟩
 refine ⟨_, _, rfl, ?_⟩
 by_cases hp : p < L.length
 · rw [show Nat.ble (p + 1) (ByteArray.size (bA L)) = true from Nat.ble_eq_true_of_le hp, cond_true]
   obtain ⟨d1, d2, d3, d4⟩ := dec_sp hp
   have hm : siM (.si (bA L) (p + (Utf8.decode (bA L) p).2)) < siM (.si (bA L) p) := by
    rw [siM_si D0, siM_si D0, bA_size]; omega
   refine cNe (fun e => ?_) fun e => ?_
   · refine ⟨⟨f, _, o, rfl, rfl, by omega, d3, fun j g1 g2 => ?_, rfl, h4, h5⟩, hm⟩
     rcases Nat.lt_trichotomy j p with hj | rfl | hj
     · exact h3 j g1 hj
     · exact fun hh => e (by rw [d1.2 hh]; rfl)
     · exact d4 j hj g2
   have hsp : L.getD p 0 = 32 := d1.1 (by omega)
   have hu : (32 : UInt8) ∉ (L.drop f).take (p - f) := fun hm' => by
    obtain ⟨j, hj⟩ := List.mem_iff_getElem?.1 hm'
    rw [List.getElem?_take] at hj
    split at hj
    · rw [List.getElem?_drop] at hj
      exact h3 (f + j) (by omega) (by omega) (by rw [List.getD, hj]; rfl)
    · cases hj
   have hsplit : L.drop f = (L.drop f).take (p - f) ++ 32 :: L.drop (p + 1) := by
    have e1 : (L.drop f).drop (p - f) = L.drop p := by rw [List.drop_drop]; congr 1; omega
    have e2 : L.drop p = 32 :: L.drop (p + 1) := by
     rw [List.drop_eq_getElem_cons hp]
     congr 1
     rw [List.getD, List.getElem?_eq_getElem hp] at hsp
     exact hsp
    rw [← e2, ← e1, List.take_append_drop]
   rw [hsplit, words_app hu] at h4
   have w1 : IntKind.wrap .i64 ((p : Int) + 1) = ((p + 1 : Nat) : Int) := by rw [w64 (by omega) (by omega)]; rfl
   have hI : ∀ (o' : List Bs), o' ++ wordsL (L.drop (p + 1)) = wordsL l → o'.length ≤ p + 1 → ∃ f' p' o'', Ob.si (bA L) (p + (Utf8.decode (bA L) p).2) = Ob.si (bA L) p' ∧ (((p + 1 : Nat) : Int)) = (f' : Nat) ∧ f' ≤ p' ∧ p' ≤ L.length ∧ (∀ j, f' ≤ j → j < p' → L.getD j 0 ≠ 32) ∧ o'.map eB = o''.map eB ∧ o'' ++ wordsL (L.drop f') = wordsL l ∧ o''.length ≤ f' :=
    fun o' g1 g2 => ⟨p + 1, _, o', rfl, rfl, by omega, d3, fun j h h' => d4 j (by omega) h', rfl, g1, g2⟩
   rw [w1]
   refine cIf (fun g => ?_) fun g => ?_
   · have hne : (L.drop f).take (p - f) ≠ [] := fun hh => by
      have := congrArg List.length hh
      rw [List.length_take, List.length_drop, List.length_nil] at this
      omega
     rw [if_neg hne] at h4
     have hx : ByteArray.extract (bA l) (Int.toNat (f : Int)) (Int.toNat (p : Int)) = bA ((L.drop f).take (p - f)) := by
      rw [Int.toNat_natCast, Int.toNat_natCast, bA_ext, ← List.drop_take, hL, List.take_append_of_le_length (by omega)]
     rw [hx]
     refine ⟨by omega, by omega, by omega, by simp only [apOk, List.length_map, List.length_singleton]; omega, ?_, hm⟩
     have := hI (o ++ [(L.drop f).take (p - f)]) (by rw [← h4]; simp) (by rw [List.length_append, List.length_singleton]; omega)
     rw [List.map_append] at this
     exact this
   · have he : (L.drop f).take (p - f) = [] := by rw [show p - f = 0 by omega]; rfl
     rw [if_pos he] at h4
     exact ⟨hI o h4 (by omega), hm⟩
 · rw [show Nat.ble (p + 1) (ByteArray.size (bA L)) = false by rw [← Bool.not_eq_true]; exact fun h => hp (Nat.le_of_ble_eq_true h), cond_false]
   have hf : f = L.length := by
    rcases Nat.lt_or_ge l.length f with h | h
    · omega
    · exfalso
      refine h3 l.length h (by omega) ?_
      rw [hL, List.getD, List.getElem?_append_right (Nat.le_refl _), Nat.sub_self]; rfl
   rw [hf, List.drop_length, words_nil, List.append_nil] at h4
   rw [h4]; exact k
end Go.Proofs.YtaogfopaalancaaDoor
/- Stacks of a text, on both sides. -/
set_option linter.unusedVariables false
namespace Go.Proofs.YtaogfopaalancaaDoor
open Go Go.Proofs Go.Lib
variable {Q : V → Mem → Prop}
abbrev eP (x : Int × Int) : List U := [.n x.1, .n x.2]
def stackL (p : Bs) : Option (Int × Int) :=
 match numL (cutC 120 p).1, numL (cutC 120 p).2.1 with
 | some a, some b => some (a, b)
 | _, _ => none
def stacksF : List Bs → Option (List (Int × Int))
 | [] => some []
 | p :: r => match stackL p, stacksF r with
   | some a, some l => some (a :: l)
   | _, _ => none
def stacksL (l : Bs) : Option (List (Int × Int)) := if 8 < (splitC 44 l).length then none else stacksF (splitC 44 l)
def stV (o : Option (List (Int × Int))) : V := .t [.l 2 ((o.getD []).map eP), .u (.b o.isSome)]
theorem post_SSB {m : Mem} {x y : ByteArray} {b : Bool} {F : ByteArray → ByteArray → Bool → Prop} : post [.S, .S, .B] [] F (.t [.u (.s x), .u (.s y), .u (.b b)]) m = F x y b := rfl
theorem post_IB {m : Mem} {n : Int} {b : Bool} {F : Int → Bool → Prop} : post [.I, .B] [] F (.t [.i n, .u (.b b)]) m = F n b := rfl
theorem cutA_len (c : UInt8) : ∀ (l p : Bs), (cutA c p l).1.length ≤ p.length + l.length ∧ (cutA c p l).2.1.length ≤ l.length
 | [], p => by simp [cutA]
 | b :: l, p => by
   rw [cutA]; split
   · simp
   · have := cutA_len c l (p ++ [b])
     simp only [List.length_append, List.length_cons, List.length_nil] at *
     omega
theorem splitA_el (c : UInt8) : ∀ (l p : Bs) (x : Bs), x ∈ splitA c p l → x.length ≤ p.length + l.length
 | [], p, x, h => by simp [splitA] at h; rw [h]; simp
 | b :: l, p, x, h => by
   rw [splitA] at h
   split at h
   · rcases List.mem_cons.1 h with rfl | h
     · omega
     · have := splitA_el c l [] x h; simp at *; omega
   · have := splitA_el c l _ x h
     simp only [List.length_append, List.length_cons, List.length_nil] at *
     omega
def StI (L : List Bs) (o : List (Int × Int)) (r : List Bs) : Prop := stacksF L = match stacksF r with | some q => some (o ++ q) | none => none
theorem StI.bad {L r : List Bs} {o : List (Int × Int)} {a : Bs} (h : StI L o (a :: r)) (e : stackL a = none) : stacksF L = none := by
 rw [h, stacksF, e]
theorem StI.good {L r : List Bs} {o : List (Int × Int)} {a : Bs} {x : Int × Int} (h : StI L o (a :: r)) (e : stackL a = some x) : StI L (o ++ [x]) r := by
 unfold StI at *
 rw [h, stacksF, e]
 cases stacksF r <;> simp
theorem stacks_S {l : Bs} (hl : l.length ≤ 900000) (k : Q (stV (stacksL l)) []) : PRun Tryd.prog 41 [] [.u (.s (bA l))] Q := by
 refine S41 (sSplit_S 44 (by omega) ?_)
 rw [post_L, List.length_map]
 unfold stacksL at k
 have hel := splitA_el 44 l []
 refine cIf (fun h8 => ?_) fun h8 => ?_
 · rw [if_pos (by omega)] at k; exact k
 rw [if_neg (by omega)] at k
 rw [← List.length_map (f := eB)]
 refine ⟨fun out x => ∃ o, out = o.map eP ∧ AtI (splitC 44 l) (fun t r => StI (splitC 44 l) o r ∧ o.length ≤ t.length) x, fun _ x => SufM (splitC 44 l) x, ⟨[], rfl, .zero (by omega) ⟨by unfold StI; cases stacksF (splitC 44 l) <;> rfl, Nat.le_refl _⟩⟩, ?_⟩
 rintro _ x ⟨o, rfl, t, _ | ⟨a, r⟩, p, h, hb⟩
 · rw [p.d0, cond_false]
   unfold StI at h
   simp only [stacksF, List.append_nil] at h
   rw [h] at k; exact k
 · rw [p.d1, cond_true, p.el]
   simp only [ug0, dS_s]
   have ha := hel a (by show a ∈ splitC 44 l; rw [p.e]; simp)
   have hc : (cutC 120 a).1.length ≤ a.length ∧ (cutC 120 a).2.1.length ≤ a.length := by simpa using cutA_len 120 a []
   have ht : t.length + 1 ≤ 8 := by have := congrArg List.length p.e; rw [List.length_append, List.length_cons] at this; omega
   simp only [List.length_nil] at ha
   refine sCut_S 120 (by omega) ?_
   rw [post_SSB]
   have bad : stackL a = none → Q (.t [.l 2 [], .u (.b false)]) [] := fun e => by rw [h.bad e] at k; exact k
   have n2 : ∀ (n : Int) (b : Bool), (b = true → numL (cutC 120 a).1 = some n) → (b = false → numL (cutC 120 a).1 = none) → PRun Tryd.prog 9 [] [.u (.s (bA (cutC 120 a).2.1))] (post [.I, .B] [] fun x3 b3 => (bif !b then Q (.t [.l 2 [], .u (.b false)]) [] else (bif !b3 then Q (.t [.l 2 [], .u (.b false)]) [] else apOk (o.map eP) [[.n n, .n x3]] ∧ ((∃ o', o.map eP ++ [[.n n, .n x3]] = o'.map eP ∧ AtI (splitC 44 l) (fun t r => StI (splitC 44 l) o' r ∧ o'.length ≤ t.length) (IntKind.wrap .i64 (x + 1))) ∧ SufM (splitC 44 l) (IntKind.wrap .i64 (x + 1)) < SufM (splitC 44 l) x)) : Prop)) := fun n b h1 h2 => by
    cases b with
    | false =>
      have e : stackL a = none := by unfold stackL; rw [h2 rfl]
      exact number_S (by omega) (fun v hv => by rw [post_IB]; exact bad e) fun hv => by rw [post_IB]; exact bad e
    | true =>
      refine number_S (by omega) (fun v hv => ?_) fun hv => ?_
      · rw [post_IB]
        have e : stackL a = some (n, v) := by unfold stackL; rw [h1 rfl, hv]
        refine ⟨by simp only [apOk, List.length_map, List.length_singleton]; omega, ?_⟩
        rw [p.suf.wr]
        exact ⟨⟨o ++ [(n, v)], by simp, t ++ [a], r, p.succ, h.good e, by simp; omega⟩, p.suf.me⟩
      · rw [post_IB]
        exact bad (by unfold stackL; rw [h1 rfl, hv])
   refine number_S (by omega) (fun v hv => ?_) fun hv => ?_
   · rw [post_IB]
     exact n2 v true (fun _ => hv) fun e => by cases e
   · rw [post_IB]
     exact n2 0 false (fun e => by cases e) fun _ => hv
theorem clone_S {s : List (List U)} {K : List (List U) → Prop} (hs : s.length ≤ 1000000) (k : K s) : PRun Tryd.prog 54 [] [.l 2 s] (post [.L 2] [] K) := by
 refine S54 ?_
 cases s with
 | nil => exact ⟨by rw [post_L]; exact k, by simp [apOk], k⟩
 | cons a s =>
   refine ⟨by simpa [apOk] using hs, ?_⟩
   show post [.L 2] [] K (.l 2 ([] ++ a :: s)) []
   rw [post_L]; exact k
theorem same_S {a b : List (Int × Int)} (ha : a.length ≤ 1000000000000) (hb : b.length ≤ 1000000000000) (k : Q (.u (.b (decide (a = b)))) []) : PRun Tryd.prog 27 [] [.l 2 (a.map eP), .l 2 (b.map eP)] Q := by
 refine S27 ?_
 refine cNe (fun e => ?_) fun e => ?_
 all_goals rw [List.length_map, List.length_map] at e
 · rw [decide_eq_false (fun h => e (by rw [h]))] at k; exact k
 have hlen : a.length = b.length := by omega
 refine ⟨fun x => ∃ t l l', At a x t l ∧ At b x t l', SufM a, ⟨[], a, b, .zero ha, .zero hb⟩, ?_⟩
 rintro x ⟨t, _ | ⟨u, l⟩, l', p, q⟩
 · rw [p.d0, cond_false]
   have : l' = [] := by
    have h1 := congrArg List.length p.e; have h2 := congrArg List.length q.e
    rw [List.length_append] at h1 h2
    exact List.eq_nil_of_length_eq_zero (by simp at h1; omega)
   subst this
   rw [decide_eq_true (by rw [← p.all, ← q.all])] at k; exact k
 · rw [p.d1, cond_true]
   cases l' with
   | nil =>
     have h1 := congrArg List.length p.e; have h2 := congrArg List.length q.e
     rw [List.length_append] at h1 h2
     simp at h1 h2; omega
   | cons w l' =>
     rw [q.d1, cond_true, p.el]
     simp only [ug0, ugs, dI_n]
     rw [q.el]
     simp only [ug0, ugs, dI_n]
     by_cases he : u = w
     · subst he
       simp only [beq_self_eq_true, Bool.and_self, Bool.not_true, cond_false]
       rw [p.suf.wr]
       exact ⟨⟨_, l, l', p.succ, q.succ⟩, p.suf.me⟩
     · have : (!(u.1 == w.1 && (u.2 == w.2 && true))) = true := by
        rw [Bool.not_eq_true', Bool.and_true, ← Bool.not_eq_true]
        intro h
        simp only [Bool.and_eq_true, beq_iff_eq] at h
        exact he (Prod.ext h.1 h.2)
       rw [this, cond_true]
       rw [decide_eq_false (fun h => by
        rw [p.e, q.e] at h
        have := List.append_cancel_left h
        injection this with h1; exact he h1)] at k
       exact k
end Go.Proofs.YtaogfopaalancaaDoor
/- Commands: their words and fields. -/
set_option linter.unusedVariables false
set_option maxRecDepth 100000
namespace Go.Proofs.YtaogfopaalancaaDoor
open Go Go.Proofs Go.Lib
variable {Q : V → Mem → Prop}
def nmL : List Bs := [[119, 104, 111], [97, 115], [100, 105, 118], [105, 100], [116, 111], [105, 110, 116, 111], [112, 108, 97, 99, 101], [100, 101, 115, 116], [116, 121, 112, 101], [110], [112, 108, 101, 100, 103, 101], [108, 97, 115, 116, 115], [100, 97, 121, 115], [114, 117, 110, 115], [99, 111, 112, 105, 101, 115], [114, 111, 108, 101, 115], [109, 101], [116, 101], [98, 97, 121]]
def kdL : List (Bs × Bs) := [([109, 105, 110, 116], [97, 115, 32, 110]),
 ([115, 101, 101, 100], [97, 115, 32, 100, 105, 118, 32, 112, 108, 97, 99, 101, 32, 116, 121, 112, 101, 32, 110]),
 ([100, 114, 97, 102, 116], [97, 115, 32, 100, 105, 118, 32, 112, 108, 97, 99, 101, 32, 116, 121, 112, 101, 32, 109, 101, 32, 116, 101, 32, 114, 117, 110, 115]),
 ([102, 111, 117, 110, 100], [119, 104, 111]),
 ([101, 110, 114, 111, 108], [119, 104, 111, 32, 97, 115, 32, 116, 111, 32, 114, 111, 108, 101, 115]),
 ([101, 120, 112, 101, 108], [119, 104, 111, 32, 97, 115, 32, 116, 111]),
 ([112, 97, 121], [119, 104, 111, 32, 97, 115, 32, 116, 111, 32, 110]),
 ([103, 105, 118, 101], [119, 104, 111, 32, 97, 115, 32, 100, 105, 118, 32, 116, 111, 32, 105, 110, 116, 111, 32, 112, 108, 97, 99, 101, 32, 116, 121, 112, 101, 32, 110]),
 ([105, 110, 115, 116, 97, 108, 108], [119, 104, 111, 32, 97, 115, 32, 100, 105, 118, 32, 98, 97, 121, 32, 105, 100, 32, 116, 121, 112, 101, 32, 114, 117, 110, 115, 32, 99, 111, 112, 105, 101, 115]),
 ([112, 97, 117, 115, 101], [119, 104, 111, 32, 105, 100]),
 ([114, 101, 115, 117, 109, 101], [119, 104, 111, 32, 105, 100]),
 ([99, 97, 110, 99, 101, 108], [119, 104, 111, 32, 105, 100]),
 ([100, 101, 108, 105, 118, 101, 114], [119, 104, 111, 32, 105, 100]),
 ([105, 115, 115, 117, 101], [119, 104, 111, 32, 97, 115, 32, 100, 105, 118, 32, 116, 121, 112, 101, 32, 116, 111, 32, 112, 108, 97, 99, 101, 32, 100, 101, 115, 116, 32, 110, 32, 112, 108, 101, 100, 103, 101, 32, 108, 97, 115, 116, 115, 32, 100, 97, 121, 115]),
 ([97, 99, 99, 101, 112, 116], [119, 104, 111, 32, 97, 115, 32, 100, 105, 118, 32, 105, 100]),
 ([104, 97, 110, 100], [119, 104, 111, 32, 105, 100]),
 ([102, 97, 105, 108], [119, 104, 111, 32, 105, 100]),
 ([114, 101, 106, 101, 99, 116], [119, 104, 111, 32, 105, 100]),
 ([114, 101, 118, 111, 107, 101], [119, 104, 111, 32, 105, 100]),
 ([116, 105, 99, 107], [110]),
 ([109, 111, 110, 101, 121], [119, 104, 111, 32, 97, 115]),
 ([115, 116, 97, 99, 107], [119, 104, 111, 32, 97, 115, 32, 100, 105, 118, 32, 112, 108, 97, 99, 101, 32, 116, 121, 112, 101]),
 ([106, 111, 98], [119, 104, 111, 32, 105, 100]),
 ([100, 101, 97, 108], [119, 104, 111, 32, 105, 100]),
 ([99, 108, 111, 99, 107], [119, 104, 111])]
def wdL : List Bs := kdL.map (·.1)
def fdL : List (List Bs) := kdL.map fun p => fields p.2
def posB : List Bs → Bs → Nat → Option Nat
 | [], _, _ => none
 | a :: r, s, k => if a = s then some k else posB r s (k + 1)
def kindOf (s : Bs) : Int := match posB wdL s 0 with | some j => (j : Int) + 1 | none => 0
def fieldsOf (k : Int) : List Bs := if k < 1 ∨ 25 < k then [] else fdL.getD (k - 1).toNat []
def nameOf (k : Int) : Bs := if k < 1 ∨ 25 < k then [] else wdL.getD (k - 1).toNat []
structure Cm where
 k : Int
 n : List Int
 g : List (Int × Int)
 w : List (Int × Int)
abbrev aV (k : Int) (n : List Int) (g w : List (List U)) : V := .a (.i k :: (n.map V.i ++ [.l 2 g, .l 2 w]))
abbrev Cm.v (c : Cm) : V := aV c.k c.n (c.g.map eP) (c.w.map eP)
def Cm.zero : Cm := ⟨0, List.replicate 19 0, [], []⟩
theorem list19 {n : List Int} (h : n.length = 19) : ∃ a1 a2 a3 a4 a5 a6 a7 a8 a9 a10 a11 a12 a13 a14 a15 a16 a17 a18 a19, n = [a1, a2, a3, a4, a5, a6, a7, a8, a9, a10, a11, a12, a13, a14, a15, a16, a17, a18, a19] := by
 match n, h with
 | [a1, a2, a3, a4, a5, a6, a7, a8, a9, a10, a11, a12, a13, a14, a15, a16, a17, a18, a19], _ => exact ⟨_, _, _, _, _, _, _, _, _, _, _, _, _, _, _, _, _, _, _, rfl⟩
def chP (s : Bs) (F : Nat → Prop) (d : Prop) : List Bs → Nat → Prop
 | [], _ => d
 | a :: r, k => cond (ByteArray.toList (bA a) == ByteArray.toList (bA s)) (F k) (chP s F d r (k + 1))
def chN (s : Bs) (F : Nat → Prop) (d : Prop) : List Bs → Nat → Prop
 | [], _ => d
 | a :: r, k => cond (ByteArray.toList (bA s) == ByteArray.toList (bA a)) (F k) (chN s F d r (k + 1))
theorem chP_of {s : Bs} {F : Nat → Prop} {d : Prop} : ∀ {l : List Bs} {i : Nat}, (∀ j, posB l s i = some j → F j) → (posB l s i = none → d) → chP s F d l i
 | [], i, h1, h2 => h2 rfl
 | a :: r, i, h1, h2 => by
   rw [chP, bEq]
   refine cIf (fun e => h1 i (by rw [posB, if_pos e])) fun e => chP_of (fun j hj => h1 j (by rw [posB, if_neg e, hj])) fun hj => h2 (by rw [posB, if_neg e, hj])
theorem chN_of {s : Bs} {F : Nat → Prop} {d : Prop} : ∀ {l : List Bs} {i : Nat}, (∀ j, posB l s i = some j → F j) → (posB l s i = none → d) → chN s F d l i
 | [], i, h1, h2 => h2 rfl
 | a :: r, i, h1, h2 => by
   rw [chN, bEq]
   refine cIf (fun e => h1 i (by rw [posB, if_pos e.symm])) fun e => chN_of (fun j hj => h1 j (by rw [posB, if_neg (fun h => e h.symm), hj])) fun hj => h2 (by rw [posB, if_neg (fun h => e h.symm), hj])
theorem posB_at {s : Bs} : ∀ {l : List Bs} {i j : Nat}, posB l s i = some j → i ≤ j ∧ l[j - i]? = some s
 | [], i, j, h => by cases h
 | a :: r, i, j, h => by
   rw [posB] at h
   split at h
   · rename_i e; cases h; exact ⟨Nat.le_refl _, by rw [Nat.sub_self, e]; rfl⟩
   · obtain ⟨h1, h2⟩ := posB_at h
     exact ⟨by omega, by rw [show j - i = (j - (i + 1)) + 1 by omega]; exact h2⟩
theorem posB_no {s : Bs} : ∀ {l : List Bs} {i : Nat}, posB l s i = none ↔ s ∉ l
 | [], i => by simp [posB]
 | a :: r, i => by
   rw [posB]
   split
   · rename_i e; simp [e]
   · rename_i e; rw [posB_no]; simp [Ne.symm e]
theorem ckind_S {s : Bs} (k : Q (.i (kindOf s)) []) : PRun Tryd.prog 23 [] [.u (.s (bA s))] Q :=
 S23 (show chP s (fun j => Q (.i ((j : Int) + 1)) []) (Q (.i 0) []) wdL 0 from chP_of (fun j hj => by unfold kindOf at k; rw [hj] at k; exact k) fun hj => by unfold kindOf at k; rw [hj] at k; exact k)
theorem kd_ascii : kdL.all (fun p => p.2.all fun b => Nat.blt b.toNat 128) = true := by decide +kernel
theorem kd_get {kind : Int} (h1 : ¬ kind < 1) (h2 : ¬ kind > 25) : ∃ p, kdL[(kind - 1).toNat]? = some p ∧ p ∈ kdL ∧ p.2.length < 1000 := by
 have hl : kdL.length = 25 := rfl
 have hlt : (kind - 1).toNat < kdL.length := by omega
 refine ⟨kdL[(kind - 1).toNat], List.getElem?_eq_getElem hlt, List.getElem_mem hlt, ?_⟩
 have : kdL.all (fun p => Nat.blt p.2.length 1000) = true := by decide +kernel
 exact Nat.le_of_ble_eq_true (List.all_eq_true.1 this _ (List.getElem_mem hlt))
abbrev eK (p : Bs × Bs) : List U := [.s (bA p.1), .s (bA p.2)]
theorem cfields_S {kind : Int} (k : Q (.l 1 ((fieldsOf kind).map eB)) []) : PRun Tryd.prog 12 [] [.i kind] Q := by
 unfold fieldsOf at k
 refine S12 (cIf (fun h => ?_) fun h1 => cIf (fun h => ?_) fun h2 => ?_)
 · rw [if_pos (.inl h)] at k; exact k
 · rw [if_pos (.inr h)] at k; exact k
 · rw [if_neg (by omega)] at k
   obtain ⟨p, hp, hm, hlen⟩ := kd_get h1 h2
   rw [w64 (by omega) (by omega)]
   have e : (kdL.map eK)[(kind - 1).toNat]? = some (eK p) := by rw [List.getElem?_map, hp]; rfl
   show elL (kdL.map eK) (kind - 1) _
   rw [elL_of (by omega) e]
   simp only [ug0, ugs, dS_s]
   refine sFields_S (by omega) (List.all_eq_true.1 kd_ascii p hm) ?_
   rw [post_L]
   rw [List.getD, fdL, List.getElem?_map, hp] at k
   exact k
theorem cname_S {kind : Int} (k : Q (.u (.s (bA (nameOf kind)))) []) : PRun Tryd.prog 11 [] [.i kind] Q := by
 unfold nameOf at k
 refine S11 (cIf (fun h => ?_) fun h1 => cIf (fun h => ?_) fun h2 => ?_)
 · rw [if_pos (.inl h)] at k; exact k
 · rw [if_pos (.inr h)] at k; exact k
 · rw [if_neg (by omega)] at k
   obtain ⟨p, hp, hm, hlen⟩ := kd_get h1 h2
   rw [w64 (by omega) (by omega)]
   have e : (kdL.map eK)[(kind - 1).toNat]? = some (eK p) := by rw [List.getElem?_map, hp]; rfl
   show elL (kdL.map eK) (kind - 1) _
   rw [elL_of (by omega) e]
   simp only [ug0, ugs, dS_s]
   rw [List.getD, wdL, List.getElem?_map, hp] at k
   exact k
theorem cget_S {c : Cm} (hn : c.n.length = 19) {name : Bs} (k1 : ∀ j, posB nmL name 0 = some j → Q (.t [.i (c.n.getD j 0), .u (.b true)]) []) (k0 : posB nmL name 0 = none → Q (.t [.i 0, .u (.b false)]) []) :
 PRun Tryd.prog 13 [] [c.v, .u (.s (bA name))] Q := by
 obtain ⟨ck, cn, cg, cw⟩ := c
 obtain ⟨a1, a2, a3, a4, a5, a6, a7, a8, a9, a10, a11, a12, a13, a14, a15, a16, a17, a18, a19, rfl⟩ := list19 hn
 exact S13 (show chN name (fun j => Q (.t [.i ([a1, a2, a3, a4, a5, a6, a7, a8, a9, a10, a11, a12, a13, a14, a15, a16, a17, a18, a19].getD j 0), .u (.b true)]) []) (Q (.t [.i 0, .u (.b false)]) []) nmL 0 from chN_of k1 k0)
theorem cset_S {c : Cm} (hn : c.n.length = 19) (hg : c.g.length ≤ 1000000) (hw : c.w.length ≤ 1000000) {name : Bs} {n : Int} (k1 : ∀ j, posB nmL name 0 = some j → Q (.t [(Cm.mk c.k (c.n.set j n) c.g c.w).v, .u (.b true)]) []) (k0 : posB nmL name 0 = none → Q (.t [Cm.zero.v, .u (.b false)]) []) :
 PRun Tryd.prog 42 [] [c.v, .u (.s (bA name)), .i n] Q := by
 obtain ⟨ck, cn, cg, cw⟩ := c
 obtain ⟨a1, a2, a3, a4, a5, a6, a7, a8, a9, a10, a11, a12, a13, a14, a15, a16, a17, a18, a19, rfl⟩ := list19 hn
 refine S42 (show chN name (fun j => PRun Tryd.prog 54 [] [.l 2 (cg.map eP)] (post [.L 2] [] fun l1 => PRun Tryd.prog 54 [] [.l 2 (cw.map eP)] (post [.L 2] [] fun l2 => Q (.t [aV ck ([a1, a2, a3, a4, a5, a6, a7, a8, a9, a10, a11, a12, a13, a14, a15, a16, a17, a18, a19].set j n) l1 l2, .u (.b true)]) []))) (Q (.t [Cm.zero.v, .u (.b false)]) []) nmL 0 from chN_of (fun j hj => ?_) k0)
 exact clone_S (by rw [List.length_map]; exact hg) (clone_S (by rw [List.length_map]; exact hw) (k1 j hj))
end Go.Proofs.YtaogfopaalancaaDoor
/- Commands: checked; one more field; as lines. -/
set_option linter.unusedVariables false
set_option maxRecDepth 100000
namespace Go.Proofs.YtaogfopaalancaaDoor
open Go Go.Proofs Go.Lib
variable {Q : V → Mem → Prop}
theorem contains_S {l : List Bs} {s : Bs} (hl : l.length ≤ 1000000000000) (k : Q (.u (.b (decide (s ∈ l)))) []) : PRun Tryd.prog 32 [] [.l 1 (l.map eB), .u (.s (bA s))] Q := by
 refine S32 ⟨AtI l fun t _ => s ∉ t, SufM l, .zero hl (by simp), ?_⟩
 rintro x ⟨t, _ | ⟨a, r⟩, p, h⟩
 · rw [p.d0, cond_false]
   rw [p.all] at h
   simpa [h] using k
 · rw [p.d1, cond_true, p.el]
   simp only [ug0, dS_s, bEq]
   refine cIf (fun e => ?_) fun e => ?_
   · have : s ∈ l := by rw [p.e]; simp [e]
     rw [decide_eq_true p.suf.lt.1]
     simpa [this] using k
   · exact p.step (by simp [h]; exact e)
def valOf (c : Cm) (s : Bs) : Int := match posB nmL s 0 with | some j => c.n.getD j 0 | none => 0
def badF (c : Cm) (f : List Bs) (l : List Bs) : Bool := l.any fun s => decide (valOf c s ≠ 0) && !decide (s ∈ f)
def listsOk (c : Cm) : Bool := if c.k = 14 then decide (c.g.length ≤ 8) && decide (c.w.length ≤ 8) else decide (c.g.length + c.w.length = 0)
def checkL (c : Cm) : Int := if (fieldsOf c.k).length = 0 ∨ listsOk c = false ∨ badF c (fieldsOf c.k) nmL = true then 1 else 0
theorem numbers_nm : fields [119, 104, 111, 32, 97, 115, 32, 100, 105, 118, 32, 105, 100, 32, 116, 111, 32, 105, 110, 116, 111, 32, 112, 108, 97, 99, 101, 32, 100, 101, 115, 116, 32, 116, 121, 112, 101, 32, 110, 32, 112, 108, 101, 100, 103, 101, 32, 108, 97, 115, 116, 115, 32, 100, 97, 121, 115, 32, 114, 117, 110, 115, 32, 99, 111, 112, 105, 101, 115, 32, 114, 111, 108, 101, 115, 32, 109, 101, 32, 116, 101, 32, 98, 97, 121] = nmL := by decide +kernel
theorem fieldsOf_len (k : Int) : (fieldsOf k).length ≤ 11 ∧ ∀ s ∈ fieldsOf k, s.length ≤ 10 := by
 unfold fieldsOf
 split
 · exact ⟨by simp, by simp⟩
 · have h1 : fdL.all (fun l => Nat.ble l.length 11 && l.all fun s => Nat.ble s.length 10) = true := by decide +kernel
   cases he : fdL[(k - 1).toNat]? with
   | none => rw [List.getD, he]; exact ⟨by simp, by simp⟩
   | some l =>
     rw [List.getD, he]
     have := List.all_eq_true.1 h1 l (List.mem_of_getElem? he)
     rw [Bool.and_eq_true] at this
     exact ⟨Nat.le_of_ble_eq_true this.1, fun s hs => Nat.le_of_ble_eq_true (List.all_eq_true.1 this.2 s hs)⟩
theorem ccheck_S {c : Cm} (hn : c.n.length = 19) (hg : c.g.length ≤ 1000000) (hw : c.w.length ≤ 1000000) (k : Q (.i (checkL c)) []) : PRun Tryd.prog 10 [] [c.v] Q := by
 obtain ⟨ck, cn, cg, cw⟩ := c
 obtain ⟨a1, a2, a3, a4, a5, a6, a7, a8, a9, a10, a11, a12, a13, a14, a15, a16, a17, a18, a19, hc⟩ := list19 hn
 rw [show (Cm.mk ck cn cg cw).v = aV ck [a1, a2, a3, a4, a5, a6, a7, a8, a9, a10, a11, a12, a13, a14, a15, a16, a17, a18, a19] (cg.map eP) (cw.map eP) by rw [show cn = _ from hc]]
 refine S10 (cfields_S ?_)
 rw [post_L, List.length_map, List.length_map, List.length_map]
 have hf := (fieldsOf_len ck).1
 have fin : ∀ b2 : Bool, b2 = listsOk ⟨ck, cn, cg, cw⟩ → (bif ((fieldsOf ck).length : Int) == 0 then Q (.i 1) [] else (bif !b2 then Q (.i 1) [] else PRun Tryd.prog 30 [] [.u (.s (ByteArray.mk #[119, 104, 111, 32, 97, 115, 32, 100, 105, 118, 32, 105, 100, 32, 116, 111, 32, 105, 110, 116, 111, 32, 112, 108, 97, 99, 101, 32, 100, 101, 115, 116, 32, 116, 121, 112, 101, 32, 110, 32, 112, 108, 101, 100, 103, 101, 32, 108, 97, 115, 116, 115, 32, 100, 97, 121, 115, 32, 114, 117, 110, 115, 32, 99, 111, 112, 105, 101, 115, 32, 114, 111, 108, 101, 115, 32, 109, 101, 32, 116, 101, 32, 98, 97, 121]))] (post [.L 1] [] (fun l2 => ∃ (I1 : Int → Prop) (f1 : Int → Nat), I1 0 ∧ (∀ x1 : Int, I1 x1 → (bif decide (x1 < (List.length l2 : Int)) then elL l2 x1 (fun r1 => dS (ug r1 0) (fun s1 => chN s1.data.toList (fun j => (bif cn.getD j 0 != 0 then PRun Tryd.prog 32 [] [.l 1 ((fieldsOf ck).map eB), .u (.s s1)] (post [.B] [] (fun b3 => (bif !b3 then Q (.i 1) [] else I1 (IntKind.wrap .i64 (x1 + 1)) ∧ f1 (IntKind.wrap .i64 (x1 + 1)) < f1 x1 : Prop))) else I1 (IntKind.wrap .i64 (x1 + 1)) ∧ f1 (IntKind.wrap .i64 (x1 + 1)) < f1 x1)) False nmL 0)) else Q (.i 0) [])))))) := fun b2 hb => by
  unfold checkL at k
  refine cEq (fun e => ?_) fun e => ?_
  · rw [if_pos (.inl (by show (fieldsOf ck).length = 0; omega))] at k; exact k
  cases hl : b2 with
  | false => rw [if_pos (.inr (.inl (by rw [← hb, hl])))] at k; exact k
  | true =>
  rw [Bool.not_true, cond_false]
  refine sFields_S (by decide) (by decide +kernel) ?_
  rw [numbers_nm, post_L]
  have hnl : nmL.length = 19 := rfl
  refine ⟨AtI nmL fun t r => badF ⟨ck, cn, cg, cw⟩ (fieldsOf ck) nmL = badF ⟨ck, cn, cg, cw⟩ (fieldsOf ck) r, SufM nmL, .zero (by omega) rfl, ?_⟩
  rintro x ⟨t, _ | ⟨a, r⟩, p, h⟩
  · rw [p.d0, cond_false]
    rw [if_neg (by rw [← hb, hl, h]; rintro (h | h | h); exact e (by have : (fieldsOf ck).length = 0 := h; omega); cases h; cases h)] at k
    exact k
  · rw [p.d1, cond_true, p.el]
    simp only [ug0, dS_s]
    show chN a _ False nmL 0
    refine chN_of (fun j hj => ?_) fun hj => absurd (by rw [p.e]; simp) (posB_no.1 hj)
    have hv : valOf ⟨ck, cn, cg, cw⟩ a = cn.getD j 0 := by unfold valOf; rw [hj]
    have hbd : badF ⟨ck, cn, cg, cw⟩ (fieldsOf ck) (a :: r) = ((decide (cn.getD j 0 ≠ 0) && !decide (a ∈ fieldsOf ck)) || badF ⟨ck, cn, cg, cw⟩ (fieldsOf ck) r) := by
     rw [← hv]; rfl
    refine cNe (fun e1 => contains_S (by omega) ?_) fun e1 => ?_
    · rw [post_B]
      by_cases hm : a ∈ fieldsOf ck
      · rw [decide_eq_true hm, Bool.not_true, cond_false]
        exact p.step (by rw [h, hbd, decide_eq_true hm]; simp)
      · rw [decide_eq_false hm, Bool.not_false, cond_true]
        rw [if_pos (.inr (.inr (by rw [h, hbd, decide_eq_false hm, decide_eq_true e1]; rfl)))] at k
        exact k
    · exact p.step (by rw [h, hbd, decide_eq_false (fun hh => hh e1)]; rfl)
 have hg : cg.length ≤ 1000000 := hg
 have hw : cw.length ≤ 1000000 := hw
 intro k1 h1
 have key : ∀ b1, b1 = (decide (cg.length ≤ 8) && decide (cw.length ≤ 8)) → k1 b1 := fun b1 hb1 => h1 b1 fun k2 h2 => by
  rw [show cn = _ from hc] at fin
  refine cNe (fun e => h2 _ (fin _ ?_)) fun e => h2 _ (fin _ ?_)
  · unfold listsOk
    rw [if_neg e, w64 (by omega) (by omega), Bool.eq_iff_iff]
    simp only [beq_iff_eq, decide_eq_true_eq]; omega
  · unfold listsOk
    rw [if_pos e, hb1]
 refine cIf (fun e => key _ ?_) fun e => key _ ?_
 · rw [decide_eq_true (show cg.length ≤ 8 by omega), Bool.true_and, Bool.eq_iff_iff]
   simp only [decide_eq_true_eq]; omega
 · rw [decide_eq_false (show ¬ cg.length ≤ 8 by omega), Bool.false_and]
def givesB : Bs := [103, 105, 118, 101, 115]
def wantsB : Bs := [119, 97, 110, 116, 115]
def setV (c : Cm) (s : Bs) (n : Int) : Cm := match posB nmL s 0 with | some j => ⟨c.k, c.n.set j n, c.g, c.w⟩ | none => .zero
def fieldL (c : Cm) (name text : Bs) : Option Cm :=
 if c.k = 14 ∧ name = givesB then (stacksL text).map fun x => ⟨c.k, c.n, x, c.w⟩
 else if c.k = 14 ∧ name = wantsB then (stacksL text).map fun x => ⟨c.k, c.n, c.g, x⟩
 else match numL text with
  | none => none
  | some n => if name ∈ fieldsOf c.k then some (setV c name n) else none
theorem fd_nm : (fdL.all fun l => l.all fun s => (posB nmL s 0).isSome) = true := by decide +kernel
theorem fieldsOf_nm {k : Int} {s : Bs} (h : s ∈ fieldsOf k) : ∃ j, posB nmL s 0 = some j ∧ j < 19 := by
 have key : (posB nmL s 0).isSome = true := by
  unfold fieldsOf at h
  split at h
  · cases h
  · cases he : fdL[(k - 1).toNat]? with
    | none => rw [List.getD, he] at h; cases h
    | some l => rw [List.getD, he] at h; exact List.all_eq_true.1 (List.all_eq_true.1 fd_nm l (List.mem_of_getElem? he)) s h
 obtain ⟨j, hj⟩ := Option.isSome_iff_exists.1 key
 have := (posB_at hj).2
 have := (List.getElem?_eq_some_iff.1 this).1
 exact ⟨j, hj, by rw [show nmL.length = 19 from rfl] at this; omega⟩
theorem post_AB {m : Mem} {k : Int} {n : List Int} {g w : List (List U)} {b : Bool} (hn : n.length = 19) {F : Int → Int → Int → Int → Int → Int → Int → Int → Int → Int → Int → Int → Int → Int → Int → Int → Int → Int → Int → Int → List (List U) → List (List U) → Bool → Prop}
 (h : ∀ a1 a2 a3 a4 a5 a6 a7 a8 a9 a10 a11 a12 a13 a14 a15 a16 a17 a18 a19, n = [a1, a2, a3, a4, a5, a6, a7, a8, a9, a10, a11, a12, a13, a14, a15, a16, a17, a18, a19] → F k a1 a2 a3 a4 a5 a6 a7 a8 a9 a10 a11 a12 a13 a14 a15 a16 a17 a18 a19 g w b) :
 post [.agg [.i .i64, .i .i64, .i .i64, .i .i64, .i .i64, .i .i64, .i .i64, .i .i64, .i .i64, .i .i64, .i .i64, .i .i64, .i .i64, .i .i64, .i .i64, .i .i64, .i .i64, .i .i64, .i .i64, .i .i64, .l 2, .l 2], .B] [] F (.t [aV k n g w, .u (.b b)]) m := by
 obtain ⟨a1, a2, a3, a4, a5, a6, a7, a8, a9, a10, a11, a12, a13, a14, a15, a16, a17, a18, a19, rfl⟩ := list19 hn
 exact h _ _ _ _ _ _ _ _ _ _ _ _ _ _ _ _ _ _ _ rfl
theorem cfield_S {c : Cm} (hn : c.n.length = 19) (hg : c.g.length ≤ 1000000) (hw : c.w.length ≤ 1000000) {name text : Bs} (ht : text.length ≤ 900000)
 (k1 : ∀ d, fieldL c name text = some d → Q (.t [d.v, .u (.b true)]) []) (k0 : fieldL c name text = none → ∀ d : Cm, d.n.length = 19 → Q (.t [d.v, .u (.b false)]) []) : PRun Tryd.prog 25 [] [c.v, .u (.s (bA name)), .u (.s (bA text))] Q := by
 obtain ⟨ck, cn, cg, cw⟩ := c
 have hn : cn.length = 19 := hn
 obtain ⟨a1, a2, a3, a4, a5, a6, a7, a8, a9, a10, a11, a12, a13, a14, a15, a16, a17, a18, a19, hc⟩ := list19 hn
 have tail : ¬ (ck = 14 ∧ name = givesB) → ¬ (ck = 14 ∧ name = wantsB) → PRun Tryd.prog 9 [] [.u (.s (bA text))] (post [.I, .B] [] (fun x1 b3 => (bif !b3 then Q (.t [(Cm.mk ck cn cg cw).v, .u (.b false)]) [] else PRun Tryd.prog 12 [] [.i ck] (post [.L 1] [] (fun l3 => (PRun Tryd.prog 32 [] [.l 1 l3, .u (.s (bA name))] (post [.B] [] (fun b4 => (bif !b4 then Q (.t [(Cm.mk ck cn cg cw).v, .u (.b false)]) [] else PRun Tryd.prog 42 [] [(Cm.mk ck cn cg cw).v, .u (.s (bA name)), .i x1] (post [.agg [.i .i64, .i .i64, .i .i64, .i .i64, .i .i64, .i .i64, .i .i64, .i .i64, .i .i64, .i .i64, .i .i64, .i .i64, .i .i64, .i .i64, .i .i64, .i .i64, .i .i64, .i .i64, .i .i64, .i .i64, .l 2, .l 2], .B] [] (fun x2 x3 x4 x5 x6 x7 x8 x9 x10 x11 x12 x13 x14 x15 x16 x17 x18 x19 x20 x21 l4 l5 b5 => (Q (.t [.a [.i x2, .i x3, .i x4, .i x5, .i x6, .i x7, .i x8, .i x9, .i x10, .i x11, .i x12, .i x13, .i x14, .i x15, .i x16, .i x17, .i x18, .i x19, .i x20, .i x21, .l 2 l4, .l 2 l5], .u (.b b5)]) [] : Prop))) : Prop))) : Prop))) : Prop))) := fun hng hnw => by
  have e0 : fieldL ⟨ck, cn, cg, cw⟩ name text = match numL text with | none => none | some n => if name ∈ fieldsOf ck then some (setV ⟨ck, cn, cg, cw⟩ name n) else none := by
   unfold fieldL; rw [if_neg hng, if_neg hnw]
  refine number_S (by omega) (fun v hv => ?_) fun hv => ?_
  · rw [post_IB, Bool.not_true, cond_false]
    refine cfields_S ?_
    rw [post_L]
    have hfl := fieldsOf_len ck
    refine contains_S (by omega) ?_
    rw [post_B]
    rw [hv] at e0
    by_cases hm : name ∈ fieldsOf ck
    · rw [decide_eq_true hm, Bool.not_true, cond_false]
      simp only [if_pos hm] at e0
      obtain ⟨j, hj, hj19⟩ := fieldsOf_nm hm
      have e1 : setV ⟨ck, cn, cg, cw⟩ name v = ⟨ck, cn.set j v, cg, cw⟩ := by unfold setV; rw [hj]
      refine cset_S hn hg hw (fun j' hj' => ?_) fun h => by rw [hj] at h; cases h
      obtain rfl : j = j' := by rw [hj] at hj'; exact Option.some.inj hj'
      refine post_AB (by rw [List.length_set]; exact hn) fun a1 a2 a3 a4 a5 a6 a7 a8 a9 a10 a11 a12 a13 a14 a15 a16 a17 a18 a19 hs => ?_
      have := k1 _ e0
      rw [e1] at this
      show Q (.t [aV ck [a1, a2, a3, a4, a5, a6, a7, a8, a9, a10, a11, a12, a13, a14, a15, a16, a17, a18, a19] (cg.map eP) (cw.map eP), .u (.b true)]) []
      rw [← hs]; exact this
    · rw [decide_eq_false hm, Bool.not_false, cond_true]
      simp only [if_neg hm] at e0
      exact k0 e0 _ hn
  · rw [post_IB, Bool.not_false, cond_true]
    rw [hv] at e0
    exact k0 e0 _ hn
 have st1 : ∀ (b : Bool), ck = 14 → b = decide (name = givesB) → (b = false → name = wantsB) → PRun Tryd.prog 41 [] [.u (.s (bA text))] (post [.L 2, .B] [] (fun l1 b1 => (bif b then Q (.t [aV ck cn l1 (cw.map eP), .u (.b b1)]) [] else Q (.t [aV ck cn (cg.map eP) l1, .u (.b b1)]) [] : Prop))) := fun b h14 hb hb2 => by
  refine stacks_S ht ?_
  unfold stV
  rw [show ∀ (m : Mem) (x : List (List U)) (b : Bool) (F : List (List U) → Bool → Prop), post [.L 2, .B] [] F (.t [.l 2 x, .u (.b b)]) m = F x b from fun _ _ _ _ => rfl]
  cases b with
  | true =>
    have hng : name = givesB := of_decide_eq_true hb.symm
    rw [cond_true]
    cases hst : stacksL text with
    | some x => exact k1 _ (show fieldL ⟨ck, cn, cg, cw⟩ name text = some ⟨ck, cn, x, cw⟩ by unfold fieldL; rw [if_pos ⟨h14, hng⟩, hst]; rfl)
    | none => exact k0 (by unfold fieldL; rw [if_pos ⟨h14, hng⟩, hst]; rfl) ⟨ck, cn, [], cw⟩ hn
  | false =>
    have hng : ¬ name = givesB := of_decide_eq_false hb.symm
    have hw' := hb2 rfl
    rw [cond_false]
    cases hst : stacksL text with
    | some x => exact k1 _ (show fieldL ⟨ck, cn, cg, cw⟩ name text = some ⟨ck, cn, cg, x⟩ by unfold fieldL; rw [if_neg (fun h => hng h.2), if_pos ⟨h14, hw'⟩, hst]; rfl)
    | none => exact k0 (by unfold fieldL; rw [if_neg (fun h => hng h.2), if_pos ⟨h14, hw'⟩, hst]; rfl) ⟨ck, cn, cg, []⟩ hn
 rw [show (Cm.mk ck cn cg cw).v = aV ck [a1, a2, a3, a4, a5, a6, a7, a8, a9, a10, a11, a12, a13, a14, a15, a16, a17, a18, a19] (cg.map eP) (cw.map eP) by rw [show cn = _ from hc]]
 rw [show cn = _ from hc] at tail st1
 refine S25 (cEq (fun e => ?_) fun e => tail (fun h => e h.1) fun h => e h.1)
 rw [show ByteArray.mk #[103, 105, 118, 101, 115] = bA givesB from rfl, show ByteArray.mk #[119, 97, 110, 116, 115] = bA wantsB from rfl, bEq, bEq]
 refine cIf (fun e1 => ?_) fun e1 => cIf (fun e2 => ?_) fun e2 => tail (fun h => e1 h.2) fun h => e2 h.2
 · rw [decide_eq_true e1]; exact st1 true e (decide_eq_true e1).symm fun h => by cases h
 · rw [decide_eq_false e1]; exact st1 false e (decide_eq_false e1).symm fun _ => e2
end Go.Proofs.YtaogfopaalancaaDoor
/- Commands as lines: told, and read. -/
set_option linter.unusedVariables false
set_option maxRecDepth 100000
namespace Go.Proofs.YtaogfopaalancaaDoor
open Go Go.Proofs Go.Lib
variable {Q : V → Mem → Prop}
def stepL (c : Cm) (seen : List Bs) (w : Bs) : Option (Cm × List Bs) :=
 if (cutC 61 w).2.2 = false ∨ (cutC 61 w).1 ∈ seen then none else (fieldL c (cutC 61 w).1 (cutC 61 w).2.1).map fun d => (d, (cutC 61 w).1 :: seen)
def foldL : Cm → List Bs → List Bs → Option Cm
 | c, _, [] => some c
 | c, seen, w :: r => match stepL c seen w with
   | none => none
   | some st => foldL st.1 st.2 r
def parseW (l : Bs) : List Bs → Option Cm
 | [] => none
 | a :: r => if 1024 < l.length ∨ kindOf a = 0 then none else foldL ⟨kindOf a, List.replicate 19 0, [], []⟩ [] r
def parseL (l : Bs) : Option Cm := parseW l (wordsL l)
def prV (o : Option Cm) : V := match o with | some c => .t [c.v, .i 0] | none => .t [Cm.zero.v, .i 2]
structure CmOk (c : Cm) : Prop where
 n : c.n.length = 19
 g : c.g.length ≤ 8
 w : c.w.length ≤ 8
theorem stacksF_len : ∀ {l : List Bs} {x : List (Int × Int)}, stacksF l = some x → x.length = l.length
 | [], x, h => by cases h; rfl
 | p :: r, x, h => by
   rw [stacksF] at h
   split at h
   · rename_i a l e1 e2
     cases h
     rw [List.length_cons, stacksF_len e2, List.length_cons]
   · cases h
theorem stacksL_len {l : Bs} {x : List (Int × Int)} (h : stacksL l = some x) : x.length ≤ 8 := by
 unfold stacksL at h
 split at h
 · cases h
 · rw [stacksF_len h]; omega
theorem fieldL_ok {c d : Cm} {name text : Bs} (hc : CmOk c) (h : fieldL c name text = some d) : CmOk d ∧ d.k = c.k := by
 unfold fieldL at h
 split at h
 · obtain ⟨x, hx, rfl⟩ := Option.map_eq_some_iff.1 h
   exact ⟨⟨hc.n, stacksL_len hx, hc.w⟩, rfl⟩
 · split at h
   · obtain ⟨x, hx, rfl⟩ := Option.map_eq_some_iff.1 h
     exact ⟨⟨hc.n, hc.g, stacksL_len hx⟩, rfl⟩
   · split at h
     · cases h
     · split at h
       · rename_i n hn hm
         cases h
         obtain ⟨j, hj, -⟩ := fieldsOf_nm hm
         unfold setV
         rw [hj]
         exact ⟨⟨by rw [List.length_set]; exact hc.n, hc.g, hc.w⟩, rfl⟩
       · cases h
theorem rGet_set (k' : MK) : ∀ (m : List (MK × List U)) (k : MK) (v : List U), rGet (rSet m k v) k' = if k = k' then some v else rGet m k'
 | [], k, v => by rw [rSet, rGet]; rfl
 | p :: m, k, v => by
   rw [rSet]
   by_cases h : p.1 = k
   · rw [if_pos h, rGet, rGet]
     by_cases h2 : k = k'
     · rw [if_pos h2, if_pos h2]
     · rw [if_neg h2, if_neg h2, if_neg (by rw [h]; exact h2)]
   · rw [if_neg h, rGet, rGet, rGet_set k' m k v]
     by_cases h2 : p.1 = k'
     · rw [if_pos h2, if_pos h2, if_neg (fun e => h (h2.trans e.symm))]
     · rw [if_neg h2, if_neg h2]
theorem wordsL_len (l : Bs) : (wordsL l).length ≤ l.length + 1 ∧ ∀ w ∈ wordsL l, w.length ≤ l.length := by
 refine ⟨Nat.le_trans (List.length_filter_le _ _) (splitA_len 32 l []), fun w hw => ?_⟩
 have := splitA_el 32 l [] w (List.mem_filter.1 hw).1
 simpa using this
theorem cparse_S {l : Bs} (hl : l.length ≤ 900000) (k : Q (prV (parseL l)) []) : PRun Tryd.prog 7 [] [.u (.s (bA l))] Q := by
 refine S7 (words_S hl ?_)
 rw [post_L]
 have hz := bA_size l
 have hwl := wordsL_len l
 unfold parseL at k
 refine cIf (fun h => ?_) fun h1 => ?_
 · have : parseW l (wordsL l) = none := by
    cases wordsL l with
    | nil => rfl
    | cons a r => rw [parseW, if_pos (.inl (by omega))]
   rw [this] at k; exact k
 cases hw : wordsL l with
 | nil => rw [hw] at k; exact k
 | cons a r =>
 rw [hw] at k hwl
 rw [parseW] at k
 have hr1 : r.length + 1 ≤ l.length + 1 := by simpa using hwl.1
 rw [show (((List.map eB (a :: r)).length : Int) == 0) = false by rw [← Bool.not_eq_true]; simp; omega, cond_false]
 rw [elL_of (x := 0) (by omega) (show (List.map eB (a :: r))[Int.toNat 0]? = some (eB a) from rfl)]
 simp only [ug0, dS_s]
 refine ckind_S ?_
 rw [post_I]
 refine cEq (fun e => ?_) fun e => ?_
 · rw [if_pos (.inr e)] at k; exact k
 rw [if_neg (by omega)] at k
 refine ⟨by omega, by simp; omega, Int.le_refl _, ?_⟩
 rw [show List.drop 1 (List.take (List.map eB (a :: r)).length (List.map eB (a :: r))) = r.map eB by rw [List.take_length]; rfl]
 generalize hst : (foldL ⟨kindOf a, List.replicate 19 0, [], []⟩ [] r) = res at k
 refine ⟨fun x _ _ _ _ _ _ _ _ _ _ _ _ _ _ _ _ _ _ _ _ _ _ c0 c1 c2 c3 c4 c5 c6 c7 c8 c9 c10 c11 c12 c13 c14 c15 c16 c17 c18 c19 g w m => ∃ c seen, CmOk c ∧ c.k = c0 ∧ c.n = [c1, c2, c3, c4, c5, c6, c7, c8, c9, c10, c11, c12, c13, c14, c15, c16, c17, c18, c19] ∧ g = c.g.map eP ∧ w = c.w.map eP ∧ (∀ s, rGet m (.s (bA s)) = if s ∈ seen then some [.b true] else none) ∧ AtI r (fun _ q => foldL c seen q = res) x,
  fun x _ _ _ _ _ _ _ _ _ _ _ _ _ _ _ _ _ _ _ _ _ _ _ _ _ _ _ _ _ _ _ _ _ _ _ _ _ _ _ _ _ _ _ _ _ => SufM r x, ⟨⟨kindOf a, List.replicate 19 0, [], []⟩, [], ⟨rfl, by simp, by simp⟩, rfl, rfl, rfl, rfl, fun s => by simp [rGet], .zero (by omega) hst⟩, ?_⟩
 rintro x _ _ _ _ _ _ _ _ _ _ _ _ _ _ _ _ _ _ _ _ _ _ c0 c1 c2 c3 c4 c5 c6 c7 c8 c9 c10 c11 c12 c13 c14 c15 c16 c17 c18 c19 _ _ m ⟨c, seen, ok, hk, hn, rfl, rfl, hm, t, _ | ⟨b, q⟩, p, hq⟩
 · rw [p.d0, cond_false]
   rw [foldL] at hq
   rw [← hq] at k
   have e1 : c.v = aV c0 [c1, c2, c3, c4, c5, c6, c7, c8, c9, c10, c11, c12, c13, c14, c15, c16, c17, c18, c19] (c.g.map eP) (c.w.map eP) := by show aV c.k c.n _ _ = _; rw [hk, hn]
   show Q (.t [aV c0 [c1, c2, c3, c4, c5, c6, c7, c8, c9, c10, c11, c12, c13, c14, c15, c16, c17, c18, c19] (c.g.map eP) (c.w.map eP), .i 0]) []
   rw [← e1]; exact k
 · rw [p.d1, cond_true, p.el]
   simp only [ug0, dS_s]
   have hb : b.length ≤ l.length := hwl.2 b (by rw [show r = t ++ b :: q from p.e]; simp)
   refine sCut_S 61 (by omega) ?_
   rw [post_SSB]
   have hcl : (cutC 61 b).1.length ≤ b.length ∧ (cutC 61 b).2.1.length ≤ b.length := by simpa using cutA_len 61 b []
   rw [foldL] at hq
   have bad : stepL c seen b = none → Q (.t [Cm.zero.v, .i 2]) [] := fun h => by rw [h] at hq; rw [← hq] at k; exact k
   intro k1 hk1
   have e1 : c.v = aV c0 [c1, c2, c3, c4, c5, c6, c7, c8, c9, c10, c11, c12, c13, c14, c15, c16, c17, c18, c19] (c.g.map eP) (c.w.map eP) := by show aV c.k c.n _ _ = _; rw [hk, hn]
   have go : (cutC 61 b).2.2 = true → (cutC 61 b).1 ∉ seen → ∀ d0 d1 d2 d3 d4 d5 d6 d7 d8 d9 d10 d11 d12 d13 d14 d15 d16 d17 d18 d19 l6 l7, k1 d0 d1 d2 d3 d4 d5 d6 d7 d8 d9 d10 d11 d12 d13 d14 d15 d16 d17 d18 d19 l6 l7 := fun hf hs d0 d1 d2 d3 d4 d5 d6 d7 d8 d9 d10 d11 d12 d13 d14 d15 d16 d17 d18 d19 l6 l7 => hk1 _ _ _ _ _ _ _ _ _ _ _ _ _ _ _ _ _ _ _ _ _ _ (by
    show PRun Tryd.prog 25 [] [aV c0 [c1, c2, c3, c4, c5, c6, c7, c8, c9, c10, c11, c12, c13, c14, c15, c16, c17, c18, c19] (c.g.map eP) (c.w.map eP), _, _] _
    rw [← e1]
    refine cfield_S ok.n (by have := ok.g; omega) (by have := ok.w; omega) (by omega) (fun d hd => ?_) fun hd d hdn => ?_
    · obtain ⟨ok2, hk2⟩ := fieldL_ok ok hd
      refine post_AB ok2.n fun b1 b2 b3 b4 b5 b6 b7 b8 b9 b10 b11 b12 b13 b14 b15 b16 b17 b18 b19 hs' => ?_
      rw [Bool.not_true, cond_false]
      have hstep : stepL c seen b = some (d, (cutC 61 b).1 :: seen) := by
       unfold stepL
       rw [if_neg (by rw [hf]; rintro (h | h); cases h; exact hs h), hd]; rfl
      rw [hstep] at hq
      rw [p.suf.wr]
      refine ⟨⟨d, (cutC 61 b).1 :: seen, ok2, rfl, hs', rfl, rfl, fun s => ?_, t ++ [b], q, p.succ, hq⟩, p.suf.me⟩
      rw [rGet_set, hm]
      by_cases h1 : (cutC 61 b).1 = s
      · rw [if_pos (by rw [h1]), if_pos (by rw [h1]; simp)]
      · rw [if_neg (by intro h; injection h with h; exact h1 (bA_inj.1 h))]
        by_cases h2 : s ∈ seen
        · rw [if_pos h2, if_pos (by simp [h2])]
        · rw [if_neg h2, if_neg (by simp [h2, Ne.symm h1])]
    · refine post_AB hdn fun b1 b2 b3 b4 b5 b6 b7 b8 b9 b10 b11 b12 b13 b14 b15 b16 b17 b18 b19 hs' => ?_
      rw [Bool.not_false, cond_true]
      refine bad ?_
      unfold stepL
      rw [if_neg (by rw [hf]; rintro (h | h); cases h; exact hs h), hd]; rfl)
   cases hf : (cutC 61 b).2.2 with
   | false => exact bad (by unfold stepL; rw [if_pos (.inl hf)])
   | true =>
     rw [Bool.not_true, cond_false, hm]
     by_cases hs : (cutC 61 b).1 ∈ seen
     · rw [if_pos hs]
       exact bad (by unfold stepL; rw [if_pos (.inr hs)])
     · rw [if_neg hs]
       exact go hf hs _ _ _ _ _ _ _ _ _ _ _ _ _ _ _ _ _ _ _ _ _ _
end Go.Proofs.YtaogfopaalancaaDoor
/- A command's line. -/
set_option linter.unusedVariables false
set_option maxRecDepth 100000
namespace Go.Proofs.YtaogfopaalancaaDoor
open Go Go.Proofs Go.Lib
variable {Q : V → Mem → Prop}
abbrev inI (n : Int) : Prop := -9223372036854775808 ≤ n ∧ n ≤ 9223372036854775807
def stackT (x : Int × Int) : Bs := itoa x.1 ++ [120] ++ itoa x.2
def listL (s : List (Int × Int)) : Bs := join (s.map stackT) [44]
theorem itoa_len {n : Int} (h : inI n) : (itoa n).length ≤ 20 := by
 unfold itoa
 split
 · have := (dec_len (u := n.natAbs) (by omega)).2
   simp only [List.length_cons]; omega
 · have := (dec_len (u := n.toNat) (by omega)).2; omega
theorem stackT_len {x : Int × Int} (h : inI x.1 ∧ inI x.2) : (stackT x).length ≤ 41 := by
 have := itoa_len h.1; have := itoa_len h.2
 unfold stackT
 simp only [List.length_append, List.length_singleton]; omega
theorem jt_len : ∀ {s : List (Int × Int)}, (∀ x ∈ s, inI x.1 ∧ inI x.2) → (joinTail [44] (s.map stackT)).length ≤ s.length * 42
 | [], _ => by simp [joinTail]
 | x :: s, h => by
   have h1 := stackT_len (h x (by simp))
   have h2 := jt_len (s := s) fun y hy => h y (by simp [hy])
   have : joinTail [44] ((x :: s).map stackT) = [44] ++ stackT x ++ joinTail [44] (s.map stackT) := rfl
   rw [this]
   have : ([44] : Bs).length = 1 := rfl
   simp only [List.length_append, List.length_cons, List.length_nil]; omega
theorem list_len {s : List (Int × Int)} (h : ∀ x ∈ s, inI x.1 ∧ inI x.2) : (listL s).length ≤ s.length * 42 := by
 cases s with
 | nil => exact Nat.zero_le _
 | cons x s =>
   have h1 := stackT_len (h x (by simp))
   have h2 := jt_len (s := s) fun y hy => h y (by simp [hy])
   unfold listL
   rw [List.map_cons, join_cons, List.length_append, List.length_cons]; omega
theorem clist_S {s : List (Int × Int)} (hs : s.length ≤ 1000000) (h64 : ∀ x ∈ s, inI x.1 ∧ inI x.2) (k : Q (.u (.s (bA (listL s)))) []) : PRun Tryd.prog 15 [] [.l 2 (s.map eP)] Q := by
 refine S15 ⟨fun o x => ∃ t r, At s x t r ∧ o = (t.map stackT).map eB, fun _ => SufM s, ⟨[], s, .zero (by omega), rfl⟩, ?_⟩
 rintro _ x ⟨t, _ | ⟨a, r⟩, p, rfl⟩
 · rw [p.d0, cond_false]
   have e : t = s := p.all
   subst e
   have := list_len h64
   refine sJoin_S (by rw [List.length_map]; exact hs) (by show (listL t).length ≤ _; omega) ?_
   exact k
 · rw [p.d1, cond_true, p.el]
   simp only [ug0, ugs, dI_n]
   have ha := h64 a (by rw [p.e]; simp)
   refine itoa_S ha.1.1 ha.1.2 ?_
   rw [post_S]
   have h1 := itoa_len ha.1
   have h2 := itoa_len ha.2
   rw [show ByteArray.mk #[120] = bA [120] from rfl, bA_size, bA_size]
   refine ⟨by rw [List.length_singleton]; omega, itoa_S ha.2.1 ha.2.2 ?_⟩
   rw [post_S, bA_app, bA_app, bA_size, bA_size]
   have ht : t.length + 1 ≤ s.length := by rw [p.e]; simp
   refine ⟨by rw [List.length_append, List.length_singleton]; omega, by simp [apOk]; omega, ?_⟩
   rw [p.suf.wr]
   exact ⟨⟨t ++ [a], r, p.succ, by rw [List.map_append, List.map_append]; rfl⟩, p.suf.me⟩
def lineF (c : Cm) : Bs → List Bs → Bs
 | s, [] => s
 | s, f :: r => lineF c (if valOf c f = 0 then s else s ++ ([32] ++ f ++ [61] ++ itoa (valOf c f))) r
def lineS (p : Bs) (x : List (Int × Int)) (s : Bs) : Bs := if 0 < x.length then s ++ (p ++ listL x) else s
def sGives : Bs := [32, 103, 105, 118, 101, 115, 61]
def sWants : Bs := [32, 119, 97, 110, 116, 115, 61]
def lineT (c : Cm) : Bs := lineS sWants c.w (lineS sGives c.g (lineF c (nameOf c.k) (fieldsOf c.k)))
def lnV (c : Cm) : V := if checkL c = 0 then .t [.u (.s (bA (lineT c))), .i 0] else .t [.u (.s (bA [])), .i (checkL c)]
structure Cm64 (c : Cm) : Prop where
 n : ∀ x ∈ c.n, inI x
 g : ∀ x ∈ c.g, inI x.1 ∧ inI x.2
 w : ∀ x ∈ c.w, inI x.1 ∧ inI x.2
theorem name_len (k : Int) : (nameOf k).length ≤ 10 := by
 unfold nameOf
 split
 · simp
 · have : ∀ i : Nat, i < 25 → (wdL.getD i []).length ≤ 10 := by decide +kernel
   by_cases h : (k - 1).toNat < 25
   · exact this _ h
   · omega
theorem val64 {c : Cm} (h : Cm64 c) (f : Bs) : inI (valOf c f) := by
 unfold valOf
 split
 · rename_i j _
   rw [List.getD]
   cases e : c.n[j]? with
   | none => exact ⟨by decide, by decide⟩
   | some v => exact h.n v (List.mem_of_getElem? e)
 · exact ⟨by decide, by decide⟩
theorem check_lists {c : Cm} (h : checkL c = 0) : c.g.length ≤ 8 ∧ c.w.length ≤ 8 := by
 unfold checkL at h
 split at h
 · cases h
 · rename_i hh
   have hl : listsOk c = true := by
    cases e : listsOk c with
    | true => rfl
    | false => exact absurd (.inr (.inl e)) hh
   unfold listsOk at hl
   split at hl
   · simpa using hl
   · simp only [decide_eq_true_eq] at hl; omega
theorem cline_S {c : Cm} (hn : c.n.length = 19) (hg : c.g.length ≤ 1000000) (hw : c.w.length ≤ 1000000) (h64 : Cm64 c) (k : Q (lnV c) []) : PRun Tryd.prog 5 [] [c.v] Q := by
 obtain ⟨ck, cn, cg, cw⟩ := c
 obtain ⟨a1, a2, a3, a4, a5, a6, a7, a8, a9, a10, a11, a12, a13, a14, a15, a16, a17, a18, a19, hc⟩ := list19 hn
 rw [show (Cm.mk ck cn cg cw).v = aV ck [a1, a2, a3, a4, a5, a6, a7, a8, a9, a10, a11, a12, a13, a14, a15, a16, a17, a18, a19] (cg.map eP) (cw.map eP) by rw [show cn = _ from hc]]
 have hv : aV ck [a1, a2, a3, a4, a5, a6, a7, a8, a9, a10, a11, a12, a13, a14, a15, a16, a17, a18, a19] (cg.map eP) (cw.map eP) = (Cm.mk ck cn cg cw).v := by rw [show cn = _ from hc]
 refine S5 (show PRun Tryd.prog 10 [] [aV ck [a1, a2, a3, a4, a5, a6, a7, a8, a9, a10, a11, a12, a13, a14, a15, a16, a17, a18, a19] (cg.map eP) (cw.map eP)] _ from ?_)
 rw [hv]
 refine ccheck_S hn hg hw ?_
 rw [post_I]
 refine cNe (fun e => ?_) fun e => ?_
 · unfold lnV at k; rw [if_neg e] at k; exact k
 have hl := check_lists e
 unfold lnV at k
 rw [if_pos e] at k
 refine cname_S ?_
 rw [post_S]
 refine cfields_S ?_
 rw [post_L]
 have hf := fieldsOf_len ck
 have hnm := name_len ck
 have hcg : (listL cg).length ≤ 336 := Nat.le_trans (list_len h64.g) (Nat.mul_le_mul_right 42 hl.1)
 have hcw : (listL cw).length ≤ 336 := Nat.le_trans (list_len h64.w) (Nat.mul_le_mul_right 42 hl.2)
 refine ⟨fun s x => ∃ t r b, At (fieldsOf ck) x t r ∧ s = bA b ∧ b.length ≤ 10 + t.length * 32 ∧ lineF ⟨ck, cn, cg, cw⟩ b r = lineF ⟨ck, cn, cg, cw⟩ (nameOf ck) (fieldsOf ck), fun _ => SufM (fieldsOf ck), ⟨[], _, _, .zero (by omega), rfl, by simpa using hnm, rfl⟩, ?_⟩
 rintro _ x ⟨t, _ | ⟨a, r⟩, b, p, rfl, hb, h⟩
 · rw [p.d0, cond_false, List.length_map, List.length_map]
   have ht : t = fieldsOf ck := p.all
   have hb2 : b.length ≤ 400 := by rw [ht] at hb; have := hf.1; omega
   rw [lineF] at h
   unfold lineT at k
   have k : Q (.t [.u (.s (bA (lineS sWants cw (lineS sGives cg b)))), .i 0]) [] := by rw [h]; exact k
   rw [show ByteArray.mk #[32, 103, 105, 118, 101, 115, 61] = bA sGives from rfl, show ByteArray.mk #[32, 119, 97, 110, 116, 115, 61] = bA sWants from rfl]
   have z1 : sGives.length = 7 := rfl
   have z2 : sWants.length = 7 := rfl
   refine cIf (fun h1 => ?_) fun h1 => ?_
   · refine clist_S (by have := hl.1; omega) h64.g ?_
     rw [post_S, bA_app, bA_app, bA_size, bA_size, bA_size, bA_size]
     rw [lineS.eq_1 sGives, if_pos (by omega)] at k
     refine ⟨by omega, by rw [List.length_append]; omega, cIf (fun h2 => ?_) fun h2 => ?_⟩
     · refine clist_S (by have := hl.2; omega) h64.w ?_
       rw [post_S, bA_app, bA_app, bA_size, bA_size, bA_size, bA_size]
       rw [lineS, if_pos (by omega)] at k
       exact ⟨by omega, by simp only [List.length_append]; omega, k⟩
     · rw [lineS, if_neg (by omega)] at k
       exact k
   · rw [lineS.eq_1 sGives, if_neg (by omega)] at k
     refine cIf (fun h2 => ?_) fun h2 => ?_
     · refine clist_S (by have := hl.2; omega) h64.w ?_
       rw [post_S, bA_app, bA_app, bA_size, bA_size, bA_size, bA_size]
       rw [lineS, if_pos (by omega)] at k
       exact ⟨by omega, by simp only [List.length_append]; omega, k⟩
     · rw [lineS, if_neg (by omega)] at k
       exact k
 · rw [p.d1, cond_true, p.el]
   simp only [ug0, dS_s]
   rw [lineF] at h
   have hv64 := val64 h64 a
   have ht : t.length + 1 ≤ (fieldsOf ck).length := by rw [p.e]; simp
   have hal := hf.2 a (by rw [p.e]; simp)
   have go : ∀ v f, v = valOf ⟨ck, cn, cg, cw⟩ a → (post [.I, .B] [] (fun x3 b1 => (bif x3 != 0 then ByteArray.size (ByteArray.mk #[32]) + ByteArray.size (bA a) < 9223372036854775808 ∧ (ByteArray.size (ByteArray.mk #[32] ++ bA a) + ByteArray.size (ByteArray.mk #[61]) < 9223372036854775808 ∧ (PRun Tryd.prog 14 [] [.i x3] (post [.S] [] (fun s4 => (ByteArray.size (ByteArray.mk #[32] ++ bA a ++ ByteArray.mk #[61]) + ByteArray.size s4 < 9223372036854775808 ∧ (ByteArray.size (bA b) + ByteArray.size (ByteArray.mk #[32] ++ bA a ++ ByteArray.mk #[61] ++ s4) < 9223372036854775808 ∧ ((∃ t r b', At (fieldsOf ck) (IntKind.wrap .i64 (x + 1)) t r ∧ bA b ++ (ByteArray.mk #[32] ++ bA a ++ ByteArray.mk #[61] ++ s4) = bA b' ∧ b'.length ≤ 10 + t.length * 32 ∧ lineF ⟨ck, cn, cg, cw⟩ b' r = lineF ⟨ck, cn, cg, cw⟩ (nameOf ck) (fieldsOf ck)) ∧ SufM (fieldsOf ck) (IntKind.wrap .i64 (x + 1)) < SufM (fieldsOf ck) x)) : Prop))))) else (∃ t r b', At (fieldsOf ck) (IntKind.wrap .i64 (x + 1)) t r ∧ bA b = bA b' ∧ b'.length ≤ 10 + t.length * 32 ∧ lineF ⟨ck, cn, cg, cw⟩ b' r = lineF ⟨ck, cn, cg, cw⟩ (nameOf ck) (fieldsOf ck)) ∧ SufM (fieldsOf ck) (IntKind.wrap .i64 (x + 1)) < SufM (fieldsOf ck) x : Prop))) (.t [.i v, .u (.b f)]) [] := by
    rintro v f rfl
    rw [post_IB]
    refine cNe (fun e1 => ?_) fun e1 => ?_
    · rw [if_neg e1] at h
      rw [show ByteArray.mk #[32] = bA [32] from rfl, show ByteArray.mk #[61] = bA [61] from rfl, bA_app, bA_app, bA_size, bA_size, bA_size, bA_size]
      refine ⟨by rw [List.length_singleton]; omega, by simp only [List.length_append, List.length_singleton]; omega, itoa_S hv64.1 hv64.2 ?_⟩
      have := itoa_len hv64
      rw [post_S, bA_app, bA_app, bA_size, bA_size, bA_size, bA_size]
      have hf1 := hf.1
      refine ⟨by simp only [List.length_append, List.length_singleton]; omega, by simp only [List.length_append, List.length_singleton]; omega, ?_⟩
      rw [p.suf.wr]
      exact ⟨⟨t ++ [a], r, _, p.succ, rfl, by simp only [List.length_append, List.length_singleton]; omega, h⟩, p.suf.me⟩
    · rw [if_pos e1] at h
      rw [p.suf.wr]
      exact ⟨⟨t ++ [a], r, _, p.succ, rfl, by simp only [List.length_append, List.length_singleton]; omega, h⟩, p.suf.me⟩
   show PRun Tryd.prog 13 [] [aV ck [a1, a2, a3, a4, a5, a6, a7, a8, a9, a10, a11, a12, a13, a14, a15, a16, a17, a18, a19] (cg.map eP) (cw.map eP), _] _
   rw [hv]
   refine cget_S hn (fun j hj => go _ _ (by unfold valOf; rw [hj])) fun hj => go _ _ (by unfold valOf; rw [hj])
end Go.Proofs.YtaogfopaalancaaDoor
/- A command's line tells the command. -/
set_option linter.unusedVariables false
set_option maxRecDepth 100000
namespace Go.Proofs.YtaogfopaalancaaDoor
open Go Go.Proofs Go.Lib
theorem dec_mem (u : Nat) : ∀ b ∈ decDigits u, 48 ≤ b.toNat ∧ b.toNat ≤ 57 := by
 induction u using Nat.strongRecOn with
 | _ u ih =>
   intro b hb
   by_cases h : u < 10
   · rw [decDigits_one h] at hb
     obtain rfl := List.mem_singleton.1 hb
     rw [toNat_dig h]; omega
   · rw [decDigits, dif_neg h] at hb
     rcases List.mem_append.1 hb with hb | hb
     · exact ih _ (by omega) b hb
     · obtain rfl := List.mem_singleton.1 hb
       have := Nat.mod_lt u (show 0 < 10 by decide)
       rw [toNat_dig this]; omega
theorem itoa_no {n : Int} {c : UInt8} (h : c.toNat < 45 ∨ 57 < c.toNat) : c ∉ itoa n := by
 have key : ∀ u, c ∉ decDigits u := fun u hc => by have := dec_mem u c hc; omega
 unfold itoa
 split
 · intro hc
   rcases List.mem_cons.1 hc with e | e
   · rw [e] at h; exact absurd h (by decide)
   · exact key _ e
 · exact key _
theorem cut_app {c : UInt8} : ∀ (u v p : Bs), c ∉ u → cutA c p (u ++ c :: v) = (p ++ u, v, true)
 | [], v, p, _ => by rw [List.nil_append, cutA, if_pos rfl, List.append_nil]
 | b :: u, v, p, h => by
   rw [List.cons_append, cutA, if_neg (fun e => h (by simp [e])), cut_app u v _ fun hm => h (by simp [hm])]
   simp
theorem stack_rt {x : Int × Int} (h : inI x.1 ∧ inI x.2) : stackL (stackT x) = some x := by
 unfold stackL stackT
 rw [List.append_assoc, List.singleton_append, cutC, cut_app _ _ _ (itoa_no (.inr (by decide)))]
 simp only [List.nil_append]
 rw [numL_itoa h.1.1 h.1.2, numL_itoa h.2.1 h.2.2]
theorem split_join {c : UInt8} : ∀ (r : List Bs) (x p : Bs), c ∉ x → (∀ y ∈ r, c ∉ y) → splitA c p (x ++ joinTail [c] r) = (p ++ x) :: r
 | [], x, p, h, _ => by rw [show joinTail [c] [] = [] from rfl, List.append_nil, splitA_all c x p h]
 | y :: r, x, p, h, hr => by
   have e : joinTail [c] (y :: r) = c :: (y ++ joinTail [c] r) := rfl
   rw [e, splitA_app c x _ p h, split_join r y [] (hr y (by simp)) fun z hz => hr z (by simp [hz])]
   rfl
theorem stacksF_rt : ∀ {s : List (Int × Int)}, (∀ x ∈ s, inI x.1 ∧ inI x.2) → stacksF (s.map stackT) = some s
 | [], _ => rfl
 | x :: s, h => by
   rw [List.map_cons, stacksF, stack_rt (h x (by simp)), stacksF_rt fun y hy => h y (by simp [hy])]
theorem stackT_no {x : Int × Int} {c : UInt8} (h : c.toNat < 45 ∨ 120 < c.toNat ∨ 57 < c.toNat ∧ c.toNat < 120) : c ∉ stackT x := by
 unfold stackT
 intro hc
 rcases List.mem_append.1 hc with hc | hc
 · rcases List.mem_append.1 hc with hc | hc
   · exact itoa_no (by omega) hc
   · obtain rfl := List.mem_singleton.1 hc
     exact absurd h (by decide)
 · exact itoa_no (by omega) hc
theorem stacks_rt {s : List (Int × Int)} (hs : 0 < s.length) (h8 : s.length ≤ 8) (h : ∀ x ∈ s, inI x.1 ∧ inI x.2) : stacksL (listL s) = some s := by
 cases s with
 | nil => cases hs
 | cons x s =>
   have e : splitC 44 (listL (x :: s)) = (x :: s).map stackT := by
    unfold listL
    rw [List.map_cons, join_cons, splitC, split_join _ _ _ (stackT_no (.inl (by decide))) fun y hy => ?_]
    · rfl
    · obtain ⟨z, _, rfl⟩ := List.mem_map.1 hy
      exact stackT_no (.inl (by decide))
   unfold stacksL
   rw [e, if_neg (by rw [List.length_map]; omega), stacksF_rt h]
theorem listL_no {s : List (Int × Int)} : (32 : UInt8) ∉ listL s := by
 have key : ∀ s : List (Int × Int), (32 : UInt8) ∉ joinTail [44] (s.map stackT) := by
  intro s
  induction s with
  | nil => simp [joinTail]
  | cons x s ih =>
    have e : joinTail [44] ((x :: s).map stackT) = 44 :: (stackT x ++ joinTail [44] (s.map stackT)) := rfl
    rw [e]
    intro h
    rcases List.mem_cons.1 h with h | h
    · exact absurd h (by decide)
    · rcases List.mem_append.1 h with h | h
      · exact stackT_no (.inl (by decide)) h
      · exact ih h
 cases s with
 | nil => simp [listL, join_nil]
 | cons x s =>
   unfold listL
   rw [List.map_cons, join_cons]
   intro h
   rcases List.mem_append.1 h with h | h
   · exact stackT_no (.inl (by decide)) h
   · exact key s h
def glue (ws : List Bs) : Bs := (ws.map (32 :: ·)).flatten
theorem glue_cons (w : Bs) (ws : List Bs) : glue (w :: ws) = 32 :: (w ++ glue ws) := rfl
theorem glue_app (a b : List Bs) : glue (a ++ b) = glue a ++ glue b := by unfold glue; simp
theorem words_glue : ∀ (ws : List Bs) (u : Bs), u ≠ [] → (32 : UInt8) ∉ u → (∀ w ∈ ws, w ≠ [] ∧ (32 : UInt8) ∉ w) → wordsL (u ++ glue ws) = u :: ws
 | [], u, h1, h2, _ => by rw [show glue [] = [] from rfl, List.append_nil, words_all h2, if_neg h1]
 | w :: ws, u, h1, h2, h => by
   have hw := h w (by simp)
   rw [glue_cons, words_app h2, if_neg h1, words_glue ws w hw.1 hw.2 fun z hz => h z (by simp [hz])]
   rfl
def wsF (c : Cm) : List Bs → List Bs
 | [] => []
 | f :: r => if valOf c f = 0 then wsF c r else (f ++ 61 :: itoa (valOf c f)) :: wsF c r
def wsL (p : Bs) (x : List (Int × Int)) : List Bs := if 0 < x.length then [p ++ 61 :: listL x] else []
def wsC (c : Cm) : List Bs := wsF c (fieldsOf c.k) ++ (wsL givesB c.g ++ wsL wantsB c.w)
theorem lineF_eq (c : Cm) : ∀ (r : List Bs) (s : Bs), lineF c s r = s ++ glue (wsF c r)
 | [], s => by rw [lineF, wsF, show glue [] = [] from rfl, List.append_nil]
 | f :: r, s => by
   rw [lineF, wsF, lineF_eq c r]
   split
   · rfl
   · rw [glue_cons]; simp
theorem lineS_eq {p : Bs} (x : List (Int × Int)) (s : Bs) : lineS (32 :: (p ++ [61])) x s = s ++ glue (wsL p x) := by
 unfold lineS wsL
 split
 · rw [glue_cons, show glue [] = [] from rfl]; simp
 · rw [show glue [] = [] from rfl, List.append_nil]
theorem lineT_eq (c : Cm) : lineT c = nameOf c.k ++ glue (wsC c) := by
 unfold lineT wsC
 rw [show sWants = 32 :: (wantsB ++ [61]) from rfl, show sGives = 32 :: (givesB ++ [61]) from rfl, lineS_eq, lineS_eq, lineF_eq, glue_app, glue_app]
 simp
theorem no_of {l : Bs} {b : UInt8} (h : l.contains b = false) : b ∉ l := fun hm => by rw [List.contains_iff_mem.2 hm] at h; cases h
theorem nm_ok : (nmL.all fun f => !f.isEmpty && !f.contains 32 && !f.contains 61 && !(f == givesB) && !(f == wantsB)) = true := by decide +kernel
theorem posB_mem {s : Bs} {j : Nat} (h : posB nmL s 0 = some j) : s ∈ nmL := List.mem_of_getElem? (posB_at h).2
theorem nm_of {f : Bs} (h : f ∈ nmL) : f ≠ [] ∧ (32 : UInt8) ∉ f ∧ (61 : UInt8) ∉ f ∧ f ≠ givesB ∧ f ≠ wantsB := by
 have := List.all_eq_true.1 nm_ok f h
 simp only [Bool.and_eq_true, Bool.not_eq_true', beq_eq_false_iff_ne, List.isEmpty_eq_false_iff] at this
 obtain ⟨⟨⟨⟨h1, h2⟩, h3⟩, h4⟩, h5⟩ := this
 exact ⟨h1, no_of h2, no_of h3, h4, h5⟩
theorem fields_nm {k : Int} {f : Bs} (h : f ∈ fieldsOf k) : f ∈ nmL := let ⟨_, hj, _⟩ := fieldsOf_nm h; posB_mem hj
theorem fd_nodup : (fdL.all fun l => decide l.Nodup) = true := by decide +kernel
theorem fields_nodup (k : Int) : (fieldsOf k).Nodup := by
 unfold fieldsOf
 split
 · exact List.nodup_nil
 · cases he : fdL[(k - 1).toNat]? with
   | none => rw [List.getD, he]; exact List.nodup_nil
   | some l =>
     rw [List.getD, he]
     simpa using List.all_eq_true.1 fd_nodup l (List.mem_of_getElem? he)
theorem kind_ok : ((List.range 25).all fun i => decide (kindOf (wdL.getD i []) = (i : Int) + 1) && !(wdL.getD i []).isEmpty && !(wdL.getD i []).contains 32) = true := by decide +kernel
theorem kind_nm {k : Int} (h : (fieldsOf k).length ≠ 0) : kindOf (nameOf k) = k ∧ nameOf k ≠ [] ∧ (32 : UInt8) ∉ nameOf k ∧ k ≠ 0 := by
 unfold fieldsOf at h
 split at h
 · exact absurd rfl h
 · rename_i hk
   unfold nameOf
   rw [if_neg hk]
   have := List.all_eq_true.1 kind_ok (k - 1).toNat (List.mem_range.2 (by omega))
   simp only [Bool.and_eq_true, Bool.not_eq_true', List.isEmpty_eq_false_iff, decide_eq_true_eq] at this
   exact ⟨by rw [this.1.1]; omega, this.1.2, no_of this.2, by omega⟩
theorem nm_pos : ((List.range 19).all fun i => decide (posB nmL (nmL.getD i []) 0 = some i)) = true := by decide +kernel
theorem nm_at {i : Nat} (h : i < 19) : posB nmL (nmL.getD i []) 0 = some i := by simpa using List.all_eq_true.1 nm_pos i (List.mem_range.2 h)
theorem posB_get {f : Bs} {j : Nat} (h : posB nmL f 0 = some j) : j < 19 ∧ nmL.getD j [] = f := by
 have h1 := (posB_at h).2
 have h2 := (List.getElem?_eq_some_iff.1 h1).1
 exact ⟨h2, by rw [List.getD, show nmL[j]? = some f from h1]; rfl⟩
def mask (c : Cm) (t : List Bs) : List Int := (List.range 19).map fun j => if nmL.getD j [] ∈ t then c.n.getD j 0 else 0
theorem mask_len (c : Cm) (t : List Bs) : (mask c t).length = 19 := by unfold mask; simp
theorem mask_get (c : Cm) (t : List Bs) {j : Nat} (h : j < 19) : (mask c t)[j]? = some (if nmL.getD j [] ∈ t then c.n.getD j 0 else 0) := by
 unfold mask
 rw [List.getElem?_map, List.getElem?_range h]; rfl
theorem mask_set {c : Cm} {t : List Bs} {f : Bs} {j : Nat} (h : posB nmL f 0 = some j) : (mask c t).set j (c.n.getD j 0) = mask c (t ++ [f]) := by
 obtain ⟨hj, hf⟩ := posB_get h
 apply List.ext_getElem?
 intro i
 by_cases hi : i < 19
 · rw [mask_get c _ hi, List.getElem?_set]
   by_cases e : j = i
   · subst e
     rw [if_pos rfl, if_pos (by rw [mask_len]; exact hj), if_pos (by rw [hf]; simp)]
   · rw [if_neg e, mask_get c t hi]
     have : nmL.getD i [] ≠ f := fun hh => e (by have := nm_at hi; rw [hh, h] at this; exact Option.some.inj this)
     have hiff : nmL.getD i [] ∈ t ++ [f] ↔ nmL.getD i [] ∈ t := by rw [List.mem_append, List.mem_singleton]; exact ⟨fun h => h.resolve_right this, .inl⟩
     simp only [hiff]
 · rw [List.getElem?_eq_none (by rw [List.length_set, mask_len]; omega), List.getElem?_eq_none (by rw [mask_len]; omega)]
theorem mask_skip {c : Cm} {t : List Bs} {f : Bs} (h : valOf c f = 0) (hf : f ∈ nmL) : mask c (t ++ [f]) = mask c t := by
 unfold mask
 apply List.map_congr_left
 intro i hi
 have hi : i < 19 := List.mem_range.1 hi
 by_cases e : nmL.getD i [] = f
 · have : c.n.getD i 0 = 0 := by
    unfold valOf at h
    rw [← e, nm_at hi] at h; exact h
   rw [this]; simp
 · have hiff : nmL.getD i [] ∈ t ++ [f] ↔ nmL.getD i [] ∈ t := by rw [List.mem_append, List.mem_singleton]; exact ⟨fun h => h.resolve_right e, .inl⟩
   simp only [hiff]
theorem fold_fields {c : Cm} (h64 : Cm64 c) (rest : List Bs) : ∀ (r t seen : List Bs), t ++ r = fieldsOf c.k → (∀ s ∈ seen, s ∈ t) →
 ∃ seen', (∀ s ∈ seen', s ∈ fieldsOf c.k) ∧ foldL ⟨c.k, mask c t, [], []⟩ seen (wsF c r ++ rest) = foldL ⟨c.k, mask c (fieldsOf c.k), [], []⟩ seen' rest
 | [], t, seen, ht, hs => ⟨seen, fun s h => by rw [← ht]; simpa using hs s h, by rw [wsF, List.nil_append, ← ht, List.append_nil]⟩
 | f :: r, t, seen, ht, hs => by
   have hf : f ∈ fieldsOf c.k := by rw [← ht]; simp
   have hm := fields_nm hf
   by_cases hv : valOf c f = 0
   · obtain ⟨seen', h1, h2⟩ := fold_fields h64 rest r (t ++ [f]) seen (by rw [← ht]; simp) fun s h => by simp [hs s h]
     exact ⟨seen', h1, by rw [wsF, if_pos hv, ← h2, mask_skip hv hm]⟩
   · obtain ⟨j, hj, -⟩ := fieldsOf_nm hf
     obtain ⟨-, -, h61, hg, hw⟩ := nm_of hm
     have hnot : f ∉ t := by
      have := fields_nodup c.k
      rw [← ht, List.nodup_append] at this
      exact fun h => this.2.2 f h f (by simp) rfl
     obtain ⟨seen', h1, h2⟩ := fold_fields h64 rest r (t ++ [f]) (f :: seen) (by rw [← ht]; simp) fun s h => by
      rcases List.mem_cons.1 h with h | h
      · simp [h]
      · simp [hs s h]
     refine ⟨seen', h1, ?_⟩
     have hval : valOf c f = c.n.getD j 0 := by unfold valOf; rw [hj]
     have hstep : stepL ⟨c.k, mask c t, [], []⟩ seen (f ++ 61 :: itoa (valOf c f)) = some (⟨c.k, mask c (t ++ [f]), [], []⟩, f :: seen) := by
      unfold stepL
      rw [cutC, cut_app f _ [] h61]
      simp only [List.nil_append]
      rw [if_neg (by rintro (h | h); cases h; exact hnot (hs f h))]
      unfold fieldL
      rw [if_neg (fun h => hg h.2), if_neg (fun h => hw h.2), numL_itoa (val64 h64 f).1 (val64 h64 f).2]
      simp only
      rw [if_pos hf]
      unfold setV
      rw [hj, hval, ← mask_set hj]
      rfl
     rw [wsF, if_neg hv, List.cons_append, foldL, hstep, ← h2]
theorem mask_all {c : Cm} (hn : c.n.length = 19) (h : badF c (fieldsOf c.k) nmL = false) : mask c (fieldsOf c.k) = c.n := by
 apply List.ext_getElem?
 intro i
 by_cases hi : i < 19
 · rw [mask_get c _ hi]
   have e : c.n[i]? = some (c.n.getD i 0) := by
    rw [List.getD, List.getElem?_eq_getElem (by omega)]; rfl
   rw [e]
   split
   · rfl
   · rename_i hm
     by_cases hz : c.n.getD i 0 = 0
     · rw [hz]
     · have : badF c (fieldsOf c.k) nmL = true := by
        unfold badF
        rw [List.any_eq_true]
        have hin : nmL.getD i [] ∈ nmL := posB_mem (nm_at hi)
        refine ⟨_, hin, ?_⟩
        have hv : valOf c (nmL.getD i []) = c.n.getD i 0 := by unfold valOf; rw [nm_at hi]
        rw [hv, decide_eq_true hz, decide_eq_false hm]; rfl
       rw [h] at this; cases this
 · rw [List.getElem?_eq_none (by rw [mask_len]; omega), List.getElem?_eq_none (by omega)]
theorem check_parts {c : Cm} (h : checkL c = 0) : (fieldsOf c.k).length ≠ 0 ∧ listsOk c = true ∧ badF c (fieldsOf c.k) nmL = false := by
 unfold checkL at h
 split at h
 · cases h
 · rename_i hh
   refine ⟨fun e => hh (.inl e), ?_, ?_⟩
   · cases e : listsOk c with
     | true => rfl
     | false => exact absurd (.inr (.inl e)) hh
   · cases e : badF c (fieldsOf c.k) nmL with
     | false => rfl
     | true => exact absurd (.inr (.inr e)) hh
theorem k14 {c : Cm} (h : listsOk c = true) : c.k = 14 ∨ c.g = [] ∧ c.w = [] := by
 unfold listsOk at h
 split at h
 · rename_i e; exact .inl e
 · have h := of_decide_eq_true h
   exact .inr ⟨List.eq_nil_of_length_eq_zero (by omega), List.eq_nil_of_length_eq_zero (by omega)⟩
theorem sum_ok : ((List.range 25).all fun i => decide ((wdL.getD i []).length + ((fdL.getD i []).map fun f => f.length + 22).sum ≤ 300)) = true := by decide +kernel
theorem sum_le (k : Int) : (nameOf k).length + ((fieldsOf k).map fun f => f.length + 22).sum ≤ 300 := by
 unfold nameOf fieldsOf
 split
 · simp
 · exact of_decide_eq_true (List.all_eq_true.1 sum_ok (k - 1).toNat (List.mem_range.2 (by omega)))
theorem wsF_len {c : Cm} (h64 : Cm64 c) : ∀ r : List Bs, (glue (wsF c r)).length ≤ (r.map fun f => f.length + 22).sum
 | [] => Nat.zero_le _
 | f :: r => by
   have ih := wsF_len h64 r
   have := itoa_len (val64 h64 f)
   rw [wsF]
   split
   · simp only [List.map_cons, List.sum_cons]; omega
   · rw [glue_cons]
     simp only [List.map_cons, List.sum_cons, List.length_cons, List.length_append]; omega
theorem wsL_len {p : Bs} {x : List (Int × Int)} (hp : p.length = 5) (hx : x.length ≤ 8) (h : ∀ y ∈ x, inI y.1 ∧ inI y.2) : (glue (wsL p x)).length ≤ 343 := by
 have := list_len h
 unfold wsL
 split
 · rw [glue_cons, show glue [] = [] from rfl]
   simp only [List.length_cons, List.length_append, List.length_nil]; omega
 · exact Nat.zero_le _
theorem lineT_len {c : Cm} (h64 : Cm64 c) (h : checkL c = 0) : (lineT c).length ≤ 1024 := by
 rw [lineT_eq, wsC, glue_app, glue_app]
 have h1 := sum_le c.k
 have h2 := wsF_len h64 (fieldsOf c.k)
 have h3 := wsL_len (p := givesB) rfl (check_lists h).1 h64.g
 have h4 := wsL_len (p := wantsB) rfl (check_lists h).2 h64.w
 simp only [List.length_append]; omega
theorem words_line {c : Cm} (h : checkL c = 0) : wordsL (lineT c) = nameOf c.k :: wsC c := by
 obtain ⟨h1, -, -⟩ := check_parts h
 obtain ⟨-, h2, h3, -⟩ := kind_nm h1
 have hF : ∀ r : List Bs, (∀ f ∈ r, f ∈ nmL) → ∀ w ∈ wsF c r, w ≠ [] ∧ (32 : UInt8) ∉ w := by
  intro r
  induction r with
  | nil => intro _ w hw; cases hw
  | cons f r ih =>
    intro hr w hw
    rw [wsF] at hw
    obtain ⟨e1, e2, -⟩ := nm_of (hr f (by simp))
    split at hw
    · exact ih (fun g hg => hr g (by simp [hg])) w hw
    · rcases List.mem_cons.1 hw with rfl | hw
      · refine ⟨by simp, fun hc => ?_⟩
        rcases List.mem_append.1 hc with hc | hc
        · exact e2 hc
        · rcases List.mem_cons.1 hc with hc | hc
          · exact absurd hc (by decide)
          · exact itoa_no (.inl (by decide)) hc
      · exact ih (fun g hg => hr g (by simp [hg])) w hw
 have hL : ∀ (p : Bs) x, (32 : UInt8) ∉ p → ∀ w ∈ wsL p x, w ≠ [] ∧ (32 : UInt8) ∉ w := by
  intro p x hp w hw
  unfold wsL at hw
  split at hw
  · obtain rfl := List.mem_singleton.1 hw
    refine ⟨by simp, fun hc => ?_⟩
    rcases List.mem_append.1 hc with hc | hc
    · exact hp hc
    · rcases List.mem_cons.1 hc with hc | hc
      · exact absurd hc (by decide)
      · exact listL_no hc
  · cases hw
 rw [lineT_eq, words_glue _ _ h2 h3 fun w hw => ?_]
 unfold wsC at hw
 rcases List.mem_append.1 hw with hw | hw
 · exact hF _ (fun f hf => fields_nm hf) w hw
 · rcases List.mem_append.1 hw with hw | hw
   · exact hL _ _ (by decide) w hw
   · exact hL _ _ (by decide) w hw
theorem step_gives {k : Int} {n : List Int} {g w : List (Int × Int)} {seen : List Bs} (hk : k = 14) (h0 : 0 < g.length) (h8 : g.length ≤ 8) (h64 : ∀ x ∈ g, inI x.1 ∧ inI x.2) (hs : givesB ∉ seen) :
 stepL ⟨k, n, [], w⟩ seen (givesB ++ 61 :: listL g) = some (⟨k, n, g, w⟩, givesB :: seen) := by
 unfold stepL
 rw [cutC, cut_app givesB _ [] (by decide)]
 simp only [List.nil_append]
 rw [if_neg (by rintro (h | h); cases h; exact hs h)]
 unfold fieldL
 rw [if_pos ⟨hk, rfl⟩, stacks_rt h0 h8 h64]
 rfl
theorem step_wants {k : Int} {n : List Int} {g w : List (Int × Int)} {seen : List Bs} (hk : k = 14) (h0 : 0 < w.length) (h8 : w.length ≤ 8) (h64 : ∀ x ∈ w, inI x.1 ∧ inI x.2) (hs : wantsB ∉ seen) :
 stepL ⟨k, n, g, []⟩ seen (wantsB ++ 61 :: listL w) = some (⟨k, n, g, w⟩, wantsB :: seen) := by
 unfold stepL
 rw [cutC, cut_app wantsB _ [] (by decide)]
 simp only [List.nil_append]
 rw [if_neg (by rintro (h | h); cases h; exact hs h)]
 unfold fieldL
 rw [if_neg (fun h => absurd h.2 (by decide)), if_pos ⟨hk, rfl⟩, stacks_rt h0 h8 h64]
 rfl
theorem parse_line {c : Cm} (hn : c.n.length = 19) (h64 : Cm64 c) (h : checkL c = 0) : parseL (lineT c) = some c := by
 obtain ⟨h1, h2, h3⟩ := check_parts h
 obtain ⟨hk, -, -, hk0⟩ := kind_nm h1
 have hlen := lineT_len h64 h
 unfold parseL
 rw [words_line h, parseW, hk, if_neg (by omega)]
 obtain ⟨seen, hs, hf⟩ := fold_fields h64 (wsL givesB c.g ++ wsL wantsB c.w) (fieldsOf c.k) [] [] rfl (by simp)
 have e0 : List.replicate 19 (0 : Int) = mask c [] := by unfold mask; simp only [List.not_mem_nil, if_false]; rfl
 rw [e0, wsC, hf, mask_all hn h3]
 have hsg : givesB ∉ seen := fun hh => (nm_of (fields_nm (hs _ hh))).2.2.2.1 rfl
 have hsw : wantsB ∉ seen := fun hh => (nm_of (fields_nm (hs _ hh))).2.2.2.2 rfl
 obtain ⟨k, n, g, w⟩ := c
 have hl := check_lists h
 rcases k14 h2 with h14 | ⟨hg0, hw0⟩
 · have hW : ∀ seen, wantsB ∉ seen → foldL ⟨k, n, g, []⟩ seen (wsL wantsB w) = some ⟨k, n, g, w⟩ := by
    intro seen hsw
    unfold wsL
    split
    · rename_i h0
      rw [foldL, step_wants h14 h0 hl.2 h64.w hsw]; rfl
    · rename_i h0
      obtain rfl : w = [] := List.eq_nil_of_length_eq_zero (by omega)
      rfl
   show foldL ⟨k, n, [], []⟩ seen (wsL givesB g ++ wsL wantsB w) = _
   rw [wsL]
   split
   · rename_i h0
     rw [List.singleton_append, foldL, step_gives h14 h0 hl.1 h64.g hsg]
     exact hW _ fun hh => by
      rcases List.mem_cons.1 hh with hh | hh
      · exact absurd hh (by decide)
      · exact hsw hh
   · rename_i h0
     obtain rfl : g = [] := List.eq_nil_of_length_eq_zero (by omega)
     exact hW _ hsw
 · have hg0 : g = [] := hg0
   have hw0 : w = [] := hw0
   subst hg0; subst hw0
   rfl
end Go.Proofs.YtaogfopaalancaaDoor
/- Commands, on the reference's side. -/
set_option linter.unusedVariables false
set_option maxRecDepth 100000
namespace Go.Proofs.YtaogfopaalancaaDoor
open Go Go.Proofs Go.Lib
variable {Q : V → Mem → Prop}
def fdR : List (List Bs) := [[[97, 115], [110]],
 [[97, 115], [100, 105, 118], [112, 108, 97, 99, 101], [116, 121, 112, 101], [110]],
 [[97, 115], [100, 105, 118], [112, 108, 97, 99, 101], [116, 121, 112, 101], [109, 101], [116, 101], [114, 117, 110, 115]],
 [[119, 104, 111]],
 [[119, 104, 111], [97, 115], [116, 111], [114, 111, 108, 101, 115]],
 [[119, 104, 111], [97, 115], [116, 111]],
 [[119, 104, 111], [97, 115], [116, 111], [110]],
 [[119, 104, 111], [97, 115], [100, 105, 118], [116, 111], [105, 110, 116, 111], [112, 108, 97, 99, 101], [116, 121, 112, 101], [110]],
 [[119, 104, 111], [97, 115], [100, 105, 118], [98, 97, 121], [105, 100], [116, 121, 112, 101], [114, 117, 110, 115], [99, 111, 112, 105, 101, 115]],
 [[119, 104, 111], [105, 100]],
 [[119, 104, 111], [105, 100]],
 [[119, 104, 111], [105, 100]],
 [[119, 104, 111], [105, 100]],
 [[119, 104, 111], [97, 115], [100, 105, 118], [116, 121, 112, 101], [116, 111], [112, 108, 97, 99, 101], [100, 101, 115, 116], [110], [112, 108, 101, 100, 103, 101], [108, 97, 115, 116, 115], [100, 97, 121, 115]],
 [[119, 104, 111], [97, 115], [100, 105, 118], [105, 100]],
 [[119, 104, 111], [105, 100]],
 [[119, 104, 111], [105, 100]],
 [[119, 104, 111], [105, 100]],
 [[119, 104, 111], [105, 100]],
 [[110]],
 [[119, 104, 111], [97, 115]],
 [[119, 104, 111], [97, 115], [100, 105, 118], [112, 108, 97, 99, 101], [116, 121, 112, 101]],
 [[119, 104, 111], [105, 100]],
 [[119, 104, 111], [105, 100]],
 [[119, 104, 111]]]
theorem fdL_eq : fdL = fdR := by decide +kernel
theorem fieldsOf_eq (k : Int) : fieldsOf k = if k < 1 ∨ 25 < k then [] else fdR.getD (k - 1).toNat [] := by unfold fieldsOf; rw [fdL_eq]
theorem rfields_S {kind : Int} (k : Q (.l 1 ((fieldsOf kind).map eB)) []) : PRun Tryd.prog 18 [] [.i kind] Q := by
 rw [fieldsOf_eq] at k
 refine S18 ?_
 by_cases hk : 1 ≤ kind ∧ kind ≤ 25
 · rcases (show kind = 1 ∨ kind = 2 ∨ kind = 3 ∨ kind = 4 ∨ kind = 5 ∨ kind = 6 ∨ kind = 7 ∨ kind = 8 ∨ kind = 9 ∨ kind = 10 ∨ kind = 11 ∨ kind = 12 ∨ kind = 13 ∨ kind = 14 ∨ kind = 15 ∨ kind = 16 ∨ kind = 17 ∨ kind = 18 ∨ kind = 19 ∨ kind = 20 ∨ kind = 21 ∨ kind = 22 ∨ kind = 23 ∨ kind = 24 ∨ kind = 25 by omega) with rfl | rfl | rfl | rfl | rfl | rfl | rfl | rfl | rfl | rfl | rfl | rfl | rfl | rfl | rfl | rfl | rfl | rfl | rfl | rfl | rfl | rfl | rfl | rfl | rfl
   all_goals
    intro k1 h1
    repeat first
     | exact k
     | (intro k2 h2; refine h2 _ ?_)
 · rw [if_pos (by omega)] at k
   intro k1 h1
   have e : ∀ i : Int, 1 ≤ i → i ≤ 25 → (kind == i) = false := fun i h1 h2 => by
    rw [← Bool.not_eq_true]
    intro h
    have := beq_iff_eq.1 h
    omega
   simp only [e 1 (by decide) (by decide), e 2 (by decide) (by decide), e 3 (by decide) (by decide), e 4 (by decide) (by decide), e 5 (by decide) (by decide), e 6 (by decide) (by decide), e 7 (by decide) (by decide), e 8 (by decide) (by decide), e 9 (by decide) (by decide), e 10 (by decide) (by decide), e 11 (by decide) (by decide), e 12 (by decide) (by decide), e 13 (by decide) (by decide), e 14 (by decide) (by decide), e 15 (by decide) (by decide), e 16 (by decide) (by decide), e 17 (by decide) (by decide), e 18 (by decide) (by decide), e 19 (by decide) (by decide), e 20 (by decide) (by decide), e 21 (by decide) (by decide), e 22 (by decide) (by decide), e 23 (by decide) (by decide), e 24 (by decide) (by decide), e 25 (by decide) (by decide), cond_false]
   repeat (intro k2 h2; refine h2 _ ?_; simp only [cond_false])
   exact h1 k
theorem rwords28_S (k : Q (.l 1 (wdL.map eB)) []) : PRun Tryd.prog 38 [] [] Q := S38 k
theorem rnames_S (k : Q (.l 1 (nmL.map eB)) []) : PRun Tryd.prog 36 [] [] Q := S36 k
theorem posB_ap {s : Bs} : ∀ {t r : List Bs} {i : Nat}, s ∉ t → posB (t ++ r) s i = posB r s (i + t.length)
 | [], r, i, h => by simp
 | a :: t, r, i, h => by
   rw [List.cons_append, posB, if_neg (fun e => h (by simp [e])), posB_ap (fun hm => h (by simp [hm])), List.length_cons]
   congr 1; omega
theorem rplace_S {s : Bs} (k1 : ∀ j, posB nmL s 0 = some j → Q (.i (j : Nat)) []) (k0 : posB nmL s 0 = none → Q (.i (-1)) []) : PRun Tryd.prog 39 [] [.u (.s (bA s))] Q := by
 refine S39 (rnames_S ?_)
 rw [post_L]
 have hl : nmL.length = 19 := rfl
 refine ⟨AtI nmL fun t _ => s ∉ t, SufM nmL, .zero (by omega) (by simp), ?_⟩
 rintro x ⟨t, _ | ⟨a, r⟩, p, h⟩
 · rw [p.d0, cond_false]
   rw [p.all] at h
   exact k0 (posB_no.2 h)
 · rw [p.d1, cond_true, p.el]
   simp only [ug0, dS_s, bEq]
   refine cIf (fun e => ?_) fun e => ?_
   · have := k1 t.length (by rw [p.e, posB_ap h, posB, if_pos e]; simp)
     rw [← p.k] at this; exact this
   · exact p.step (by simp [h]; exact Ne.symm e)
end Go.Proofs.YtaogfopaalancaaDoor
/- Commands, on the reference's side: one more field; the same; lines are read. -/
set_option linter.unusedVariables false
set_option maxRecDepth 100000
namespace Go.Proofs.YtaogfopaalancaaDoor
open Go Go.Proofs Go.Lib
variable {Q : V → Mem → Prop}
theorem rall_S {c : Cm} (hn : c.n.length = 19) (k : Q (.l 1 (c.n.map numRow)) []) : PRun Tryd.prog 26 [] [c.v] Q := by
 obtain ⟨ck, cn, cg, cw⟩ := c
 obtain ⟨a1, a2, a3, a4, a5, a6, a7, a8, a9, a10, a11, a12, a13, a14, a15, a16, a17, a18, a19, rfl⟩ := list19 hn
 exact S26 k
theorem rsame_S {c : Cm} (hn : c.n.length = 19) (hg : c.g.length ≤ 1000000) (hw : c.w.length ≤ 1000000) (k : Q (.u (.b true)) []) : PRun Tryd.prog 8 [] [c.v, c.v] Q := by
 obtain ⟨ck, cn, cg, cw⟩ := c
 have hn : cn.length = 19 := hn
 have hg : cg.length ≤ 1000000 := hg
 have hw : cw.length ≤ 1000000 := hw
 obtain ⟨a1, a2, a3, a4, a5, a6, a7, a8, a9, a10, a11, a12, a13, a14, a15, a16, a17, a18, a19, hc⟩ := list19 hn
 have hall := fun (Q : V → Mem → Prop) => rall_S (Q := Q) (c := ⟨ck, cn, cg, cw⟩) hn
 rw [show (Cm.mk ck cn cg cw).v = aV ck [a1, a2, a3, a4, a5, a6, a7, a8, a9, a10, a11, a12, a13, a14, a15, a16, a17, a18, a19] (cg.map eP) (cw.map eP) by rw [show cn = _ from hc]] at hall ⊢
 refine S8 (hall _ ?_)
 rw [post_L]
 refine hall _ ?_
 rw [post_L]
 have sm : ∀ l : List (Int × Int), l.length ≤ 1000000 → ∀ {Q : V → Mem → Prop}, Q (.u (.b true)) [] → PRun Tryd.prog 27 [] [.l 2 (l.map eP), .l 2 (l.map eP)] Q := fun l hl Q k => same_S (by omega) (by omega) (by rw [decide_eq_true rfl]; exact k)
 refine ⟨AtI cn fun _ _ => True, SufM cn, .zero (by omega) trivial, ?_⟩
 rintro x ⟨t, _ | ⟨a, r⟩, p, -⟩
 · have e := p.d0 (e := numRow)
   rw [e, cond_false]
   refine cEq (fun _ => ?_) fun h => absurd rfl h
   refine sm cg hg ?_
   rw [post_B, cond_true]
   exact sm cw hw k
 · have e := p.d1 (e := numRow)
   rw [e, cond_true, cond_true, p.el]
   show dI .i64 (ug [.n a] 0) _
   simp only [ug0, dI_n]
   rw [p.el]
   show dI .i64 (ug [.n a] 0) _
   simp only [ug0, dI_n]
   exact cNe (fun h => absurd rfl h) fun _ => p.step trivial
end Go.Proofs.YtaogfopaalancaaDoor
/- The law's known command; the law of the readers. -/
set_option linter.unusedVariables false
set_option maxRecDepth 100000
namespace Go.Proofs.YtaogfopaalancaaDoor
open Go Go.Proofs Go.Lib
variable {Q : V → Mem → Prop}
def awC : Cm := ⟨14, [1, 2, 0, 0, 0, 0, 0, 0, 0, -7, 0, 0, 0, 0, 0, 0, 0, 0, 0], [(1, 5), (3, 2)], [(2, 1)]⟩
theorem aw_parse : parseL [32, 32, 105, 115, 115, 117, 101, 32, 119, 97, 110, 116, 115, 61, 50, 120, 49, 32, 119, 104, 111, 61, 49, 32, 103, 105, 118, 101, 115, 61, 49, 120, 53, 44, 51, 120, 50, 32, 110, 61, 45, 55, 32, 97, 115, 61, 50, 32] = some awC := by kernel_rfl
theorem aw_bad : parseL [116, 105, 99, 107, 32, 110, 61, 49, 32, 110, 61, 49] = none := by kernel_rfl
theorem aw_check : checkL awC = 0 := by kernel_rfl
theorem aw_line : lineT awC = [105, 115, 115, 117, 101, 32, 119, 104, 111, 61, 49, 32, 97, 115, 61, 50, 32, 110, 61, 45, 55, 32, 103, 105, 118, 101, 115, 61, 49, 120, 53, 44, 51, 120, 50, 32, 119, 97, 110, 116, 115, 61, 50, 120, 49] := by kernel_rfl
theorem aw_min : numL [45, 57, 50, 50, 51, 51, 55, 50, 48, 51, 54, 56, 53, 52, 55, 55, 53, 56, 48, 56] = some (-9223372036854775808) := by kernel_rfl
theorem aw_01 : numL [48, 49] = none := by kernel_rfl
theorem aw_64 : Cm64 awC := ⟨by decide, by decide, by decide⟩
theorem post_AI {k e : Int} {n : List Int} {g w : List (List U)} (hn : n.length = 19) {F : Int → Int → Int → Int → Int → Int → Int → Int → Int → Int → Int → Int → Int → Int → Int → Int → Int → Int → Int → Int → List (List U) → List (List U) → Int → Prop}
 (hF : ∀ a1 a2 a3 a4 a5 a6 a7 a8 a9 a10 a11 a12 a13 a14 a15 a16 a17 a18 a19, n = [a1, a2, a3, a4, a5, a6, a7, a8, a9, a10, a11, a12, a13, a14, a15, a16, a17, a18, a19] → F k a1 a2 a3 a4 a5 a6 a7 a8 a9 a10 a11 a12 a13 a14 a15 a16 a17 a18 a19 g w e) :
 post [.agg [.i .i64, .i .i64, .i .i64, .i .i64, .i .i64, .i .i64, .i .i64, .i .i64, .i .i64, .i .i64, .i .i64, .i .i64, .i .i64, .i .i64, .i .i64, .i .i64, .i .i64, .i .i64, .i .i64, .i .i64, .l 2, .l 2], .I] [] F (.t [aV k n g w, .i e]) [] := by
 obtain ⟨a1, a2, a3, a4, a5, a6, a7, a8, a9, a10, a11, a12, a13, a14, a15, a16, a17, a18, a19, rfl⟩ := list19 hn
 exact hF _ _ _ _ _ _ _ _ _ _ _ _ _ _ _ _ _ _ _ rfl
theorem post_SI {m : Mem} {x : ByteArray} {n : Int} {F : ByteArray → Int → Prop} : post [.S, .I] [] F (.t [.u (.s x), .i n]) m = F x n := rfl
theorem awake_S (k : Q (.u (.b true)) []) : PRun Tryd.prog 4 [] [] Q := by
 refine S4 ?_
 refine cparse_S (l := [32, 32, 105, 115, 115, 117, 101, 32, 119, 97, 110, 116, 115, 61, 50, 120, 49, 32, 119, 104, 111, 61, 49, 32, 103, 105, 118, 101, 115, 61, 49, 120, 53, 44, 51, 120, 50, 32, 110, 61, 45, 55, 32, 97, 115, 61, 50, 32]) (by decide) ?_
 rw [aw_parse]
 show PRun Tryd.prog 5 [] [awC.v] _
 refine cline_S rfl (by decide) (by decide) aw_64 ?_
 unfold lnV
 rw [if_pos aw_check, aw_line, post_SI]
 refine cparse_S (l := [116, 105, 99, 107, 32, 110, 61, 49, 32, 110, 61, 49]) (by decide) ?_
 rw [aw_bad]
 refine number_S (l := [45, 57, 50, 50, 51, 51, 55, 50, 48, 51, 54, 56, 53, 52, 55, 55, 53, 56, 48, 56]) (by decide) (fun v hv => ?_) fun h => by rw [aw_min] at h; cases h
 rw [aw_min] at hv
 cases hv
 rw [post_IB]
 refine number_S (l := [48, 49]) (by decide) (fun v hv => by rw [aw_01] at hv; cases hv) fun h => ?_
 rw [post_IB]
 refine rsame_S (c := awC) rfl (by decide) (by decide) ?_
 rw [post_B, bEq]
 simpa using k
end Go.Proofs.YtaogfopaalancaaDoor
/- A command's check and its line, on the reference's side; the law of the lines. -/
set_option linter.unusedVariables false
set_option maxRecDepth 100000
namespace Go.Proofs.YtaogfopaalancaaDoor
open Go Go.Proofs Go.Lib
variable {Q : V → Mem → Prop}
theorem rin28_S {l : List Bs} {s : Bs} (hl : l.length ≤ 1000000000000) (k : Q (.u (.b (decide (s ∈ l)))) []) : PRun Tryd.prog 37 [] [.l 1 (l.map eB), .u (.s (bA s))] Q := by
 refine S37 ⟨AtI l fun t _ => s ∉ t, SufM l, .zero hl (by simp), ?_⟩
 rintro x ⟨t, _ | ⟨a, r⟩, p, h⟩
 · rw [p.d0, cond_false]
   rw [p.all] at h
   simpa [h] using k
 · rw [p.d1, cond_true, p.el]
   simp only [ug0, dS_s, bEq]
   refine cIf (fun e => ?_) fun e => ?_
   · have : s ∈ l := by rw [p.e]; simp [e]
     simpa [this] using k
   · exact p.step (by simp [h]; exact Ne.symm e)
theorem rname_S {kind : Int} (k : Q (.u (.s (bA (nameOf kind)))) []) : PRun Tryd.prog 17 [] [.i kind] Q := by
 unfold nameOf at k
 refine S17 (cIf (fun h => ?_) fun h1 => cIf (fun h => ?_) fun h2 => ?_)
 · rw [if_pos (.inl h)] at k; exact k
 · rw [if_pos (.inr h)] at k; exact k
 · rw [if_neg (by omega)] at k
   refine rwords28_S ?_
   rw [post_L, w64 (by omega) (by omega)]
   obtain ⟨p, hp, hm, hlen⟩ := kd_get h1 h2
   have e : (wdL.map eB)[(kind - 1).toNat]? = some (eB p.1) := by rw [wdL, List.map_map, List.getElem?_map, hp]; rfl
   rw [elL_of (by omega) e]
   simp only [ug0, dS_s]
   rw [List.getD, wdL, List.getElem?_map, hp] at k
   exact k
theorem rget_S {c : Cm} (hn : c.n.length = 19) {name : Bs} (k1 : ∀ j, posB nmL name 0 = some j → Q (.t [.i (c.n.getD j 0), .u (.b true)]) []) (k0 : posB nmL name 0 = none → Q (.t [.i 0, .u (.b false)]) []) :
 PRun Tryd.prog 19 [] [c.v, .u (.s (bA name))] Q := by
 obtain ⟨ck, cn, cg, cw⟩ := c
 have hn : cn.length = 19 := hn
 obtain ⟨a1, a2, a3, a4, a5, a6, a7, a8, a9, a10, a11, a12, a13, a14, a15, a16, a17, a18, a19, hc⟩ := list19 hn
 have hall := fun (Q : V → Mem → Prop) => rall_S (Q := Q) (c := ⟨ck, cn, cg, cw⟩) hn
 rw [show (Cm.mk ck cn cg cw).v = aV ck [a1, a2, a3, a4, a5, a6, a7, a8, a9, a10, a11, a12, a13, a14, a15, a16, a17, a18, a19] (cg.map eP) (cw.map eP) by rw [show cn = _ from hc]] at hall ⊢
 refine S19 (rplace_S (fun j hj => ?_) fun hj => ?_)
 · rw [post_I, decide_eq_false (by omega), cond_false]
   refine hall _ ?_
   rw [post_L]
   have hj19 := (posB_get hj).1
   have e : (cn.map numRow)[(j : Int).toNat]? = some (numRow (cn.getD j 0)) := by
    rw [List.getElem?_map, Int.toNat_natCast, List.getD, List.getElem?_eq_getElem (by omega)]; rfl
   rw [elL_of (by omega) e]
   show dI .i64 (ug [.n (cn.getD j 0)] 0) _
   simp only [ug0, dI_n]
   exact k1 j hj
 · rw [post_I]
   exact k0 hj
theorem rcheck_S {c : Cm} (hn : c.n.length = 19) (hg : c.g.length ≤ 1000000) (hw : c.w.length ≤ 1000000) (k : Q (.i (checkL c)) []) : PRun Tryd.prog 16 [] [c.v] Q := by
 obtain ⟨ck, cn, cg, cw⟩ := c
 have hn : cn.length = 19 := hn
 have hg : cg.length ≤ 1000000 := hg
 have hw : cw.length ≤ 1000000 := hw
 obtain ⟨a1, a2, a3, a4, a5, a6, a7, a8, a9, a10, a11, a12, a13, a14, a15, a16, a17, a18, a19, hc⟩ := list19 hn
 have hall := fun (Q : V → Mem → Prop) => rall_S (Q := Q) (c := ⟨ck, cn, cg, cw⟩) hn
 rw [show (Cm.mk ck cn cg cw).v = aV ck [a1, a2, a3, a4, a5, a6, a7, a8, a9, a10, a11, a12, a13, a14, a15, a16, a17, a18, a19] (cg.map eP) (cw.map eP) by rw [show cn = _ from hc]] at hall ⊢
 refine S16 (rfields_S ?_)
 rw [post_L, List.length_map, List.length_map, List.length_map]
 have hf := (fieldsOf_len ck).1
 unfold checkL listsOk at k
 intro k1 h1
 have main : (fieldsOf ck).length ≠ 0 → (if ck = 14 then decide (cg.length ≤ 8) && decide (cw.length ≤ 8) else decide (cg.length + cw.length = 0)) = true → k1 := fun e1 e2 => h1 (hall _ (by
  rw [post_L]
  refine rnames_S ?_
  rw [post_L]
  have hnl : nmL.length = 19 := rfl
  refine ⟨fun x => ∃ t l t' l', At cn x t l ∧ At nmL x t' l' ∧ badF ⟨ck, cn, cg, cw⟩ (fieldsOf ck) nmL = badF ⟨ck, cn, cg, cw⟩ (fieldsOf ck) l', SufM nmL, ⟨[], cn, [], nmL, .zero (by omega), .zero (by omega), rfl⟩, ?_⟩
  rintro x ⟨t, l, t', _ | ⟨b, l'⟩, p, q, h⟩
  · have h1 := congrArg List.length p.e; have h2 := congrArg List.length q.e
    have h3 := p.k; have h4 := q.k
    rw [List.length_append] at h1 h2
    simp only [List.length_nil] at h2
    cases l with
    | cons a l => simp only [List.length_cons] at h1; omega
    | nil =>
    rw [p.d0 (e := numRow), cond_false]
    rw [if_neg] at k
    · exact k
    · rintro (hh | hh | hh)
      · exact e1 hh
      · rw [e2] at hh; cases hh
      · rw [h] at hh; cases hh
  · have h1 := congrArg List.length p.e; have h2 := congrArg List.length q.e
    have h3 := p.k; have h4 := q.k
    rw [List.length_append] at h1 h2
    simp only [List.length_cons] at h2
    cases l with
    | nil => simp only [List.length_nil] at h1; omega
    | cons a l =>
    rw [p.d1 (e := numRow), cond_true, q.d1, cond_true, p.el]
    show dI .i64 (ug [.n a] 0) _
    simp only [ug0, dI_n]
    have hb : nmL.getD t'.length [] = b := by rw [q.e]; simp
    have hv : valOf ⟨ck, cn, cg, cw⟩ b = a := by
     unfold valOf
     rw [← hb, nm_at (by omega)]
     show cn.getD t'.length 0 = a
     rw [show t'.length = t.length by omega, p.e]; simp
    have hbd : badF ⟨ck, cn, cg, cw⟩ (fieldsOf ck) (b :: l') = ((decide (a ≠ 0) && !decide (b ∈ fieldsOf ck)) || badF ⟨ck, cn, cg, cw⟩ (fieldsOf ck) l') := by
     rw [← hv]; rfl
    have next : badF ⟨ck, cn, cg, cw⟩ (fieldsOf ck) nmL = badF ⟨ck, cn, cg, cw⟩ (fieldsOf ck) l' → (∃ t l t' l', At cn (IntKind.wrap .i64 (x + 1)) t l ∧ At nmL (IntKind.wrap .i64 (x + 1)) t' l' ∧ badF ⟨ck, cn, cg, cw⟩ (fieldsOf ck) nmL = badF ⟨ck, cn, cg, cw⟩ (fieldsOf ck) l') ∧ SufM nmL (IntKind.wrap .i64 (x + 1)) < SufM nmL x := fun hh => by
     rw [q.suf.wr]
     exact ⟨⟨_, _, _, _, p.succ, q.succ, hh⟩, q.suf.me⟩
    refine cNe (fun e => ?_) fun e => ?_
    · rw [q.el]
      simp only [ug0, dS_s]
      refine rin28_S (by omega) ?_
      rw [post_B]
      by_cases hm : b ∈ fieldsOf ck
      · rw [decide_eq_true hm, Bool.not_true, cond_false]
        exact next (by rw [h, hbd, decide_eq_true hm]; simp)
      · rw [decide_eq_false hm, Bool.not_false, cond_true]
        rw [if_pos (.inr (.inr (by show badF ⟨ck, cn, cg, cw⟩ (fieldsOf ck) nmL = true; rw [h, hbd, decide_eq_false hm, decide_eq_true e]; rfl)))] at k
        exact k
    · exact next (by rw [h, hbd, decide_eq_false (fun hh => hh e)]; rfl)))
 have bad : (fieldsOf ck).length = 0 ∨ (if ck = 14 then decide (cg.length ≤ 8) && decide (cw.length ≤ 8) else decide (cg.length + cw.length = 0)) = false → Q (.i 1) [] := fun hh => by
  rw [if_pos (by rcases hh with hh | hh; exact .inl hh; exact .inr (.inl hh))] at k; exact k
 refine cEq (fun e => bad (.inl (by omega))) fun e => cIf (fun e2 => bad (.inr ?_)) fun e2 => cIf (fun e3 => bad (.inr ?_)) fun e3 => cNe (fun e4 => ?_) fun e4 => ?_
 · split
   · rw [decide_eq_false (show ¬ cg.length ≤ 8 by omega)]; rfl
   · exact decide_eq_false (by omega)
 · split
   · rw [decide_eq_false (show ¬ cw.length ≤ 8 by omega), Bool.and_false]
   · exact decide_eq_false (by omega)
 · rw [w64 (by omega) (by omega)]
   refine cIf (fun e5 => bad (.inr ?_)) fun e5 => main (by omega) ?_
   · rw [if_neg e4]; exact decide_eq_false (by omega)
   · rw [if_neg e4]; exact decide_eq_true (by omega)
 · refine main (by omega) ?_
   rw [if_pos e4, decide_eq_true (show cg.length ≤ 8 by omega), decide_eq_true (show cw.length ≤ 8 by omega)]; rfl
theorem jt_app (a b : List Bs) (c : Bs) : joinTail c (a ++ b) = joinTail c a ++ joinTail c b := by unfold joinTail; simp
theorem listL_snoc (t : List (Int × Int)) (a : Int × Int) : listL (t ++ [a]) = (if 0 < t.length then listL t ++ [44] else listL t) ++ stackT a := by
 cases t with
 | nil =>
   show listL [a] = listL [] ++ stackT a
   unfold listL
   rw [List.map_singleton, join_one, List.map_nil, join_nil]; rfl
 | cons x t =>
   rw [if_pos (by simp)]
   unfold listL
   rw [List.cons_append, List.map_cons, join_cons, List.map_append, jt_app, show List.map stackT (x :: t) = stackT x :: List.map stackT t from rfl, join_cons]
   have : joinTail [44] (List.map stackT [a]) = [44] ++ stackT a := by simp [joinTail]
   rw [this]
   simp
theorem rlist_S {s : List (Int × Int)} (hs : s.length ≤ 1000000) (h64 : ∀ x ∈ s, inI x.1 ∧ inI x.2) (k : Q (.u (.s (bA (listL s)))) []) : PRun Tryd.prog 21 [] [.l 2 (s.map eP)] Q := by
 refine S21 ⟨fun o x => ∃ t r, At s x t r ∧ o = bA (listL t), fun _ => SufM s, ⟨[], s, .zero (by omega), rfl⟩, ?_⟩
 rintro _ x ⟨t, _ | ⟨a, r⟩, p, rfl⟩
 · rw [p.d0, cond_false]
   have e : t = s := p.all
   subst e
   exact k
 · rw [p.d1, cond_true]
   have ha := h64 a (by rw [p.e]; simp)
   have h1 := itoa_len ha.1
   have h2 := itoa_len ha.2
   have ht : t.length + 1 ≤ s.length := by rw [p.e]; simp
   have hl := list_len (s := t) fun y hy => h64 y (by rw [p.e]; simp [hy])
   have go : ∀ u : Bs, u.length ≤ t.length * 42 + 1 → u ++ stackT a = listL (t ++ [a]) → ∀ k1 : ByteArray → Prop, (∀ s2 : ByteArray, (elL (s.map eP) x (fun r1 => dI .i64 (ug r1 0) (fun x2 => elL (s.map eP) x (fun r2 => dI .i64 (ug r2 1) (fun x3 => PRun Tryd.prog 20 [] [.i x2] (post [.S] [] (fun s3 => (ByteArray.size s2 + ByteArray.size s3 < 9223372036854775808 ∧ (ByteArray.size (s2 ++ s3) + ByteArray.size (ByteArray.mk #[120]) < 9223372036854775808 ∧ (PRun Tryd.prog 20 [] [.i x3] (post [.S] [] (fun s4 => (ByteArray.size (s2 ++ s3 ++ ByteArray.mk #[120]) + ByteArray.size s4 < 9223372036854775808 ∧ ((∃ t r, At s (IntKind.wrap .i64 (x + 1)) t r ∧ s2 ++ s3 ++ ByteArray.mk #[120] ++ s4 = bA (listL t)) ∧ SufM s (IntKind.wrap .i64 (x + 1)) < SufM s x) : Prop))))) : Prop)))))))) → k1 s2) → k1 (bA u) := by
    intro u hu he k1 hk
    refine hk _ ?_
    rw [p.el]
    simp only [ug0, dI_n]
    rw [p.el]
    simp only [ug0, ugs, dI_n]
    refine rnum_S ha.1.1 ha.1.2 ?_
    rw [post_S, show ByteArray.mk #[120] = bA [120] from rfl, bA_app, bA_app, bA_size, bA_size, bA_size, bA_size]
    refine ⟨by omega, by simp only [List.length_append, List.length_singleton]; omega, rnum_S ha.2.1 ha.2.2 ?_⟩
    rw [post_S, bA_app, bA_size, bA_size]
    refine ⟨by simp only [List.length_append, List.length_singleton]; omega, ?_⟩
    rw [p.suf.wr]
    refine ⟨⟨t ++ [a], r, p.succ, ?_⟩, p.suf.me⟩
    rw [← he]
    unfold stackT
    simp
   have hsn := listL_snoc t a
   intro k1 hk
   refine cIf (fun h0 => ?_) fun h0 => ?_
   · have := p.k
     rw [if_pos (by omega)] at hsn
     rw [show ByteArray.mk #[44] = bA [44] from rfl, bA_app, bA_size, bA_size]
     exact ⟨by rw [List.length_singleton]; omega, go _ (by rw [List.length_append, List.length_singleton]; omega) hsn.symm k1 hk⟩
   · have := p.k
     rw [if_neg (by omega)] at hsn
     exact go _ (by omega) hsn.symm k1 hk
theorem rline_S {c : Cm} (hn : c.n.length = 19) (hg : c.g.length ≤ 1000000) (hw : c.w.length ≤ 1000000) (h64 : Cm64 c) (k : Q (lnV c) []) : PRun Tryd.prog 6 [] [c.v] Q := by
 obtain ⟨ck, cn, cg, cw⟩ := c
 obtain ⟨a1, a2, a3, a4, a5, a6, a7, a8, a9, a10, a11, a12, a13, a14, a15, a16, a17, a18, a19, hc⟩ := list19 hn
 rw [show (Cm.mk ck cn cg cw).v = aV ck [a1, a2, a3, a4, a5, a6, a7, a8, a9, a10, a11, a12, a13, a14, a15, a16, a17, a18, a19] (cg.map eP) (cw.map eP) by rw [show cn = _ from hc]]
 have hv : aV ck [a1, a2, a3, a4, a5, a6, a7, a8, a9, a10, a11, a12, a13, a14, a15, a16, a17, a18, a19] (cg.map eP) (cw.map eP) = (Cm.mk ck cn cg cw).v := by rw [show cn = _ from hc]
 refine S6 (show PRun Tryd.prog 16 [] [aV ck [a1, a2, a3, a4, a5, a6, a7, a8, a9, a10, a11, a12, a13, a14, a15, a16, a17, a18, a19] (cg.map eP) (cw.map eP)] _ from ?_)
 rw [hv]
 refine rcheck_S hn hg hw ?_
 rw [post_I]
 refine cNe (fun e => ?_) fun e => ?_
 · unfold lnV at k; rw [if_neg e] at k; exact k
 have hl := check_lists e
 unfold lnV at k
 rw [if_pos e] at k
 refine rname_S ?_
 rw [post_S]
 refine rfields_S ?_
 rw [post_L]
 have hf := fieldsOf_len ck
 have hnm := name_len ck
 have hcg : (listL cg).length ≤ 336 := Nat.le_trans (list_len h64.g) (Nat.mul_le_mul_right 42 hl.1)
 have hcw : (listL cw).length ≤ 336 := Nat.le_trans (list_len h64.w) (Nat.mul_le_mul_right 42 hl.2)
 refine ⟨fun s x => ∃ t r b, At (fieldsOf ck) x t r ∧ s = bA b ∧ b.length ≤ 10 + t.length * 32 ∧ lineF ⟨ck, cn, cg, cw⟩ b r = lineF ⟨ck, cn, cg, cw⟩ (nameOf ck) (fieldsOf ck), fun _ => SufM (fieldsOf ck), ⟨[], _, _, .zero (by omega), rfl, by simpa using hnm, rfl⟩, ?_⟩
 rintro _ x ⟨t, _ | ⟨a, r⟩, b, p, rfl, hb, h⟩
 · rw [p.d0, cond_false, List.length_map, List.length_map]
   have ht : t = fieldsOf ck := p.all
   have hb2 : b.length ≤ 400 := by rw [ht] at hb; have := hf.1; omega
   rw [lineF] at h
   unfold lineT at k
   have k : Q (.t [.u (.s (bA (lineS sWants cw (lineS sGives cg b)))), .i 0]) [] := by rw [h]; exact k
   rw [show ByteArray.mk #[32, 103, 105, 118, 101, 115, 61] = bA sGives from rfl, show ByteArray.mk #[32, 119, 97, 110, 116, 115, 61] = bA sWants from rfl]
   have z1 : sGives.length = 7 := rfl
   have z2 : sWants.length = 7 := rfl
   intro k1 hk
   have tail : ∀ u : Bs, u.length ≤ 1000 → Q (.t [.u (.s (bA (lineS sWants cw u))), .i 0]) [] → k1 (bA u) := fun u hu kk => hk _ (by
    refine cIf (fun h2 => ?_) fun h2 => ?_
    · rw [bA_app, bA_size, bA_size]
      refine ⟨by omega, rlist_S (by have := hl.2; omega) h64.w ?_⟩
      rw [post_S, bA_app, bA_size, bA_size]
      rw [lineS, if_pos (by omega)] at kk
      exact ⟨by simp only [List.length_append]; omega, by rw [List.append_assoc]; exact kk⟩
    · rw [lineS, if_neg (by omega)] at kk
      exact kk)
   refine cIf (fun h1 => ?_) fun h1 => ?_
   · rw [bA_app, bA_size, bA_size]
     refine ⟨by omega, rlist_S (by have := hl.1; omega) h64.g ?_⟩
     rw [post_S, bA_app, bA_size, bA_size]
     rw [lineS.eq_1 sGives, if_pos (by omega)] at k
     exact ⟨by simp only [List.length_append]; omega, tail _ (by simp only [List.length_append]; omega) (by rw [List.append_assoc]; exact k)⟩
   · rw [lineS.eq_1 sGives, if_neg (by omega)] at k
     exact tail _ (by omega) k
 · rw [p.d1, cond_true, p.el]
   simp only [ug0, dS_s]
   rw [lineF] at h
   have hv64 := val64 h64 a
   have ht : t.length + 1 ≤ (fieldsOf ck).length := by rw [p.e]; simp
   have hal := hf.2 a (by rw [p.e]; simp)
   have hf1 := hf.1
   show PRun Tryd.prog 19 [] [aV ck [a1, a2, a3, a4, a5, a6, a7, a8, a9, a10, a11, a12, a13, a14, a15, a16, a17, a18, a19] (cg.map eP) (cw.map eP), _] _
   rw [hv]
   have go : ∀ (v : Int) (P : Prop) (R : Prop), v = valOf ⟨ck, cn, cg, cw⟩ a → (v ≠ 0 → P) → (v = 0 → R) → (bif v != 0 then P else R) := fun v P R _ h1 h2 => cNe h1 h2
   have yes : valOf ⟨ck, cn, cg, cw⟩ a ≠ 0 → ByteArray.size (bA b) + ByteArray.size (ByteArray.mk #[32]) < 9223372036854775808 ∧ (elL ((fieldsOf ck).map eB) x (fun r2 => dS (ug r2 0) (fun s4 => ByteArray.size (bA b ++ ByteArray.mk #[32]) + ByteArray.size s4 < 9223372036854775808 ∧ (ByteArray.size (bA b ++ ByteArray.mk #[32] ++ s4) + ByteArray.size (ByteArray.mk #[61]) < 9223372036854775808 ∧ (PRun Tryd.prog 20 [] [.i (valOf ⟨ck, cn, cg, cw⟩ a)] (post [.S] [] (fun s5 => (ByteArray.size (bA b ++ ByteArray.mk #[32] ++ s4 ++ ByteArray.mk #[61]) + ByteArray.size s5 < 9223372036854775808 ∧ ((∃ t r b', At (fieldsOf ck) (IntKind.wrap .i64 (x + 1)) t r ∧ bA b ++ ByteArray.mk #[32] ++ s4 ++ ByteArray.mk #[61] ++ s5 = bA b' ∧ b'.length ≤ 10 + t.length * 32 ∧ lineF ⟨ck, cn, cg, cw⟩ b' r = lineF ⟨ck, cn, cg, cw⟩ (nameOf ck) (fieldsOf ck)) ∧ SufM (fieldsOf ck) (IntKind.wrap .i64 (x + 1)) < SufM (fieldsOf ck) x) : Prop)))))))) := fun e1 => by
    rw [if_neg e1] at h
    rw [p.el]
    simp only [ug0, dS_s]
    have := itoa_len hv64
    rw [show ByteArray.mk #[32] = bA [32] from rfl, show ByteArray.mk #[61] = bA [61] from rfl, bA_app, bA_app, bA_app, bA_size, bA_size, bA_size, bA_size, bA_size, bA_size]
    refine ⟨by rw [List.length_singleton]; omega, by simp only [List.length_append, List.length_singleton]; omega, by simp only [List.length_append, List.length_singleton]; omega, rnum_S hv64.1 hv64.2 ?_⟩
    rw [post_S, bA_app, bA_size, bA_size]
    refine ⟨by simp only [List.length_append, List.length_singleton]; omega, ?_⟩
    rw [p.suf.wr]
    exact ⟨⟨t ++ [a], r, _, p.succ, rfl, by simp only [List.length_append, List.length_singleton]; omega, by rw [← h]; congr 1; simp⟩, p.suf.me⟩
   have no : valOf ⟨ck, cn, cg, cw⟩ a = 0 → (∃ t r b', At (fieldsOf ck) (IntKind.wrap .i64 (x + 1)) t r ∧ bA b = bA b' ∧ b'.length ≤ 10 + t.length * 32 ∧ lineF ⟨ck, cn, cg, cw⟩ b' r = lineF ⟨ck, cn, cg, cw⟩ (nameOf ck) (fieldsOf ck)) ∧ SufM (fieldsOf ck) (IntKind.wrap .i64 (x + 1)) < SufM (fieldsOf ck) x := fun e1 => by
    rw [if_pos e1] at h
    rw [p.suf.wr]
    exact ⟨⟨t ++ [a], r, _, p.succ, rfl, by simp only [List.length_append, List.length_singleton]; omega, h⟩, p.suf.me⟩
   refine rget_S hn (fun j hj => ?_) fun hj => ?_
   · rw [post_IB, show (Cm.mk ck cn cg cw).n.getD j 0 = valOf ⟨ck, cn, cg, cw⟩ a by unfold valOf; rw [hj]]
     exact cNe yes no
   · rw [post_IB]
     exact cNe (fun h => absurd rfl h) fun _ => no (by unfold valOf; rw [hj])
theorem parse_nil : parseL [] = none := rfl
theorem deskLines_run {c : Cm} (hn : c.n.length = 19) (h64 : Cm64 c) (k : Q (.u (.b true)) []) : PRun Tryd.prog 3 [] [c.v] Q := by
 obtain ⟨ck, cn, cg, cw⟩ := c
 have hn : cn.length = 19 := hn
 obtain ⟨a1, a2, a3, a4, a5, a6, a7, a8, a9, a10, a11, a12, a13, a14, a15, a16, a17, a18, a19, hc⟩ := list19 hn
 subst hc
 refine S3 ?_
 rw [List.length_map, List.length_map]
 refine cIf (fun h => awake_S ?_) fun h1 => cIf (fun h => awake_S ?_) fun h2 => ?_
 · rw [post_B]; exact k
 · rw [post_B]; exact k
 have hg3 : cg.length ≤ 1000000 := by have h1 : ¬ (cg.length : Int) > 12 := h1; omega
 have hw3 : cw.length ≤ 1000000 := by have h2 : ¬ (cw.length : Int) > 12 := h2; omega
 have aw : PRun Tryd.prog 4 [] [] (post [.B] [] fun b => Q (.u (.b b)) []) := awake_S (by rw [post_B]; exact k)
 refine cline_S (c := ⟨ck, [a1, a2, a3, a4, a5, a6, a7, a8, a9, a10, a11, a12, a13, a14, a15, a16, a17, a18, a19], cg, cw⟩) rfl hg3 hw3 h64 ?_
 by_cases e : checkL ⟨ck, [a1, a2, a3, a4, a5, a6, a7, a8, a9, a10, a11, a12, a13, a14, a15, a16, a17, a18, a19], cg, cw⟩ = 0
 · unfold lnV
   rw [if_pos e, post_SI]
   refine rline_S (c := ⟨ck, [a1, a2, a3, a4, a5, a6, a7, a8, a9, a10, a11, a12, a13, a14, a15, a16, a17, a18, a19], cg, cw⟩) rfl hg3 hw3 h64 ?_
   unfold lnV
   rw [if_pos e, post_SI, bEq, decide_eq_true rfl, Bool.not_true, cond_false]
   refine cNe (fun h => absurd rfl h) fun _ => ?_
   refine cparse_S (by have := lineT_len h64 e; omega) ?_
   rw [parse_line rfl h64 e]
   show PRun Tryd.prog 8 [] [Cm.v _, Cm.v _] _
   refine rsame_S (c := ⟨ck, [a1, a2, a3, a4, a5, a6, a7, a8, a9, a10, a11, a12, a13, a14, a15, a16, a17, a18, a19], cg, cw⟩) rfl hg3 hw3 ?_
   rw [post_B, cond_true]
   exact aw
 · unfold lnV
   rw [if_neg e, post_SI]
   refine rline_S (c := ⟨ck, [a1, a2, a3, a4, a5, a6, a7, a8, a9, a10, a11, a12, a13, a14, a15, a16, a17, a18, a19], cg, cw⟩) rfl hg3 hw3 h64 ?_
   unfold lnV
   rw [if_neg e, post_SI, bEq, decide_eq_true rfl, Bool.not_true, cond_false]
   refine cNe (fun h => absurd rfl h) fun _ => ?_
   refine cparse_S (l := []) (by decide) ?_
   rw [parse_nil]
   refine post_AI (n := List.replicate 19 0) rfl fun b1 b2 b3 b4 b5 b6 b7 b8 b9 b10 b11 b12 b13 b14 b15 b16 b17 b18 b19 _ => ?_
   refine cNe (fun _ => ?_) fun h => absurd h e
   rw [cond_true]
   exact aw
end Go.Proofs.YtaogfopaalancaaDoor
/- The row of DeskLines: whatever it is given it returns true, and what it was given reads as it did. -/
namespace Go.Proofs.YtaogfopaalancaaDoor
open Go Go.Proofs Go.ChangeShapes Go.WideShapes Go.ChangeAt Go.RowKit
set_option maxRecDepth 100000
theorem pair_of : ∀ r : List U, ShU (.i .i64 (.i .i64 .nil)) r → ∃ x : Int × Int, r = eP x ∧ inI x.1 ∧ inI x.2 := by
 rintro r ⟨a, _, rfl, h1, b, _, rfl, h2, h3⟩
 obtain rfl : _ = [] := h3
 exact ⟨(a, b), rfl, in64_of h1, in64_of h2⟩
theorem deskLines_runU {us : List U} {Q : V → Mem → Prop} (k : Q (.u (.b true)) []) (sh : ShU (.i .i64 (.i .i64 (.i .i64 (.i .i64 (.i .i64 (.i .i64 (.i .i64 (.i .i64 (.i .i64 (.i .i64 (.i .i64 (.i .i64 (.i .i64 (.i .i64 (.i .i64 (.i .i64 (.i .i64 (.i .i64 (.i .i64 (.i .i64 (.l 2 (.i .i64 (.i .i64 .nil)) (.l 2 (.i .i64 (.i .i64 .nil)) .nil)))))))))))))))))))))) us) : PRun Tryd.prog 3 [] [.a (us.map .u)] Q := by
 obtain ⟨k0, _, rfl, hk, a1, _, rfl, ha1, a2, _, rfl, ha2, a3, _, rfl, ha3, a4, _, rfl, ha4, a5, _, rfl, ha5, a6, _, rfl, ha6, a7, _, rfl, ha7, a8, _, rfl, ha8, a9, _, rfl, ha9, a10, _, rfl, ha10, a11, _, rfl, ha11, a12, _, rfl, ha12, a13, _, rfl, ha13, a14, _, rfl, ha14, a15, _, rfl, ha15, a16, _, rfl, ha16, a17, _, rfl, ha17, a18, _, rfl, ha18, a19, _, rfl, ha19, rows, _, rfl, hl1, hr1, rows2, _, rfl, hl2, hr2, h0⟩ := sh
 obtain rfl : _ = [] := h0
 obtain ⟨g, rfl, hg⟩ := rows_of pair_of hr1
 obtain ⟨w, rfl, hw⟩ := rows_of pair_of hr2
 rw [List.length_map] at hl1 hl2
 refine deskLines_run (c := ⟨k0, [a1, a2, a3, a4, a5, a6, a7, a8, a9, a10, a11, a12, a13, a14, a15, a16, a17, a18, a19], g, w⟩) rfl ⟨?_, hg, hw⟩ k
 intro x hx
 simp only [List.mem_cons, List.not_mem_nil, or_false] at hx
 rcases hx with rfl | rfl | rfl | rfl | rfl | rfl | rfl | rfl | rfl | rfl | rfl | rfl | rfl | rfl | rfl | rfl | rfl | rfl | rfl
 all_goals exact in64_of (by assumption)
theorem gtab_of {P : Program} {W : World} {name : String} {g t e n : Nat} {k : IntKind} {zs : List Int} (hg : P.globalNamed name = some g) (hty : (P.globals[g]?).map (·.type) = some t)
 (ht : P.underlying t = some (.array n e)) (he : P.underlying e = some (.int k)) (hce : P.cellsOf e = 1) (hct : P.cellsOf t = n) (h : Lib.VarReads P W name (Lib.tabData k zs)) : GTab (fun b => W.heap[b]?) g k zs := by
 obtain ⟨g0, t0, cs, fuel, p, h1, h2, h3, h4⟩ := h
 obtain rfl := Option.some.inj (hg.symm.trans h1)
 obtain rfl := Option.some.inj (hty.symm.trans h2)
 have h5 := Lib.cells_of_tab ht he hce hct h4
 unfold World.var? at h3
 rw [h1, Option.bind_some] at h3
 split at h3
 · rename_i c T z heq
   cases h3
   exact ⟨T, z, heq.trans (by rw [← h5])⟩
 · cases h3
theorem gerr_of {P : Program} {W : World} {name nm : String} {d : DataW Unit} {g t : Nat} {ms : Array (String × TypeId)} (hg : P.globalNamed name = some g) (hty : (P.globals[g]?).map (·.type) = some t)
 (hi : P.underlying t = some (.interface ms)) (h : Lib.VarReads P W name (.iface nm d)) : GErr (fun b => W.heap[b]?) g := by
 obtain ⟨g0, t0, cs, fuel, p, h1, h2, h3, h4⟩ := h
 obtain rfl := Option.some.inj (hg.symm.trans h1)
 obtain rfl := Option.some.inj (hty.symm.trans h2)
 obtain ⟨fuel', u, v, h5, -⟩ := iface_of_trod hi h4
 unfold World.var? at h3
 rw [h1, Option.bind_some] at h3
 split at h3
 · rename_i c T z heq
   cases h3
   exact ⟨u, v, T, z, heq.trans (by obtain ⟨l⟩ := cs; rw [show l = _ from h5])⟩
 · cases h3
theorem gnum_of {W : World} (hsh : W.ShapedOpen Tryd.prog) (h : ∃ m, W.cell? ⟨2, 0, none⟩ = some (.int .i64 m)) : GNum (fun b => W.heap[b]?) 2 := by
 obtain ⟨cs, h1, h2, -⟩ := hsh.1 2 #[.int .i64 0] 3 (of_decide_eq_true (by kernel_rfl)) (by kernel_rfl)
 obtain ⟨m, hm⟩ := h
 unfold World.cell? at hm
 rw [show W.heap[(2 : Nat)]? = _ from h1] at hm
 obtain ⟨l⟩ := cs
 have h2 : l.length = 1 := h2
 match l, h2 with
 | [v], _ =>
   have hm : some v = some (Value.int .i64 m) := hm
   cases hm
   exact ⟨m, 3, (0, 0), h1⟩
theorem glH_of {W : World} (hL : laidMetH Tryd.prog Rows.deskLinesRow.laid W) (hsh : W.ShapedOpen Tryd.prog) : GlH W.heap := by
 rw [MakeChecks.laidMetH_plain _ _ _ (by kernel_rfl)] at hL
 refine ⟨⟨?_, ?_, ?_, ?_, ?_⟩⟩
 · exact gtab_of (name := "strings.asciiSpace") (by kernel_rfl) (by kernel_rfl) Tryd.underlying72 Tryd.underlying5 (by kernel_rfl) (by kernel_rfl) (Lib.laidMet.reads hL (List.mem_of_getElem? (i := 7) (by kernel_rfl)))
 · exact gtab_of (name := "internal/strconv.uint64pow10") (by kernel_rfl) (by kernel_rfl) Tryd.underlying116 Tryd.underlying87 (by kernel_rfl) (by kernel_rfl) (Lib.laidMet.reads hL (List.mem_of_getElem? (i := 2) (by kernel_rfl)))
 · exact gerr_of (by kernel_rfl) (by kernel_rfl) Tryd.underlying54 (Lib.laidMet.reads hL (n := "strconv.ErrSyntax") (List.mem_of_getElem? (i := 5) rfl))
 · exact gerr_of (by kernel_rfl) (by kernel_rfl) Tryd.underlying54 (Lib.laidMet.reads hL (n := "strconv.ErrRange") (List.mem_of_getElem? (i := 4) rfl))
 · exact gnum_of hsh (Tryd.laysM146.s1_3 W hsh)
theorem handed_laid {H : Type} {enc : TypeId × Value → H} {a : Assume} {C : Checked} {os : Os} {f : FuncId} {fn : Func} {s : ChangeSpec} {conds : List PathCond} {apart fresh handsOn again : Bool} {X : World → Array Value → Prop}
 (hX : ∀ (w w' : World) (args : Array Value), w.heap = w'.heap → X w args → X w' args)
 (own : ownKnob C.prog.godebug = none) (started : os.Started) (noInit : C.prog.inits.idxOf? f = none) (hfn : C.prog.funcs[f]? = some fn)
 (witness : ∃ (w : World) (tape : Tape) (i : Input), w.os = os ∧ (w.forCall tape i).Shaped C.prog ∧ i.vars = [] ∧ Input.okWide C.prog (w.forCall tape i) .any w.heap.size f i ∧
  ((s.pre enc C.prog fn conds apart (w.forCall tape i).memory i.args ∧ X (w.forCall tape i).memory i.args) ∧ sizedMet enc C.prog fn (OpenSpec.ofChange s) apart (w.forCall tape i).memory i.args) ∧ a.holds C.prog (lone (Frame.enter C.prog f i.args .normal) [] (w.forCall tape i)))
 (contract : ∀ (W : World) (base : Nat) (args : Array Value) (ds gs : List (DataW H)) (before : List MemPlace),
  (∀ (j : Nat) t v, fn.params[j]? = some t → args[j]? = some v → Value.okWide C.prog W .any base t v) →
  DataW.Whole enc C.prog fn.params.toList s.vars apart W args.toList ds gs before → X W args → W.ShapedOpen C.prog →
  Calls C.prog f args W fun e W' => ∃ v, e = .returned v ∧ s.post enc C.prog fn apart fresh handsOn again W args v W') :
 ReturnsInHanded a C os f .any (fun w args => (s.pre enc C.prog fn conds apart w args ∧ X w args) ∧ sizedMet enc C.prog fn (OpenSpec.ofChange s) apart w args) (s.post enc C.prog fn apart fresh handsOn again) := by
 refine returnsInHanded_of_calls own started noInit witness ?_
 intro w tape i _ hsh _ hok hpre _
 obtain ⟨_, _, _, fn', hfn', _, _, _, _, hval⟩ := hok
 have e : fn' = fn := Option.some.inj (hfn'.symm.trans hfn)
 subst e
 obtain ⟨⟨⟨ds, gs, before, hw, -⟩, hx⟩, -⟩ := hpre
 have hw' := DataW.Whole.of_heap (w' := w.forCall tape i) (by rfl) hw
 refine (contract (w.forCall tape i) w.heap.size i.args ds gs before hval hw' (hX _ _ _ (by rfl) hx) hsh).mono fun e W' ⟨v, he, hp⟩ => ?_
 subst he
 exact ChangeSpec.post_blind hp
theorem deskLines_lifted (os : Os) (started : os.Started) (H : Type) (enc : TypeId × Value → H) :
 ReturnsInHanded {} Tryd.checked os 3 .any (fun w args => (Rows.deskLinesSpec.pre enc Tryd.prog Tryd.f3 Rows.deskLinesRow.domain false w args ∧ laidMetH Tryd.prog Rows.deskLinesRow.laid w) ∧ sizedMet enc Tryd.prog Tryd.f3 (OpenSpec.ofChange Rows.deskLinesSpec) false w args) (Rows.deskLinesSpec.post enc Tryd.prog Tryd.f3 false true false false) := by
 refine handed_laid (C := Tryd.checked) (X := fun w _ => laidMetH Tryd.prog Rows.deskLinesRow.laid w) (fun _ _ _ hh h => h.of_heap hh) Tryd.own started (by kernel_rfl) Tryd.func3
  (ChangeSpec.witness_shaped (enc := enc) (C := Tryd.checked) (os := os) (X := fun w _ => laidMetH Tryd.prog Rows.deskLinesRow.laid w) false (World.laidAll Tryd.prog os Rows.deskLinesRow.laid) #[.agg #[.int .i64 0, .int .i64 0, .int .i64 0, .int .i64 0, .int .i64 0, .int .i64 0, .int .i64 0, .int .i64 0, .int .i64 0, .int .i64 0, .int .i64 0, .int .i64 0, .int .i64 0, .int .i64 0, .int .i64 0, .int .i64 0, .int .i64 0, .int .i64 0, .int .i64 0, .int .i64 0, .slice none 0 0, .slice none 0 0]] 8 (World.laidAll_os _ _ _)
   (World.shaped_of_ZipB (by kernel_rfl) (by kernel_rfl)) (by kernel_rfl) (by kernel_rfl) (by kernel_rfl)
   (by rw [MakeChecks.laidMetH_plain _ _ _ (by kernel_rfl)]; exact laidMet_laidAll _ (by kernel_rfl) (by kernel_rfl))) ?_
 intro W base args ds gs before hval0 hW hL hsh
 haveI : GlH W.heap := glH_of hL hsh
 have hval : ∀ (j : Nat) t v, Tryd.f3.params[j]? = some t → args[j]? = some v → Value.okWide Tryd.prog W .any base t v := hval0
 have hW' := hW
 obtain ⟨p, q, hA0, hV, rfl, hfz, hnd⟩ := hW
 have hA : DataW.TrodAll enc Tryd.prog W 0 (fun _ => true) true Tryd.f3.params.toList args.toList ds p := hA0
 rw [Tryd.params3] at hA hval
 obtain ⟨v0, d0, rfl, rfl, h0⟩ := trodAll_one hA
 obtain ⟨rfl, rfl⟩ := trodVars_none hV
 obtain ⟨us0, hr0, sh0⟩ := open_data (ds := (.i .i64 (.i .i64 (.i .i64 (.i .i64 (.i .i64 (.i .i64 (.i .i64 (.i .i64 (.i .i64 (.i .i64 (.i .i64 (.i .i64 (.i .i64 (.i .i64 (.i .i64 (.i .i64 (.i .i64 (.i .i64 (.i .i64 (.i .i64 (.l 2 (.i .i64 (.i .i64 .nil)) (.l 2 (.i .i64 (.i .i64 .nil)) .nil))))))))))))))))))))))) (by kernel_rfl) h0
 obtain ⟨cs0, rfl⟩ : ∃ cs, v0 = .agg cs := by
  have hv := hval 0 24 v0 rfl rfl
  unfold Value.okWide at hv
  rw [Tryd.underlying24] at hv
  obtain ⟨cs, rfl, -⟩ := hv
  exact ⟨cs, rfl⟩
 clear hA0 hval0
 refine ((deskLines_runU (Q := fun v _ => v = .u (.b true)) rfl sh0 (allD W.heap) [] [] [] W.heap _ (SAt.all W.heap) (.cons (rp_agg hr0) (.nil))).2 W rfl).mono ?_
 rintro e W' ⟨v, rfl, ⟨D', ρ', chs', x, m', le, M', hv, rfl⟩, hsm⟩
 obtain rfl : v = .bool true := by cases hv with | u h => cases h; rfl
 have hb := belowOf (St.kept le M'.st) hsm
 have hlt0 : ∀ x ∈ p, x.block < W.heap.size := fun x hx => by simpa using hW'.lt x (by simp [hx])
 exact ⟨_, rfl, _, _, _, [], _, [], hW', trodAll_mk1 (shut_bool Tryd.underlying4 true), trodAll_mk1 (hb.trod Tryd.laidOut (by kernel_rfl) (of_decide_eq_true (by kernel_rfl)) h0 hlt0), rfl, hb.frame _, fun h => by cases h⟩
theorem deskLines_holds : Rows.DeskLinesSaid :=
 OpenClaim.holds_of_wide 3 Tryd.f3 rfl rfl rfl rfl rfl rfl rfl ⟨rfl, rfl, rfl, rfl, rfl⟩ rfl rfl rfl rfl rfl (by kernel_rfl) Tryd.func3 (by kernel_rfl)
  (of_decide_eq_true (by kernel_rfl)) (by unfold Func.isWrapper; first | (rw [if_pos (by decide +kernel)]; kernel_rfl) | (rw [if_neg (by decide +kernel)]; exact ⟨rfl, rfl⟩))
  (fun os started H enc _ => deskLines_lifted os started H enc)
theorem deskLinesCard_holds : Rows.DeskLinesCardSaid :=
 Claim7.holds_tied_plain_at .later [] [.data, .data, .data, .data, .sentinel, .sentinel, .listed, .data, .pinned] true (true, "121905efcd81e9764724f981b1710185eac46d81543dde7f22c88241b5fd5331") true deskLines_holds (fun _ h => by cases h) (by kernel_rfl) (fun _ h => by cases h) deskLines_row_tie rfl ⟨rfl, rfl⟩ (by kernel_rfl) rfl
  (fun f fn hf hfn => by
   obtain rfl : f = 3 := Option.some.inj ((show Tryd.prog.funcNamed "bottomry/bottomrylaw37.DeskLines" = some 3 by kernel_rfl).symm.trans hf) |>.symm
   obtain rfl : fn = Tryd.f3 := (Option.some.inj (Tryd.func3.symm.trans hfn)).symm
   exact ⟨by kernel_rfl, fun j t ht => by
    rw [Tryd.params3] at ht
    have hm : t ∈ [24] := by simpa using Array.mem_of_getElem? ht
    have hall : ([24].all fun u => !Tryd.prog.wantsStandIn u) = true := by kernel_rfl
    exact (show Tryd.prog.wantsStandIn t = false by simpa using List.all_eq_true.1 hall t hm)⟩)
  (by kernel_rfl)
end Go.Proofs.YtaogfopaalancaaDoor
