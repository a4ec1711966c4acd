/- The row of MarketNobody: whatever it is given it returns true, and what it was given reads as it did. -/
import Derived.Test.YtalglagdgabafaaGreatHq6
import Derived.Test.YtalglagdgabafaaGreatRows
import Derived.ProofKit
import Derived.Deep.SlicePairs
/- A run, piece by piece: printed by program (ez2.py). -/
set_option linter.unusedVariables false
set_option maxRecDepth 1000000
namespace Go.Proofs.YtalglagdgabafaaGreat
open Go Go.Proofs
noncomputable section
noncomputable abbrev nbEXev := Ev Tryz.prog (speKn (speWhole whp) [7, 8, 9, 11, 12, 13, 15, 16, 17, 21, 22, 23, 24, 25, 26, 27, 28, 73]) (List.range 600) 300 60 5
noncomputable abbrev nbEXevO := EvO Tryz.prog (speKn (speWhole whp) [7, 8, 9, 11, 12, 13, 15, 16, 17, 21, 22, 23, 24, 25, 26, 27, 28, 73]) (List.range 600) 300 60
noncomputable abbrev nbEXevD := EvD Tryz.prog (speKn (speWhole whp) [7, 8, 9, 11, 12, 13, 15, 16, 17, 21, 22, 23, 24, 25, 26, 27, 28, 73]) (List.range 600) 300 60
noncomputable abbrev nbEXevL := EvL Tryz.prog (speKn (speWhole whp) [7, 8, 9, 11, 12, 13, 15, 16, 17, 21, 22, 23, 24, 25, 26, 27, 28, 73]) (List.range 600) 300 60 5
noncomputable abbrev nbEXevE := EvE Tryz.prog (speKn (speWhole whp) [7, 8, 9, 11, 12, 13, 15, 16, 17, 21, 22, 23, 24, 25, 26, 27, 28, 73]) (List.range 600) 300 60
def nbEXT0 (v : NbV) : Fr := frameF Tryz.prog Tryz.f5 [.a [.i v.c1, .u (.l 7 v.c2), .i v.c3, .u (.l 4 v.c4), .i v.c5, .i v.c6, .i v.c7, .i v.c8], .a [.i v.a9, .i v.a10, .i v.a11, .i v.a12, .i v.a13, .i v.a14, .i v.a15, .i v.a16, .i v.a17, .i v.a18, .i v.a19, .i v.a20, .i v.a21, .i v.a22, .i v.a23, .i v.a24, .i v.a25, .u (.l 2 v.a26), .u (.l 2 v.a27), .i v.a28, .i v.a29, .i v.a30, .i v.a31]]
def nbEXM0 (v : NbV) : Mem := []
noncomputable abbrev nbEXC1 : Code := bodyOf Tryz.f5
def nbEXT1 (v : NbV) : Fr := puF (nbFT1 v) []
def nbEXM2 (v : NbV) : Mem := [.c [.i v.c1, .u (.l 7 v.c2), .i v.c3, .u (.l 4 v.c4), .i v.c5, .i v.c6, .i v.c7, .i v.c8],
  .c [.i v.a9, .i v.a10, .i v.a11, .i v.a12, .i v.a13, .i v.a14, .i v.a15, .i v.a16, .i v.a17, .i v.a18, .i v.a19, .i v.a20, .i v.a21, .i v.a22, .i v.a23, .i v.a24, .i v.a25, .u (.l 2 v.a26), .u (.l 2 v.a27), .i v.a28, .i v.a29, .i v.a30, .i v.a31]]
noncomputable abbrev nbEXC2 : Code := dropK 1 nbEXC1
noncomputable abbrev nbEXC3 : Code := cL nbEXC2
noncomputable abbrev nbEXC4 : Code := cL nbEXC3
def nbEXT3 (v : NbV) : Fr := puF (nbFT3 v) []
def nbEXT4 (v : NbV) : Fr := puF (nbGT4 v) []
def nbEXM5 (v : NbV) : Mem := paM (nbEXM2 v) [] [.w 46 23 [[.n v.a9, .n v.a10, .n v.a11, .n v.a12, .n v.a13, .n v.a14, .n v.a15, .n v.a16, .n v.a17, .n v.a18, .n v.a19, .n v.a20, .n v.a21, .n v.a22, .n v.a23, .n v.a24, .n v.a25, .l 2 v.a26, .l 2 v.a27, .n v.a28, .n v.a29, .n v.a30, .n v.a31]]]
def nbEXT6 (v : NbV) : Fr := puF (nbE0T6 v) []
theorem nbEXn1 (v : NbV) (H : NbH v true true v.e false false) : nbEXevO (cOp nbEXC4) (((cOp nbEXC4).drop 2).drop 5) ((cPut (opAt ((cOp nbEXC4).drop 2) 4).dst).p (nbEXT4 v) (renV (fK [2] ((nbEXM5 v)).length) (.u (.b true)))) (backM (nbEXM5 v) [2] ([.w 46 23 [[.n v.a9, .n v.a10, .n v.a11, .n v.a12, .n v.a13, .n v.a14, .n v.a15, .n v.a16, .n v.a17, .n v.a18, .n v.a19, .n v.a20, .n v.a21, .n v.a22, .n v.a23, .n v.a24, .n v.a25, .l 2 v.a26, .l 2 v.a27, .n v.a28, .n v.a29, .n v.a30, .n v.a31]]])) [((nbEXT6 v), (nbEXM5 v))] := EvO.ops (by kernel_rfl)
theorem nbEXn2 (v : NbV) (H : NbH v true true v.e false false) : nbEXevO (cOp nbEXC4) ((cOp nbEXC4).drop 2) ((cPut (opAt (cOp nbEXC4) 1).dst).p (nbEXT3 v) (renV (fK [] ((nbEXM2 v)).length) (.u (.b true)))) (backM (nbEXM2 v) [] ([])) [((nbEXT6 v), (nbEXM5 v))] := EvO.call (k := 4) (t1 := (nbEXT4 v)) (m1 := (nbEXM5 v)) (args := [.w 2, .i 1]) (a := []) (cc := []) _ (by kernel_rfl) (by kernel_rfl) (by kernel_rfl) (by kernel_rfl) (by kernel_rfl) (by kernel_rfl) (by kernel_rfl) (by decide) (by kernel_rfl) (by kernel_rfl) (by kernel_rfl) H.hG (nbEXn1 v H)
theorem nbEXn3 (v : NbV) (H : NbH v true true v.e false false) : nbEXevO (cOp nbEXC4) (cOp nbEXC4) ((nbEXT1 v)) ((nbEXM2 v)) [((nbEXT6 v), (nbEXM5 v))] := EvO.call (k := 1) (t1 := (nbEXT3 v)) (m1 := (nbEXM2 v)) (args := [.a [.i v.c1, .u (.l 7 v.c2), .i v.c3, .u (.l 4 v.c4), .i v.c5, .i v.c6, .i v.c7, .i v.c8]]) (a := []) (cc := []) _ (by kernel_rfl) (by kernel_rfl) (by kernel_rfl) (by kernel_rfl) (by kernel_rfl) (by kernel_rfl) (by kernel_rfl) (by decide) (by kernel_rfl) (by kernel_rfl) (by kernel_rfl) H.hF (nbEXn2 v H)
theorem nbEXn4 (v : NbV) (H : NbH v true true v.e false false) : nbEXev nbEXC4 (nbEXT1 v) (nbEXM2 v) [(.nrm, (nbEXT6 v), (nbEXM5 v))] := Ev.reg (outs := [((nbEXT6 v), (nbEXM5 v))]) (by kernel_rfl) (by kernel_rfl) (nbEXn3 v H)
noncomputable abbrev nbEXC5 : Code := cR nbEXC3
noncomputable abbrev nbEXC6 : Code := cF nbEXC5
def nbEXT7 (v : NbV) : Fr := puF (nbE0T6 v) []
theorem nbEXn5 (v : NbV) (H : NbH v true true v.e false false) : nbEXev nbEXC6 (nbEXT6 v) (nbEXM5 v) [(.nrm, (nbEXT7 v), (nbEXM5 v))] := Ev.code (by kernel_rfl)
theorem nbEXn6 (v : NbV) (H : NbH v true true v.e false false) : nbEXev nbEXC5 (nbEXT6 v) (nbEXM5 v) [(.nrm, (nbEXT7 v), (nbEXM5 v))] := Ev.condF (by kernel_rfl) (by kernel_rfl) (nbEXn5 v H)
theorem nbEXn7 (v : NbV) (H : NbH v true true v.e false false) : nbEXev nbEXC3 (nbEXT1 v) (nbEXM2 v) [(.nrm, (nbEXT7 v), (nbEXM5 v))] := Ev.seqP (by kernel_rfl) (nbEXn4 v H) (nbEXn6 v H)
noncomputable abbrev nbEXC7 : Code := cR nbEXC2
noncomputable abbrev nbEXC8 : Code := cL nbEXC7
def nbEXT8 (v : NbV) : Fr := puF (nbE0T6 v) []
def nbEXT9 (v : NbV) : Fr := puF (nbE0T6 v) [(5, .r 3 0), (6, .i 0), (35, .t [.r 3 0, .i 0]), (36, .t [.r 3 0, .i 0]), (37, .r 3 0), (38, .i 0)]
def nbEXM10 (v : NbV) : Mem := paM (nbEXM5 v) [] [.c [.nl 3, .m 4, .i 4, .i 1],
  .p .n 1 false []]
theorem nbEXn8 (v : NbV) (H : NbH v true true v.e false false) : nbEXevO (cOp nbEXC8) ((cOp nbEXC8).drop 1) ((cPut (opAt (cOp nbEXC8) 0).dst).p (nbEXT8 v) (renV (fK [] ((nbEXM5 v)).length) (.t [.r 0 0, .i 0]))) (backM (nbEXM5 v) [] ((nbE0k1Mm v))) [((nbEXT9 v), (nbEXM10 v))] := EvO.ops (by kernel_rfl)
theorem nbEXn9 (v : NbV) (H : NbH v true true v.e false false) : nbEXevO (cOp nbEXC8) (cOp nbEXC8) ((nbEXT7 v)) ((nbEXM5 v)) [((nbEXT9 v), (nbEXM10 v))] := EvO.call (k := 0) (t1 := (nbEXT8 v)) (m1 := (nbEXM5 v)) (args := [.i 4]) (a := []) (cc := []) _ (by kernel_rfl) (by kernel_rfl) (by kernel_rfl) (by kernel_rfl) (by kernel_rfl) (by kernel_rfl) (by kernel_rfl) (by decide) (by kernel_rfl) (by kernel_rfl) (by kernel_rfl) (nbE0k1_run v) (nbEXn8 v H)
theorem nbEXn10 (v : NbV) (H : NbH v true true v.e false false) : nbEXev nbEXC8 (nbEXT7 v) (nbEXM5 v) [(.nrm, (nbEXT9 v), (nbEXM10 v))] := Ev.reg (outs := [((nbEXT9 v), (nbEXM10 v))]) (by kernel_rfl) (by kernel_rfl) (nbEXn9 v H)
noncomputable abbrev nbEXC9 : Code := cR nbEXC7
noncomputable abbrev nbEXC10 : Code := cL nbEXC9
def nbEXT11 (v : NbV) : Fr := puF (nbE0T17 v) [(7, .z), (8, .z), (39, .z), (48, .z), (49, .z), (50, .z), (51, .z), (52, .z), (53, .z), (54, .z), (55, .z), (56, .z)]
def nbEXM12 (v : NbV) : Mem := paM (nbEXM10 v) [] [.c [.nl 5, .i 0],
  .c [.nl 5, .n .i64 33 [0, 0, 0, 0, 0, 0, 0, 0, 0, 0, 0, 0, 0, 0, 0, 0, 0, 0, 0, 0, 0, 0, 0, 0, 0, 0, 0, 0, 0, 0, 0, 0, 0]],
  .c [.nl 4, .nm]]
noncomputable abbrev nbEXk25ev := Ev Tryz.prog (speKn (speWhole whp) [27]) (List.range 600) 300 60 23
noncomputable abbrev nbEXk25evO := EvO Tryz.prog (speKn (speWhole whp) [27]) (List.range 600) 300 60
def nbEXk25T0 (v : NbV) : Fr := frameF Tryz.prog Tryz.f23 [.a [.i v.c1, .u (.l 7 v.c2), .i v.c3, .u (.l 4 v.c4), .i v.c5, .i v.c6, .i v.c7, .i v.c8], .r 0 0, .r 1 0, .r 2 0, .r 3 0]
def nbEXk25M0 (v : NbV) : Mem := [.c [.nl 5, .i 0],
  .c [.nl 5, .n .i64 33 [0, 0, 0, 0, 0, 0, 0, 0, 0, 0, 0, 0, 0, 0, 0, 0, 0, 0, 0, 0, 0, 0, 0, 0, 0, 0, 0, 0, 0, 0, 0, 0, 0]],
  .c [.nl 3, .m 4, .i 4, .i 1],
  .c [.nl 4, .nm],
  .p .n 1 false []]
noncomputable abbrev nbEXk25C1 : Code := bodyOf Tryz.f23
def nbEXk25T1 (v : NbV) : Fr := puF (nbE0k2T1 v) []
def nbEXk25M2 (v : NbV) : Mem := paM (nbEXk25M0 v) [] [.c [.i v.c1, .u (.l 7 v.c2), .i v.c3, .u (.l 4 v.c4), .i v.c5, .i v.c6, .i v.c7, .i v.c8]]
noncomputable abbrev nbEXk25C2 : Code := dropK 1 nbEXk25C1
noncomputable abbrev nbEXk25C3 : Code := cL nbEXk25C2
def nbEXk25T3 (v : NbV) : Fr := puF (nbE0k2T3 v) []
noncomputable abbrev nbEXk25k26ev := Ev Tryz.prog (speKn (speWhole whp) [73]) (List.range 600) 300 60 27
noncomputable abbrev nbEXk25k26evO := EvO Tryz.prog (speKn (speWhole whp) [73]) (List.range 600) 300 60
def nbEXk25k26T0 (v : NbV) : Fr := frameF Tryz.prog Tryz.f27 [.a [.i v.c1, .u (.l 7 v.c2), .i v.c3, .u (.l 4 v.c4), .i v.c5, .i v.c6, .i v.c7, .i v.c8], .r 0 0, .r 1 0, .r 2 0, .r 3 0, .nl 0]
def nbEXk25k26M0 (v : NbV) : Mem := [.c [.nl 5, .i 0],
  .c [.nl 5, .n .i64 33 [0, 0, 0, 0, 0, 0, 0, 0, 0, 0, 0, 0, 0, 0, 0, 0, 0, 0, 0, 0, 0, 0, 0, 0, 0, 0, 0, 0, 0, 0, 0, 0, 0]],
  .c [.nl 3, .m 4, .i 4, .i 1],
  .c [.nl 4, .nm],
  .p .n 1 false []]
noncomputable abbrev nbEXk25k26C1 : Code := bodyOf Tryz.f27
def nbEXk25k26T1 (v : NbV) : Fr := puF (nbE0k2k3T1 v) []
def nbEXk25k26M2 (v : NbV) : Mem := paM (nbEXk25k26M0 v) [] [.c [.i v.c1, .u (.l 7 v.c2), .i v.c3, .u (.l 4 v.c4), .i v.c5, .i v.c6, .i v.c7, .i v.c8]]
noncomputable abbrev nbEXk25k26C2 : Code := dropK 1 nbEXk25k26C1
noncomputable abbrev nbEXk25k26C3 : Code := cL nbEXk25k26C2
noncomputable abbrev nbEXk25k26C4 : Code := cL nbEXk25k26C3
def nbEXk25k26T3 (v : NbV) : Fr := puF (nbE0k2k3T3 v) []
def nbEXk25k26T4 (v : NbV) : Fr := puF (nbE0k2k3T3 v) [(14, .i v.e), (18, .i v.e)]
theorem nbEXk25k26n1 (v : NbV) (H : NbH v true true v.e false false) : nbEXk25k26evO (cOp nbEXk25k26C4) ((cOp nbEXk25k26C4).drop 2) ((cPut (opAt (cOp nbEXk25k26C4) 1).dst).p (nbEXk25k26T3 v) (renV (fK [] ((nbEXk25k26M2 v)).length) (.i v.e))) (backM (nbEXk25k26M2 v) [] ([])) [((nbEXk25k26T4 v), (nbEXk25k26M2 v))] := EvO.ops (by kernel_rfl)
theorem nbEXk25k26n2 (v : NbV) (H : NbH v true true v.e false false) : nbEXk25k26evO (cOp nbEXk25k26C4) (cOp nbEXk25k26C4) ((nbEXk25k26T1 v)) ((nbEXk25k26M2 v)) [((nbEXk25k26T4 v), (nbEXk25k26M2 v))] := EvO.call (k := 1) (t1 := (nbEXk25k26T3 v)) (m1 := (nbEXk25k26M2 v)) (args := [.a [.i v.c1, .u (.l 7 v.c2), .i v.c3, .u (.l 4 v.c4), .i v.c5, .i v.c6, .i v.c7, .i v.c8]]) (a := []) (cc := []) _ (by kernel_rfl) (by kernel_rfl) (by kernel_rfl) (by kernel_rfl) (by kernel_rfl) (by kernel_rfl) (by kernel_rfl) (by decide) (by kernel_rfl) (by kernel_rfl) (by kernel_rfl) H.hC (nbEXk25k26n1 v H)
theorem nbEXk25k26n3 (v : NbV) (H : NbH v true true v.e false false) : nbEXk25k26ev nbEXk25k26C4 (nbEXk25k26T1 v) (nbEXk25k26M2 v) [(.nrm, (nbEXk25k26T4 v), (nbEXk25k26M2 v))] := Ev.reg (outs := [((nbEXk25k26T4 v), (nbEXk25k26M2 v))]) (by kernel_rfl) (by kernel_rfl) (nbEXk25k26n2 v H)
noncomputable abbrev nbEXk25k26C5 : Code := cR nbEXk25k26C3
noncomputable abbrev nbEXk25k26C6 : Code := cL nbEXk25k26C5
def nbEXk25k26T5 (v : NbV) : Fr := puF (nbEXk25k26T4 v) [(19, .i v.e)]
def nbEXk25k26T6 (v : NbV) : Fr := puF (nbEXk25k26T5 v) [(20, .u (.b true))]
theorem nbEXk25k26n4 (v : NbV) (H : NbH v true true v.e false false) : nbEXk25k26evO (cOp nbEXk25k26C6) ((cOp nbEXk25k26C6).drop 2) ((cPut (opAt (cOp nbEXk25k26C6) 1).dst).p (nbEXk25k26T5 v) (.u (.b true))) ((nbEXk25k26M2 v)) [((nbEXk25k26T6 v), (nbEXk25k26M2 v))] := EvO.ops (by kernel_rfl)
theorem nbEXk25k26n5 (v : NbV) (H : NbH v true true v.e false false) : nbEXk25k26evO (cOp nbEXk25k26C6) (cOp nbEXk25k26C6) ((nbEXk25k26T4 v)) ((nbEXk25k26M2 v)) [((nbEXk25k26T6 v), (nbEXk25k26M2 v))] := EvO.op (k := 1) (t1 := (nbEXk25k26T5 v)) (t2 := (nbEXk25k26T5 v)) (m1 := (nbEXk25k26M2 v)) (v := .u (.b true)) (by kernel_rfl) (by kernel_rfl) (by kernel_rfl) (by kernel_rfl) (by kernel_rfl) (symN (b := eqF v.e 0) (by kernel_rfl) H.he rfl) (nbEXk25k26n4 v H)
theorem nbEXk25k26n6 (v : NbV) (H : NbH v true true v.e false false) : nbEXk25k26ev nbEXk25k26C6 (nbEXk25k26T4 v) (nbEXk25k26M2 v) [(.nrm, (nbEXk25k26T6 v), (nbEXk25k26M2 v))] := Ev.reg (outs := [((nbEXk25k26T6 v), (nbEXk25k26M2 v))]) (by kernel_rfl) (by kernel_rfl) (nbEXk25k26n5 v H)
noncomputable abbrev nbEXk25k26C7 : Code := cR nbEXk25k26C5
def nbEXk25k26T7 (v : NbV) : Fr := puF (nbEXk25k26T6 v) [(13, .i v.e), (21, .i v.e)]
theorem nbEXk25k26n7 (v : NbV) (H : NbH v true true v.e false false) : nbEXk25k26ev nbEXk25k26C7 (nbEXk25k26T6 v) (nbEXk25k26M2 v) [(.ret, (nbEXk25k26T7 v), (nbEXk25k26M2 v))] := Ev.code (by kernel_rfl)
theorem nbEXk25k26n8 (v : NbV) (H : NbH v true true v.e false false) : nbEXk25k26ev nbEXk25k26C5 (nbEXk25k26T4 v) (nbEXk25k26M2 v) [(.ret, (nbEXk25k26T7 v), (nbEXk25k26M2 v))] := Ev.seqP (by kernel_rfl) (nbEXk25k26n6 v H) (nbEXk25k26n7 v H)
theorem nbEXk25k26n9 (v : NbV) (H : NbH v true true v.e false false) : nbEXk25k26ev nbEXk25k26C3 (nbEXk25k26T1 v) (nbEXk25k26M2 v) [(.ret, (nbEXk25k26T7 v), (nbEXk25k26M2 v))] := Ev.seqP (by kernel_rfl) (nbEXk25k26n3 v H) (nbEXk25k26n8 v H)
theorem nbEXk25k26n10 (v : NbV) (H : NbH v true true v.e false false) : nbEXk25k26ev nbEXk25k26C2 (nbEXk25k26T1 v) (nbEXk25k26M2 v) [(.ret, (nbEXk25k26T7 v), (nbEXk25k26M2 v))] := Ev.seqE (by intro h; cases h) (by kernel_rfl) (nbEXk25k26n9 v H)
theorem nbEXk25k26n11 (v : NbV) (H : NbH v true true v.e false false) : nbEXk25k26ev nbEXk25k26C1 (nbEXk25k26T0 v) (nbEXk25k26M0 v) [(.ret, (nbEXk25k26T7 v), (nbEXk25k26M2 v))] := Ev.pieces (k := 1) (t1 := (nbEXk25k26T1 v)) (m1 := (nbEXk25k26M2 v)) (by kernel_rfl) (nbEXk25k26n10 v H)
def nbEXk25k26Mm (v : NbV) : Mem := [.c [.nl 5, .i 0],
  .c [.nl 5, .n .i64 33 [0, 0, 0, 0, 0, 0, 0, 0, 0, 0, 0, 0, 0, 0, 0, 0, 0, 0, 0, 0, 0, 0, 0, 0, 0, 0, 0, 0, 0, 0, 0, 0, 0]],
  .c [.nl 3, .m 4, .i 4, .i 1],
  .c [.nl 4, .nm],
  .p .n 1 false []]
theorem nbEXk25k26_run (v : NbV) (H : NbH v true true v.e false false) : PRun Tryz.prog 27 (nbEXk25k26M0 v) [.a [.i v.c1, .u (.l 7 v.c2), .i v.c3, .u (.l 4 v.c4), .i v.c5, .i v.c6, .i v.c7, .i v.c8], .r 0 0, .r 1 0, .r 2 0, .r 3 0, .nl 0] fun x m => x = .t [.u (.p none), .i v.e] ∧ m = (nbEXk25k26Mm v) :=
  Ev.runT (by kernel_rfl) Tryz.func27 (by kernel_rfl) (c := nbEXk25k26C1) (by kernel_rfl) (r := (.ret, (nbEXk25k26T7 v), (nbEXk25k26M2 v))) (nbEXk25k26n11 v H) (y := (.t [.u (.p none), .i v.e], (nbEXk25k26Mm v))) (by kernel_rfl)
def nbEXk25T4 (v : NbV) : Fr := puF (nbE0k2T3 v) [(11, .i v.e), (17, .t [.u (.p none), .i v.e]), (18, .u (.p none)), (19, .i v.e)]
theorem nbEXk25n1 (v : NbV) (H : NbH v true true v.e false false) : nbEXk25evO (cOp nbEXk25C3) ((cOp nbEXk25C3).drop 6) ((cPut (opAt (cOp nbEXk25C3) 5).dst).p (nbEXk25T3 v) (renV (fK [0, 1, 2, 3, 4] ((nbEXk25M2 v)).length) (.t [.u (.p none), .i v.e]))) (backM (nbEXk25M2 v) [0, 1, 2, 3, 4] ((nbEXk25k26Mm v))) [((nbEXk25T4 v), (nbEXk25M2 v))] := EvO.ops (by kernel_rfl)
theorem nbEXk25n2 (v : NbV) (H : NbH v true true v.e false false) : nbEXk25evO (cOp nbEXk25C3) (cOp nbEXk25C3) ((nbEXk25T1 v)) ((nbEXk25M2 v)) [((nbEXk25T4 v), (nbEXk25M2 v))] := EvO.call (k := 5) (t1 := (nbEXk25T3 v)) (m1 := (nbEXk25M2 v)) (args := [.a [.i v.c1, .u (.l 7 v.c2), .i v.c3, .u (.l 4 v.c4), .i v.c5, .i v.c6, .i v.c7, .i v.c8], .r 0 0, .r 1 0, .r 2 0, .r 3 0, .nl 0]) (a := []) (cc := []) _ (by kernel_rfl) (by kernel_rfl) (by kernel_rfl) (by kernel_rfl) (by kernel_rfl) (by kernel_rfl) (by kernel_rfl) (by decide) (by kernel_rfl) (by kernel_rfl) (by kernel_rfl) (nbEXk25k26_run v H) (nbEXk25n1 v H)
theorem nbEXk25n3 (v : NbV) (H : NbH v true true v.e false false) : nbEXk25ev nbEXk25C3 (nbEXk25T1 v) (nbEXk25M2 v) [(.nrm, (nbEXk25T4 v), (nbEXk25M2 v))] := Ev.reg (outs := [((nbEXk25T4 v), (nbEXk25M2 v))]) (by kernel_rfl) (by kernel_rfl) (nbEXk25n2 v H)
noncomputable abbrev nbEXk25C4 : Code := cR nbEXk25C2
def nbEXk25T5 (v : NbV) : Fr := puF (nbEXk25T4 v) []
theorem nbEXk25n4 (v : NbV) (H : NbH v true true v.e false false) : nbEXk25ev nbEXk25C4 (nbEXk25T4 v) (nbEXk25M2 v) [(.ret, (nbEXk25T5 v), (nbEXk25M2 v))] := Ev.code (by kernel_rfl)
theorem nbEXk25n5 (v : NbV) (H : NbH v true true v.e false false) : nbEXk25ev nbEXk25C2 (nbEXk25T1 v) (nbEXk25M2 v) [(.ret, (nbEXk25T5 v), (nbEXk25M2 v))] := Ev.seqP (by kernel_rfl) (nbEXk25n3 v H) (nbEXk25n4 v H)
theorem nbEXk25n6 (v : NbV) (H : NbH v true true v.e false false) : nbEXk25ev nbEXk25C1 (nbEXk25T0 v) (nbEXk25M0 v) [(.ret, (nbEXk25T5 v), (nbEXk25M2 v))] := Ev.pieces (k := 1) (t1 := (nbEXk25T1 v)) (m1 := (nbEXk25M2 v)) (by kernel_rfl) (nbEXk25n5 v H)
def nbEXk25Mm (v : NbV) : Mem := [.c [.nl 5, .i 0],
  .c [.nl 5, .n .i64 33 [0, 0, 0, 0, 0, 0, 0, 0, 0, 0, 0, 0, 0, 0, 0, 0, 0, 0, 0, 0, 0, 0, 0, 0, 0, 0, 0, 0, 0, 0, 0, 0, 0]],
  .c [.nl 3, .m 4, .i 4, .i 1],
  .c [.nl 4, .nm],
  .p .n 1 false []]
theorem nbEXk25_run (v : NbV) (H : NbH v true true v.e false false) : PRun Tryz.prog 23 (nbEXk25M0 v) [.a [.i v.c1, .u (.l 7 v.c2), .i v.c3, .u (.l 4 v.c4), .i v.c5, .i v.c6, .i v.c7, .i v.c8], .r 0 0, .r 1 0, .r 2 0, .r 3 0] fun x m => x = .t [.u (.p none), .i v.e] ∧ m = (nbEXk25Mm v) :=
  Ev.runT (by kernel_rfl) Tryz.func23 (by kernel_rfl) (c := nbEXk25C1) (by kernel_rfl) (r := (.ret, (nbEXk25T5 v), (nbEXk25M2 v))) (nbEXk25n6 v H) (y := (.t [.u (.p none), .i v.e], (nbEXk25Mm v))) (by kernel_rfl)
def nbEXT13 (v : NbV) : Fr := puF (nbEXT11 v) [(7, .u (.p none)), (8, .i v.e), (39, .t [.u (.p none), .i v.e]), (48, .t [.u (.p none), .i v.e]), (49, .u (.p none)), (50, .i v.e)]
theorem nbEXn11 (v : NbV) (H : NbH v true true v.e false false) : nbEXevO (cOp nbEXC10) ((cOp nbEXC10).drop 9) ((cPut (opAt (cOp nbEXC10) 8).dst).p (nbEXT11 v) (renV (fK [5, 6, 3, 7, 4] ((nbEXM12 v)).length) (.t [.u (.p none), .i v.e]))) (backM (nbEXM12 v) [5, 6, 3, 7, 4] ((nbEXk25Mm v))) [((nbEXT13 v), (nbEXM12 v))] := EvO.ops (by kernel_rfl)
theorem nbEXn12 (v : NbV) (H : NbH v true true v.e false false) : nbEXevO (cOp nbEXC10) (cOp nbEXC10) ((nbEXT9 v)) ((nbEXM10 v)) [((nbEXT13 v), (nbEXM12 v))] := EvO.call (k := 8) (t1 := (nbEXT11 v)) (m1 := (nbEXM12 v)) (args := [.a [.i v.c1, .u (.l 7 v.c2), .i v.c3, .u (.l 4 v.c4), .i v.c5, .i v.c6, .i v.c7, .i v.c8], .r 5 0, .r 6 0, .r 3 0, .r 7 0]) (a := []) (cc := []) _ (by kernel_rfl) (by kernel_rfl) (by kernel_rfl) (by kernel_rfl) (by kernel_rfl) (by kernel_rfl) (by kernel_rfl) (by decide) (by kernel_rfl) (by kernel_rfl) (by kernel_rfl) (nbEXk25_run v H) (nbEXn11 v H)
theorem nbEXn13 (v : NbV) (H : NbH v true true v.e false false) : nbEXev nbEXC10 (nbEXT9 v) (nbEXM10 v) [(.nrm, (nbEXT13 v), (nbEXM12 v))] := Ev.reg (outs := [((nbEXT13 v), (nbEXM12 v))]) (by kernel_rfl) (by kernel_rfl) (nbEXn12 v H)
noncomputable abbrev nbEXC11 : Code := cR nbEXC9
noncomputable abbrev nbEXC12 : Code := cL nbEXC11
noncomputable abbrev nbEXC13 : Code := cL nbEXC12
def nbEXT14 (v : NbV) : Fr := puF (nbEXT13 v) [(51, .i 0)]
def nbEXT15 (v : NbV) : Fr := puF (nbEXT14 v) [(52, .u (.b false)), (53, .u (.b false)), (54, .i v.e), (55, .a [.i v.c1, .u (.l 7 v.c2), .i v.c3, .u (.l 4 v.c4), .i v.c5, .i v.c6, .i v.c7, .i v.c8])]
def nbEXT16 (v : NbV) : Fr := puF (nbEXT15 v) [(56, .i v.e)]
def nbEXT18 (v : NbV) : Fr := puF (nbEXT16 v) [(57, .u (.b false)), (58, .u (.b false)), (59, .u (.b false)), (60, .u (.p none)), (61, .u (.b false)), (62, .i v.e)]
def nbEXT20 (v : NbV) : Fr := puF (nbEXT16 v) [(57, .u (.b false)), (58, .u (.b false)), (59, .u (.b false)), (60, .u (.p none)), (61, .u (.b false)), (62, .i v.e), (63, .u (.b false)), (64, .u (.b false)), (65, .u (.b false))]
theorem nbEXn14 (v : NbV) (H : NbH v true true v.e false false) : nbEXevO (cOp nbEXC13) ((((cOp nbEXC13).drop 6).drop 1).drop 6) ((cPut (opAt (((cOp nbEXC13).drop 6).drop 1) 5).dst).p (nbEXT18 v) (.u (.b false))) ((nbEXM12 v)) [((nbEXT20 v), (nbEXM12 v))] := EvO.ops (by kernel_rfl)
theorem nbEXn15 (v : NbV) (H : NbH v true true v.e false false) : nbEXevO (cOp nbEXC13) (((cOp nbEXC13).drop 6).drop 1) ((cPut (opAt ((cOp nbEXC13).drop 6) 0).dst).p (nbEXT16 v) (.u (.b false))) ((nbEXM12 v)) [((nbEXT20 v), (nbEXM12 v))] := EvO.op (k := 5) (t1 := (nbEXT18 v)) (t2 := (nbEXT18 v)) (m1 := (nbEXM12 v)) (v := .u (.b false)) (by kernel_rfl) (by kernel_rfl) (by kernel_rfl) (by kernel_rfl) (by kernel_rfl) (symE (b := eqF v.e 0) (by kernel_rfl) H.he) (nbEXn14 v H)
theorem nbEXn16 (v : NbV) (H : NbH v true true v.e false false) : nbEXevO (cOp nbEXC13) ((cOp nbEXC13).drop 6) ((cPut (opAt (cOp nbEXC13) 5).dst).p (nbEXT15 v) (renV (fK [] ((nbEXM12 v)).length) (.i v.e))) (backM (nbEXM12 v) [] ([])) [((nbEXT20 v), (nbEXM12 v))] := EvO.op (k := 0) (t1 := (nbEXT16 v)) (t2 := (nbEXT16 v)) (m1 := (nbEXM12 v)) (v := .u (.b false)) (by kernel_rfl) (by kernel_rfl) (by kernel_rfl) (by kernel_rfl) (by kernel_rfl) (symN (b := eqF v.e v.e) (by kernel_rfl) (eqF_self _) rfl) (nbEXn15 v H)
theorem nbEXn17 (v : NbV) (H : NbH v true true v.e false false) : nbEXevO (cOp nbEXC13) (cOp nbEXC13) ((nbEXT13 v)) ((nbEXM12 v)) [((nbEXT20 v), (nbEXM12 v))] := EvO.call (k := 5) (t1 := (nbEXT15 v)) (m1 := (nbEXM12 v)) (args := [.a [.i v.c1, .u (.l 7 v.c2), .i v.c3, .u (.l 4 v.c4), .i v.c5, .i v.c6, .i v.c7, .i v.c8]]) (a := []) (cc := []) _ (by kernel_rfl) (by kernel_rfl) (by kernel_rfl) (by kernel_rfl) (by kernel_rfl) (by kernel_rfl) (by kernel_rfl) (by decide) (by kernel_rfl) (by kernel_rfl) (by kernel_rfl) H.hK (nbEXn16 v H)
theorem nbEXn18 (v : NbV) (H : NbH v true true v.e false false) : nbEXev nbEXC13 (nbEXT13 v) (nbEXM12 v) [(.nrm, (nbEXT20 v), (nbEXM12 v))] := Ev.reg (outs := [((nbEXT20 v), (nbEXM12 v))]) (by kernel_rfl) (by kernel_rfl) (nbEXn17 v H)
noncomputable abbrev nbEXC14 : Code := cR nbEXC12
def nbEXT21 (v : NbV) : Fr := puF (nbEXT16 v) [(57, .u (.b false)), (58, .u (.b false)), (59, .u (.b false)), (60, .u (.p none)), (61, .u (.b false)), (62, .i v.e), (63, .u (.b false)), (64, .u (.b false)), (65, .u (.b false))]
theorem nbEXn19 (v : NbV) (H : NbH v true true v.e false false) : nbEXev nbEXC14 (nbEXT20 v) (nbEXM12 v) [(.nrm, (nbEXT21 v), (nbEXM12 v))] := Ev.code (by kernel_rfl)
theorem nbEXn20 (v : NbV) (H : NbH v true true v.e false false) : nbEXev nbEXC12 (nbEXT13 v) (nbEXM12 v) [(.nrm, (nbEXT21 v), (nbEXM12 v))] := Ev.seqP (by kernel_rfl) (nbEXn18 v H) (nbEXn19 v H)
noncomputable abbrev nbEXC15 : Code := cR nbEXC11
def nbEXT22 (v : NbV) : Fr := puF (nbE0T23 v) [(7, .u (.p none)), (8, .i v.e), (9, .sl 9 0 2), (39, .t [.u (.p none), .i v.e]), (48, .t [.u (.p none), .i v.e]), (49, .u (.p none)), (50, .i v.e), (54, .i v.e), (56, .i v.e), (60, .u (.p none)), (61, .u (.b false)), (62, .i v.e), (63, .u (.b false)), (67, .r 8 0), (68, .sl 9 0 2)]
def nbEXM23 (v : NbV) : Mem := paM (nbEXM12 v) [] [.c [.i 0, .nl 7, .i 0, .nl 4, .i 0, .i 0, .i 0, .i 0, .u (.p none), .u (.p none), .u (.p none), .u (.p none), .nl 19],
  .c [.u (.p none), .r 8 0]]
noncomputable abbrev nbEXC16 : Code := dropK 1 nbEXC15
noncomputable abbrev nbEXC17 : Code := cL nbEXC16
def nbEXT24 (v : NbV) : Fr := puF (nbE0T23 v) [(7, .u (.p none)), (8, .i v.e), (9, .sl 9 0 2), (10, .i 0), (39, .t [.u (.p none), .i v.e]), (48, .t [.u (.p none), .i v.e]), (49, .u (.p none)), (50, .i v.e), (54, .i v.e), (56, .i v.e), (60, .u (.p none)), (61, .u (.b false)), (62, .i v.e), (63, .u (.b false)), (67, .r 8 0), (68, .sl 9 0 2)]
noncomputable abbrev nbEXC18 : Code := dropK 1 nbEXC17
noncomputable abbrev nbEXC19 : Code := cBd nbEXC18
noncomputable abbrev nbEXC20 : Code := cLp nbEXC19
def nbEXT25 (v : NbV) : Fr := puF (nbE0T23 v) [(7, .u (.p none)), (8, .i v.e), (9, .sl 9 0 2), (10, .i 0), (39, .t [.u (.p none), .i v.e]), (48, .t [.u (.p none), .i v.e]), (49, .u (.p none)), (50, .i v.e), (54, .i v.e), (56, .i v.e), (60, .u (.p none)), (61, .u (.b false)), (62, .i v.e), (63, .u (.b false)), (67, .r 8 0), (68, .sl 9 0 2), (69, .i 0), (70, .sl 9 0 2), (71, .i 2), (72, .u (.b true))]
noncomputable abbrev nbEXC21 : Code := dropK 1 nbEXC20
noncomputable abbrev nbEXC22 : Code := cL nbEXC21
noncomputable abbrev nbEXC23 : Code := cBd nbEXC22
noncomputable abbrev nbEXC24 : Code := cL nbEXC23
def nbEXT26 (v : NbV) : Fr := puF (nbE0T23 v) [(7, .u (.p none)), (8, .i v.e), (9, .sl 9 0 2), (10, .i 0), (39, .t [.u (.p none), .i v.e]), (48, .t [.u (.p none), .i v.e]), (49, .u (.p none)), (50, .i v.e), (54, .i v.e), (56, .i v.e), (60, .u (.p none)), (61, .u (.b false)), (62, .i v.e), (63, .u (.b false)), (67, .r 8 0), (68, .sl 9 0 2), (69, .i 0), (70, .sl 9 0 2), (71, .i 2), (72, .u (.b true)), (76, .sl 9 0 2), (77, .i 0), (78, .r 9 0), (79, .u (.p none)), (80, .r 1 2), (81, .i v.a11), (82, .r 1 4), (83, .a [.i v.a13, .i v.a14, .i v.a15, .i v.a16, .i v.a17, .i v.a18, .i v.a19, .i v.a20, .i v.a21, .i v.a22, .i v.a23, .i v.a24, .i v.a25, .u (.l 2 v.a26), .u (.l 2 v.a27), .i v.a28, .i v.a29, .i v.a30, .i v.a31])]
def nbEXT27 (v : NbV) : Fr := puF (nbE0T37 v) [(7, .u (.p none)), (8, .i v.e), (9, .sl 9 0 2), (13, .z), (14, .z), (39, .t [.u (.p none), .i v.e]), (48, .t [.u (.p none), .i v.e]), (49, .u (.p none)), (50, .i v.e), (54, .i v.e), (56, .i v.e), (60, .u (.p none)), (61, .u (.b false)), (62, .i v.e), (63, .u (.b false)), (67, .r 8 0), (68, .sl 9 0 2), (70, .sl 9 0 2), (76, .sl 9 0 2), (78, .r 9 0), (87, .z), (88, .z), (89, .z), (90, .z), (91, .z), (92, .z), (93, .z), (94, .z), (95, .z), (96, .z), (97, .z), (98, .z), (99, .z), (100, .z), (101, .z), (102, .z), (103, .z), (104, .z), (105, .z), (106, .z), (107, .z), (108, .z), (109, .z), (110, .z), (111, .z), (112, .z), (113, .z), (114, .z), (115, .z), (116, .z), (117, .z), (118, .z), (119, .z)]
theorem nbEXn21 (v : NbV) (H : NbH v true true v.e false false) : nbEXevD (cOp nbEXC24) (0, [13, 12, 11, 10, 9, 8, 7, 6, 5, 4, 3, 2, 1, 0], [(7, [1]), (5, [1]), (3, [9])], (nbEXT27 v), (nbEXM23 v)) [((nbEXT27 v), (nbEXM23 v))] := EvD.code (by kernel_rfl)
theorem nbEXn22 (v : NbV) (H : NbH v true true v.e false false) : nbEXevD (cOp nbEXC24) (5, [8, 7, 6, 5, 4, 3, 2, 1, 0], [(7, [1]), (5, [1]), (3, [9])], (cPut (opAt (cOp nbEXC24) 8).dst).p (nbEXT26 v) (renV (fK [] ((nbEXM23 v)).length) (.t [.i 0, .i 1])), backM (nbEXM23 v) [] ((nbE0k4Mm v))) [((nbEXT27 v), (nbEXM23 v))] := EvD.steps (j := 5) (by kernel_rfl) (nbEXn21 v H)
theorem nbEXn23 (v : NbV) (H : NbH v true true v.e false false) : nbEXevD (cOp nbEXC24) (6, [7, 6, 5, 4, 3, 2, 1, 0], [(7, [1]), (5, [1]), (3, [9])], (nbEXT26 v), (nbEXM23 v)) [((nbEXT27 v), (nbEXM23 v))] := EvD.one 8 (by kernel_rfl) (by kernel_rfl) (EvE.call (args := [.u (.p none), .i v.a11, .a [.i v.a13, .i v.a14, .i v.a15, .i v.a16, .i v.a17, .i v.a18, .i v.a19, .i v.a20, .i v.a21, .i v.a22, .i v.a23, .i v.a24, .i v.a25, .u (.l 2 v.a26), .u (.l 2 v.a27), .i v.a28, .i v.a29, .i v.a30, .i v.a31]]) (a := []) (cc := []) 8 _ (by kernel_rfl) (by kernel_rfl) (by kernel_rfl) (by kernel_rfl) (by kernel_rfl) (by kernel_rfl) (by decide) (by kernel_rfl) (by kernel_rfl) (by kernel_rfl) (by kernel_rfl) (nbE0k4_run v) (nbEXn22 v H))
theorem nbEXn24 (v : NbV) (H : NbH v true true v.e false false) : nbEXevD (cOp nbEXC24) ((cOp nbEXC24).length, [], [], (nbEXT25 v), (nbEXM23 v)) [((nbEXT27 v), (nbEXM23 v))] := EvD.steps (j := 8) (by kernel_rfl) (nbEXn23 v H)
def nbEXT28 (v : NbV) : Fr := puF (nbEXT27 v) []
theorem nbEXn25 (v : NbV) (H : NbH v true true v.e false false) : nbEXev nbEXC24 (nbEXT25 v) (nbEXM23 v) [(.nrm, (nbEXT28 v), (nbEXM23 v))] := Ev.regD2 (outs := [((nbEXT27 v), (nbEXM23 v))]) (by kernel_rfl) (by kernel_rfl) (by kernel_rfl) (nbEXn24 v H) ⟨by kernel_rfl, trivial⟩
noncomputable abbrev nbEXC25 : Code := cR nbEXC23
noncomputable abbrev nbEXC26 : Code := cL nbEXC25
def nbEXT29 (v : NbV) : Fr := puF (nbEXT27 v) [(88, .sl 9 0 2), (89, .i 0), (90, .r 9 0), (91, .u (.p none)), (92, .r 1 1), (93, .i v.a10)]
def nbEXT30 (v : NbV) : Fr := puF (nbEXT29 v) [(13, .r 10 0), (14, .i 1), (87, .t [.a [.i 0, .i 0, .i 0, .i 0, .i 0, .i 0, .i 0, .i 0, .i 0, .i 0, .i 0, .i 0, .i 0, .nl 2, .nl 2, .i 0, .i 0, .i 0, .i 0], .i 1]), (94, .t [.a [.i 0, .i 0, .i 0, .i 0, .i 0, .i 0, .i 0, .i 0, .i 0, .i 0, .i 0, .i 0, .i 0, .nl 2, .nl 2, .i 0, .i 0, .i 0, .i 0], .i 1]), (95, .a [.i 0, .i 0, .i 0, .i 0, .i 0, .i 0, .i 0, .i 0, .i 0, .i 0, .i 0, .i 0, .i 0, .nl 2, .nl 2, .i 0, .i 0, .i 0, .i 0]), (96, .i 1)]
def nbEXM31 (v : NbV) : Mem := paM (nbEXM23 v) [] [.c [.i 0, .i 0, .i 0, .i 0, .i 0, .i 0, .i 0, .i 0, .i 0, .i 0, .i 0, .i 0, .i 0, .nl 2, .nl 2, .i 0, .i 0, .i 0, .i 0]]
theorem nbEXn26 (v : NbV) (H : NbH v true true v.e false false) : nbEXevD (cOp nbEXC26) (0, [12, 11, 10, 9, 8, 7, 6, 5, 4, 3, 2, 1, 0], [(5, [1]), (3, [9])], (nbEXT30 v), (nbEXM31 v)) [((nbEXT30 v), (nbEXM31 v))] := EvD.code (by kernel_rfl)
theorem nbEXn27 (v : NbV) (H : NbH v true true v.e false false) : nbEXevD (cOp nbEXC26) (6, [6, 5, 4, 3, 2, 1, 0], [(5, [1]), (3, [9])], (cPut (opAt (cOp nbEXC26) 6).dst).p (nbEXT29 v) (renV (fK [] ((nbEXM23 v)).length) (.t [.a [.i 0, .i 0, .i 0, .i 0, .i 0, .i 0, .i 0, .i 0, .i 0, .i 0, .i 0, .i 0, .i 0, .nl 2, .nl 2, .i 0, .i 0, .i 0, .i 0], .i 1])), backM (nbEXM23 v) [] ((nbE0k5Mm v))) [((nbEXT30 v), (nbEXM31 v))] := EvD.steps (j := 6) (by kernel_rfl) (nbEXn26 v H)
theorem nbEXn28 (v : NbV) (H : NbH v true true v.e false false) : nbEXevE (cOp nbEXC26) 6 6 [5, 4, 3, 2, 1, 0] [(5, [1]), (3, [9])] (nbEXT29 v) (nbEXM23 v) [((nbEXT30 v), (nbEXM31 v))] := EvE.call (args := [.u (.p none), .i v.a10]) (a := []) (cc := []) 6 _ (by kernel_rfl) (by kernel_rfl) (by kernel_rfl) (by kernel_rfl) (by kernel_rfl) (by kernel_rfl) (by decide) (by kernel_rfl) (by kernel_rfl) (by kernel_rfl) (by kernel_rfl) (nbE0k5_run v) (nbEXn27 v H)
def nbEXT32 (v : NbV) : Fr := puF (nbEXT29 v) [(13, .r 10 0)]
def nbEXT33 (v : NbV) : Fr := puF (nbEXT32 v) []
def nbEXT34 (v : NbV) : Fr := puF (nbEXT30 v) []
theorem nbEXn29 (v : NbV) (H : NbH v true true v.e false false) : nbEXevD (cOp nbEXC26) (0, [12, 11, 9, 8, 7, 6, 10, 5, 4, 3, 2, 1, 0], [(5, [1]), (3, [9])], (nbEXT34 v), (nbEXM31 v)) [((nbEXT34 v), (nbEXM31 v))] := EvD.code (by kernel_rfl)
theorem nbEXn30 (v : NbV) (H : NbH v true true v.e false false) : nbEXevD (cOp nbEXC26) (5, [6, 10, 5, 4, 3, 2, 1, 0], [(5, [1]), (3, [9])], (cPut (opAt (cOp nbEXC26) 6).dst).p (nbEXT33 v) (renV (fK [] ((nbEXM31 v)).length) (.t [.a [.i 0, .i 0, .i 0, .i 0, .i 0, .i 0, .i 0, .i 0, .i 0, .i 0, .i 0, .i 0, .i 0, .nl 2, .nl 2, .i 0, .i 0, .i 0, .i 0], .i 1])), backM (nbEXM31 v) [] ((nbE0k5Mm v))) [((nbEXT34 v), (nbEXM31 v))] := EvD.steps (j := 5) (by kernel_rfl) (nbEXn29 v H)
theorem nbEXn31 (v : NbV) (H : NbH v true true v.e false false) : nbEXevD (cOp nbEXC26) (6, [10, 5, 4, 3, 2, 1, 0], [(5, [1]), (3, [9])], (nbEXT33 v), (nbEXM31 v)) [((nbEXT34 v), (nbEXM31 v))] := EvD.one 6 (by kernel_rfl) (by kernel_rfl) (EvE.call (args := [.u (.p none), .i v.a10]) (a := []) (cc := []) 6 _ (by kernel_rfl) (by kernel_rfl) (by kernel_rfl) (by kernel_rfl) (by kernel_rfl) (by kernel_rfl) (by decide) (by kernel_rfl) (by kernel_rfl) (by kernel_rfl) (by kernel_rfl) (nbE0k5_run v) (nbEXn30 v H))
theorem nbEXn32 (v : NbV) (H : NbH v true true v.e false false) : nbEXevD (cOp nbEXC26) (6, [10, 5, 4, 3, 2, 1, 0], [(5, [1]), (3, [9])], (nbEXT32 v), (nbEXM31 v)) [((nbEXT34 v), (nbEXM31 v))] := EvD.steps (j := 0) (by kernel_rfl) (nbEXn31 v H)
theorem nbEXn33 (v : NbV) (H : NbH v true true v.e false false) : nbEXevE (cOp nbEXC26) 10 6 [5, 4, 3, 2, 1, 0] [(5, [1]), (3, [9])] (nbEXT29 v) (nbEXM23 v) [((nbEXT34 v), (nbEXM31 v))] := EvE.step (by kernel_rfl) (nbEXn32 v H)
theorem nbEXn34 (v : NbV) (H : NbH v true true v.e false false) : nbEXevD (cOp nbEXC26) (7, [5, 4, 3, 2, 1, 0], [(5, [1]), (3, [9])], (nbEXT29 v), (nbEXM23 v)) [((nbEXT30 v), (nbEXM31 v)), ((nbEXT34 v), (nbEXM31 v))] := EvD.two (o1 := [((nbEXT30 v), (nbEXM31 v))]) (o2 := [((nbEXT34 v), (nbEXM31 v))]) 6 10 (by kernel_rfl) (by kernel_rfl) (nbEXn28 v H) (nbEXn33 v H)
theorem nbEXn35 (v : NbV) (H : NbH v true true v.e false false) : nbEXevD (cOp nbEXC26) ((cOp nbEXC26).length, [], [], (nbEXT28 v), (nbEXM23 v)) [((nbEXT30 v), (nbEXM31 v)), ((nbEXT34 v), (nbEXM31 v))] := EvD.steps (j := 6) (by kernel_rfl) (nbEXn34 v H)
def nbEXT35 (v : NbV) : Fr := puF (nbEXT30 v) []
theorem nbEXn36 (v : NbV) (H : NbH v true true v.e false false) : nbEXev nbEXC26 (nbEXT28 v) (nbEXM23 v) [(.nrm, (nbEXT35 v), (nbEXM31 v))] := Ev.regD2 (outs := [((nbEXT30 v), (nbEXM31 v)), ((nbEXT34 v), (nbEXM31 v))]) (by kernel_rfl) (by kernel_rfl) (by kernel_rfl) (nbEXn35 v H) ⟨by kernel_rfl, by kernel_rfl, trivial⟩
noncomputable abbrev nbEXC27 : Code := cR nbEXC25
noncomputable abbrev nbEXC28 : Code := cL nbEXC27
def nbEXT36 (v : NbV) : Fr := puF (nbEXT30 v) [(97, .i 0), (98, .u (.b false)), (99, .u (.b false)), (100, .i 1), (101, .u (.b false)), (102, .u (.b false)), (103, .u (.b false)), (104, .i 1), (105, .u (.b false)), (106, .u (.b false)), (107, .u (.b false)), (108, .sl 9 0 2), (109, .i 0), (110, .r 9 0), (111, .u (.p none)), (112, .r 1 2), (113, .i v.a11), (114, .r 1 1), (115, .i v.a10), (116, .r 1 2), (117, .i v.a11), (118, .r 1 3), (119, .i v.a12)]
def nbEXT37 (v : NbV) : Fr := puF (nbEXT36 v) [(120, .i 1), (121, .u (.b false)), (122, .u (.b false)), (123, .u (.b false)), (124, .sl 9 0 2), (125, .i 0), (126, .r 9 0), (127, .u (.p none)), (128, .r 1 2), (129, .i v.a11), (130, .r 1 1), (131, .i v.a10), (132, .r 1 2), (133, .i v.a11)]
def nbEXT38 (v : NbV) : Fr := puF (nbEXT37 v) [(134, .i 1), (135, .u (.b false)), (136, .u (.b false)), (137, .u (.b false)), (138, .sl 9 0 2), (139, .i 0), (140, .r 9 0), (141, .u (.p none)), (142, .r 1 2), (143, .i v.a11), (144, .r 1 1), (145, .i v.a10)]
def nbEXT39 (v : NbV) : Fr := puF (nbEXT37 v) [(134, .i 1), (135, .u (.b false)), (136, .u (.b false)), (137, .u (.b false)), (138, .sl 9 0 2), (139, .i 0), (140, .r 9 0), (141, .u (.p none)), (142, .r 1 2), (143, .i v.a11), (144, .r 1 1), (145, .i v.a10), (146, .i 1), (147, .u (.b false)), (148, .u (.b false)), (149, .u (.b false)), (150, .sl 9 0 2), (151, .i 0), (152, .r 9 0), (153, .u (.p none))]
def nbEXT40 (v : NbV) : Fr := puF (nbEXT37 v) [(134, .i 1), (135, .u (.b false)), (136, .u (.b false)), (137, .u (.b false)), (138, .sl 9 0 2), (139, .i 0), (140, .r 9 0), (141, .u (.p none)), (142, .r 1 2), (143, .i v.a11), (144, .r 1 1), (145, .i v.a10), (146, .i 1), (147, .u (.b false)), (148, .u (.b false)), (149, .u (.b false)), (150, .sl 9 0 2), (151, .i 0), (152, .r 9 0), (153, .u (.p none)), (154, .nl 19), (155, .i 0), (156, .u (.b false)), (157, .u (.b false))]
theorem nbEXn37 (v : NbV) (H : NbH v true true v.e false false) : nbEXevD (cOp nbEXC28) (0, [60, 59, 58, 57, 56, 55, 54, 53, 52, 51, 50, 49, 48, 47, 46, 45, 44, 43, 42, 41, 40, 39, 38, 37, 36, 35, 34, 33, 32, 31, 30, 29, 28, 27, 26, 25, 24, 23, 22, 21, 20, 19, 18, 17, 16, 15, 14, 13, 12, 11, 10, 9, 8, 7, 6, 5, 4, 3, 2, 1, 0], [(58, []), (56, [9]), (48, [1]), (46, [1]), (44, [9]), (36, [1]), (34, [1]), (32, [1]), (30, [9]), (22, [1]), (20, [1]), (18, [1]), (16, [1]), (14, [9])], (nbEXT40 v), (nbEXM31 v)) [((nbEXT40 v), (nbEXM31 v))] := EvD.code (by kernel_rfl)
theorem nbEXn38 (v : NbV) (H : NbH v true true v.e false false) : nbEXevD (cOp nbEXC28) (3, [57, 56, 55, 54, 53, 52, 51, 50, 49, 48, 47, 46, 45, 44, 43, 42, 41, 40, 39, 38, 37, 36, 35, 34, 33, 32, 31, 30, 29, 28, 27, 26, 25, 24, 23, 22, 21, 20, 19, 18, 17, 16, 15, 14, 13, 12, 11, 10, 9, 8, 7, 6, 5, 4, 3, 2, 1, 0], [(56, [9]), (48, [1]), (46, [1]), (44, [9]), (36, [1]), (34, [1]), (32, [1]), (30, [9]), (22, [1]), (20, [1]), (18, [1]), (16, [1]), (14, [9])], (cPut (opAt (cOp nbEXC28) 57).dst).p (nbEXT39 v) (renV (fK [] ((nbEXM31 v)).length) (.nl 19)), backM (nbEXM31 v) [] ((nbE0k9Mm v))) [((nbEXT40 v), (nbEXM31 v))] := EvD.steps (j := 3) (by kernel_rfl) (nbEXn37 v H)
theorem nbEXn39 (v : NbV) (H : NbH v true true v.e false false) : nbEXevD (cOp nbEXC28) (4, [56, 55, 54, 53, 52, 51, 50, 49, 48, 47, 46, 45, 44, 43, 42, 41, 40, 39, 38, 37, 36, 35, 34, 33, 32, 31, 30, 29, 28, 27, 26, 25, 24, 23, 22, 21, 20, 19, 18, 17, 16, 15, 14, 13, 12, 11, 10, 9, 8, 7, 6, 5, 4, 3, 2, 1, 0], [(56, [9]), (48, [1]), (46, [1]), (44, [9]), (36, [1]), (34, [1]), (32, [1]), (30, [9]), (22, [1]), (20, [1]), (18, [1]), (16, [1]), (14, [9])], (nbEXT39 v), (nbEXM31 v)) [((nbEXT40 v), (nbEXM31 v))] := EvD.one 57 (by kernel_rfl) (by kernel_rfl) (EvE.call (args := [.u (.p none)]) (a := []) (cc := []) 57 _ (by kernel_rfl) (by kernel_rfl) (by kernel_rfl) (by kernel_rfl) (by kernel_rfl) (by kernel_rfl) (by decide) (by kernel_rfl) (by kernel_rfl) (by kernel_rfl) (by kernel_rfl) (nbE0k9_run v) (nbEXn38 v H))
theorem nbEXn40 (v : NbV) (H : NbH v true true v.e false false) : nbEXevD (cOp nbEXC28) (11, [49, 48, 47, 46, 45, 44, 43, 42, 41, 40, 39, 38, 37, 36, 35, 34, 33, 32, 31, 30, 29, 28, 27, 26, 25, 24, 23, 22, 21, 20, 19, 18, 17, 16, 15, 14, 13, 12, 11, 10, 9, 8, 7, 6, 5, 4, 3, 2, 1, 0], [(48, [1]), (46, [1]), (44, [9]), (36, [1]), (34, [1]), (32, [1]), (30, [9]), (22, [1]), (20, [1]), (18, [1]), (16, [1]), (14, [9])], (cPut (opAt (cOp nbEXC28) 49).dst).p (nbEXT38 v) (renV (fK [] ((nbEXM31 v)).length) (.i 1)), backM (nbEXM31 v) [] ((nbE0k8Mm v))) [((nbEXT40 v), (nbEXM31 v))] := EvD.steps (j := 7) (by kernel_rfl) (nbEXn39 v H)
theorem nbEXn41 (v : NbV) (H : NbH v true true v.e false false) : nbEXevD (cOp nbEXC28) (12, [48, 47, 46, 45, 44, 43, 42, 41, 40, 39, 38, 37, 36, 35, 34, 33, 32, 31, 30, 29, 28, 27, 26, 25, 24, 23, 22, 21, 20, 19, 18, 17, 16, 15, 14, 13, 12, 11, 10, 9, 8, 7, 6, 5, 4, 3, 2, 1, 0], [(48, [1]), (46, [1]), (44, [9]), (36, [1]), (34, [1]), (32, [1]), (30, [9]), (22, [1]), (20, [1]), (18, [1]), (16, [1]), (14, [9])], (nbEXT38 v), (nbEXM31 v)) [((nbEXT40 v), (nbEXM31 v))] := EvD.one 49 (by kernel_rfl) (by kernel_rfl) (EvE.call (args := [.u (.p none), .i v.a11, .i v.a10]) (a := []) (cc := []) 49 _ (by kernel_rfl) (by kernel_rfl) (by kernel_rfl) (by kernel_rfl) (by kernel_rfl) (by kernel_rfl) (by decide) (by kernel_rfl) (by kernel_rfl) (by kernel_rfl) (by kernel_rfl) (nbE0k8_run v) (nbEXn40 v H))
theorem nbEXn42 (v : NbV) (H : NbH v true true v.e false false) : nbEXevD (cOp nbEXC28) (23, [37, 36, 35, 34, 33, 32, 31, 30, 29, 28, 27, 26, 25, 24, 23, 22, 21, 20, 19, 18, 17, 16, 15, 14, 13, 12, 11, 10, 9, 8, 7, 6, 5, 4, 3, 2, 1, 0], [(36, [1]), (34, [1]), (32, [1]), (30, [9]), (22, [1]), (20, [1]), (18, [1]), (16, [1]), (14, [9])], (cPut (opAt (cOp nbEXC28) 37).dst).p (nbEXT37 v) (renV (fK [] ((nbEXM31 v)).length) (.i 1)), backM (nbEXM31 v) [] ((nbE0k7Mm v))) [((nbEXT40 v), (nbEXM31 v))] := EvD.steps (j := 11) (by kernel_rfl) (nbEXn41 v H)
theorem nbEXn43 (v : NbV) (H : NbH v true true v.e false false) : nbEXevD (cOp nbEXC28) (24, [36, 35, 34, 33, 32, 31, 30, 29, 28, 27, 26, 25, 24, 23, 22, 21, 20, 19, 18, 17, 16, 15, 14, 13, 12, 11, 10, 9, 8, 7, 6, 5, 4, 3, 2, 1, 0], [(36, [1]), (34, [1]), (32, [1]), (30, [9]), (22, [1]), (20, [1]), (18, [1]), (16, [1]), (14, [9])], (nbEXT37 v), (nbEXM31 v)) [((nbEXT40 v), (nbEXM31 v))] := EvD.one 37 (by kernel_rfl) (by kernel_rfl) (EvE.call (args := [.u (.p none), .i v.a11, .i v.a10, .i v.a11]) (a := []) (cc := []) 37 _ (by kernel_rfl) (by kernel_rfl) (by kernel_rfl) (by kernel_rfl) (by kernel_rfl) (by kernel_rfl) (by decide) (by kernel_rfl) (by kernel_rfl) (by kernel_rfl) (by kernel_rfl) (nbE0k7_run v) (nbEXn42 v H))
theorem nbEXn44 (v : NbV) (H : NbH v true true v.e false false) : nbEXevD (cOp nbEXC28) (37, [23, 22, 21, 20, 19, 18, 17, 16, 15, 14, 13, 12, 11, 10, 9, 8, 7, 6, 5, 4, 3, 2, 1, 0], [(22, [1]), (20, [1]), (18, [1]), (16, [1]), (14, [9])], (cPut (opAt (cOp nbEXC28) 23).dst).p (nbEXT36 v) (renV (fK [] ((nbEXM31 v)).length) (.i 1)), backM (nbEXM31 v) [] ((nbE0k6Mm v))) [((nbEXT40 v), (nbEXM31 v))] := EvD.steps (j := 13) (by kernel_rfl) (nbEXn43 v H)
theorem nbEXn45 (v : NbV) (H : NbH v true true v.e false false) : nbEXevD (cOp nbEXC28) (38, [22, 21, 20, 19, 18, 17, 16, 15, 14, 13, 12, 11, 10, 9, 8, 7, 6, 5, 4, 3, 2, 1, 0], [(22, [1]), (20, [1]), (18, [1]), (16, [1]), (14, [9])], (nbEXT36 v), (nbEXM31 v)) [((nbEXT40 v), (nbEXM31 v))] := EvD.one 23 (by kernel_rfl) (by kernel_rfl) (EvE.call (args := [.u (.p none), .i v.a11, .i v.a10, .i v.a11, .i v.a12]) (a := []) (cc := []) 23 _ (by kernel_rfl) (by kernel_rfl) (by kernel_rfl) (by kernel_rfl) (by kernel_rfl) (by kernel_rfl) (by decide) (by kernel_rfl) (by kernel_rfl) (by kernel_rfl) (by kernel_rfl) (nbE0k6_run v) (nbEXn44 v H))
theorem nbEXn46 (v : NbV) (H : NbH v true true v.e false false) : nbEXevD (cOp nbEXC28) ((cOp nbEXC28).length, [], [], (nbEXT35 v), (nbEXM31 v)) [((nbEXT40 v), (nbEXM31 v))] := EvD.steps (j := 23) (by kernel_rfl) (nbEXn45 v H)
def nbEXT41 (v : NbV) : Fr := puF (nbEXT37 v) [(134, .i 1), (135, .u (.b false)), (136, .u (.b false)), (137, .u (.b false)), (138, .sl 9 0 2), (139, .i 0), (140, .r 9 0), (141, .u (.p none)), (142, .r 1 2), (143, .i v.a11), (144, .r 1 1), (145, .i v.a10), (146, .i 1), (147, .u (.b false)), (148, .u (.b false)), (149, .u (.b false)), (150, .sl 9 0 2), (151, .i 0), (152, .r 9 0), (153, .u (.p none)), (154, .nl 19), (155, .i 0), (156, .u (.b false)), (157, .u (.b false))]
theorem nbEXn47 (v : NbV) (H : NbH v true true v.e false false) : nbEXev nbEXC28 (nbEXT35 v) (nbEXM31 v) [(.nrm, (nbEXT41 v), (nbEXM31 v))] := Ev.regD2 (outs := [((nbEXT40 v), (nbEXM31 v))]) (by kernel_rfl) (by kernel_rfl) (by kernel_rfl) (nbEXn46 v H) ⟨by kernel_rfl, trivial⟩
noncomputable abbrev nbEXC29 : Code := cR nbEXC27
def nbEXT42 (v : NbV) : Fr := puF (nbEXT37 v) [(134, .i 1), (135, .u (.b false)), (136, .u (.b false)), (137, .u (.b false)), (138, .sl 9 0 2), (139, .i 0), (140, .r 9 0), (141, .u (.p none)), (142, .r 1 2), (143, .i v.a11), (144, .r 1 1), (145, .i v.a10), (146, .i 1), (147, .u (.b false)), (148, .u (.b false)), (149, .u (.b false)), (150, .sl 9 0 2), (151, .i 0), (152, .r 9 0), (153, .u (.p none)), (154, .nl 19), (155, .i 0), (156, .u (.b false)), (157, .u (.b false))]
theorem nbEXn48 (v : NbV) (H : NbH v true true v.e false false) : nbEXev nbEXC29 (nbEXT41 v) (nbEXM31 v) [(.nrm, (nbEXT42 v), (nbEXM31 v))] := Ev.code (by kernel_rfl)
theorem nbEXn49 (v : NbV) (H : NbH v true true v.e false false) : nbEXev nbEXC27 (nbEXT35 v) (nbEXM31 v) [(.nrm, (nbEXT42 v), (nbEXM31 v))] := Ev.seqP (by kernel_rfl) (nbEXn47 v H) (nbEXn48 v H)
theorem nbEXn50 (v : NbV) (H : NbH v true true v.e false false) : nbEXev nbEXC25 (nbEXT28 v) (nbEXM23 v) [(.nrm, (nbEXT42 v), (nbEXM31 v))] := Ev.seqP (by kernel_rfl) (nbEXn36 v H) (nbEXn49 v H)
theorem nbEXn51 (v : NbV) (H : NbH v true true v.e false false) : nbEXev nbEXC23 (nbEXT25 v) (nbEXM23 v) [(.nrm, (nbEXT42 v), (nbEXM31 v))] := Ev.seqP (by kernel_rfl) (nbEXn25 v H) (nbEXn50 v H)
theorem nbEXn52 (v : NbV) (H : NbH v true true v.e false false) : nbEXev nbEXC22 (nbEXT25 v) (nbEXM23 v) [(.nrm, (nbEXT42 v), (nbEXM31 v))] := Ev.blockP (by kernel_rfl) (by kernel_rfl) (nbEXn51 v H)
noncomputable abbrev nbEXC30 : Code := cR nbEXC21
def nbEXT43 (v : NbV) : Fr := puF (nbEXT37 v) [(10, .i 1), (73, .i 0), (74, .i 1), (134, .i 1), (135, .u (.b false)), (136, .u (.b false)), (137, .u (.b false)), (138, .sl 9 0 2), (139, .i 0), (140, .r 9 0), (141, .u (.p none)), (142, .r 1 2), (143, .i v.a11), (144, .r 1 1), (145, .i v.a10), (146, .i 1), (147, .u (.b false)), (148, .u (.b false)), (149, .u (.b false)), (150, .sl 9 0 2), (151, .i 0), (152, .r 9 0), (153, .u (.p none)), (154, .nl 19), (155, .i 0), (156, .u (.b false)), (157, .u (.b false))]
theorem nbEXn53 (v : NbV) (H : NbH v true true v.e false false) : nbEXev nbEXC30 (nbEXT42 v) (nbEXM31 v) [(.nrm, (nbEXT43 v), (nbEXM31 v))] := Ev.code (by kernel_rfl)
theorem nbEXn54 (v : NbV) (H : NbH v true true v.e false false) : nbEXev nbEXC21 (nbEXT25 v) (nbEXM23 v) [(.nrm, (nbEXT43 v), (nbEXM31 v))] := Ev.seqP (by kernel_rfl) (nbEXn52 v H) (nbEXn53 v H)
theorem nbEXn55 (v : NbV) (H : NbH v true true v.e false false) : nbEXev nbEXC20 (nbEXT24 v) (nbEXM23 v) [(.nrm, (nbEXT43 v), (nbEXM31 v))] := Ev.pieces (k := 1) (t1 := (nbEXT25 v)) (m1 := (nbEXM23 v)) (by kernel_rfl) (nbEXn54 v H)
def nbEXT44 (v : NbV) : Fr := puF (nbEXT37 v) [(10, .i 1), (69, .i 1), (73, .i 0), (74, .i 1), (134, .i 1), (135, .u (.b false)), (136, .u (.b false)), (137, .u (.b false)), (138, .sl 9 0 2), (139, .i 0), (140, .r 9 0), (141, .u (.p none)), (142, .r 1 2), (143, .i v.a11), (144, .r 1 1), (145, .i v.a10), (146, .i 1), (147, .u (.b false)), (148, .u (.b false)), (149, .u (.b false)), (150, .sl 9 0 2), (151, .i 0), (152, .r 9 0), (153, .u (.p none)), (154, .nl 19), (155, .i 0), (156, .u (.b false)), (157, .u (.b false))]
def nbEXT45 (v : NbV) : Fr := puF (nbEXT37 v) [(10, .i 1), (69, .i 1), (73, .i 0), (74, .i 1), (77, .i 1), (78, .r 9 1), (79, .r 8 0), (134, .i 1), (135, .u (.b false)), (136, .u (.b false)), (137, .u (.b false)), (138, .sl 9 0 2), (139, .i 0), (140, .r 9 0), (141, .u (.p none)), (142, .r 1 2), (143, .i v.a11), (144, .r 1 1), (145, .i v.a10), (146, .i 1), (147, .u (.b false)), (148, .u (.b false)), (149, .u (.b false)), (150, .sl 9 0 2), (151, .i 0), (152, .r 9 0), (153, .u (.p none)), (154, .nl 19), (155, .i 0), (156, .u (.b false)), (157, .u (.b false))]
def nbEXT46 (v : NbV) : Fr := puF (nbEXT37 v) [(10, .i 1), (69, .i 1), (73, .i 0), (74, .i 1), (77, .i 1), (78, .r 9 1), (79, .r 8 0), (134, .i 1), (135, .u (.b false)), (136, .u (.b false)), (137, .u (.b false)), (138, .sl 9 0 2), (139, .i 0), (140, .r 9 0), (141, .u (.p none)), (142, .r 1 2), (143, .i v.a11), (144, .r 1 1), (145, .i v.a10), (146, .i 1), (147, .u (.b false)), (148, .u (.b false)), (149, .u (.b false)), (150, .sl 9 0 2), (151, .i 0), (152, .r 9 0), (153, .u (.p none)), (154, .nl 19), (155, .i 0), (156, .u (.b false)), (157, .u (.b false))]
theorem nbEXn56 (v : NbV) (H : NbH v true true v.e false false) : nbEXevD (cOp nbEXC24) (0, [13, 12, 11, 10, 9, 8, 7, 6, 5, 4, 3, 2, 1, 0], [(7, [1]), (5, [1]), (3, [9])], (nbEXT46 v), (nbEXM31 v)) [((nbEXT46 v), (nbEXM31 v))] := EvD.code (by kernel_rfl)
theorem nbEXn57 (v : NbV) (H : NbH v true true v.e false false) : nbEXevD (cOp nbEXC24) (5, [8, 7, 6, 5, 4, 3, 2, 1, 0], [(7, [1]), (5, [1]), (3, [9])], (cPut (opAt (cOp nbEXC24) 8).dst).p (nbEXT45 v) (renV (fK [8] ((nbEXM31 v)).length) (.t [.i 0, .i 1])), backM (nbEXM31 v) [8] ((nbE0k10Mm v))) [((nbEXT46 v), (nbEXM31 v))] := EvD.steps (j := 5) (by kernel_rfl) (nbEXn56 v H)
theorem nbEXn58 (v : NbV) (H : NbH v true true v.e false false) : nbEXevD (cOp nbEXC24) (6, [7, 6, 5, 4, 3, 2, 1, 0], [(7, [1]), (5, [1]), (3, [9])], (nbEXT45 v), (nbEXM31 v)) [((nbEXT46 v), (nbEXM31 v))] := EvD.one 8 (by kernel_rfl) (by kernel_rfl) (EvE.call (args := [.r 8 0, .i v.a11, .a [.i v.a13, .i v.a14, .i v.a15, .i v.a16, .i v.a17, .i v.a18, .i v.a19, .i v.a20, .i v.a21, .i v.a22, .i v.a23, .i v.a24, .i v.a25, .u (.l 2 v.a26), .u (.l 2 v.a27), .i v.a28, .i v.a29, .i v.a30, .i v.a31]]) (a := []) (cc := []) 8 _ (by kernel_rfl) (by kernel_rfl) (by kernel_rfl) (by kernel_rfl) (by kernel_rfl) (by kernel_rfl) (by decide) (by kernel_rfl) (by kernel_rfl) (by kernel_rfl) (by kernel_rfl) (nbE0k10_run v) (nbEXn57 v H))
theorem nbEXn59 (v : NbV) (H : NbH v true true v.e false false) : nbEXevD (cOp nbEXC24) ((cOp nbEXC24).length, [], [], (nbEXT44 v), (nbEXM31 v)) [((nbEXT46 v), (nbEXM31 v))] := EvD.steps (j := 8) (by kernel_rfl) (nbEXn58 v H)
def nbEXT47 (v : NbV) : Fr := puF (nbEXT37 v) [(10, .i 1), (69, .i 1), (73, .i 0), (74, .i 1), (77, .i 1), (78, .r 9 1), (79, .r 8 0), (134, .i 1), (135, .u (.b false)), (136, .u (.b false)), (137, .u (.b false)), (138, .sl 9 0 2), (139, .i 0), (140, .r 9 0), (141, .u (.p none)), (142, .r 1 2), (143, .i v.a11), (144, .r 1 1), (145, .i v.a10), (146, .i 1), (147, .u (.b false)), (148, .u (.b false)), (149, .u (.b false)), (150, .sl 9 0 2), (151, .i 0), (152, .r 9 0), (153, .u (.p none)), (154, .nl 19), (155, .i 0), (156, .u (.b false)), (157, .u (.b false))]
theorem nbEXn60 (v : NbV) (H : NbH v true true v.e false false) : nbEXev nbEXC24 (nbEXT44 v) (nbEXM31 v) [(.nrm, (nbEXT47 v), (nbEXM31 v))] := Ev.regD2 (outs := [((nbEXT46 v), (nbEXM31 v))]) (by kernel_rfl) (by kernel_rfl) (by kernel_rfl) (nbEXn59 v H) ⟨by kernel_rfl, trivial⟩
def nbEXT48 (v : NbV) : Fr := puF (nbEXT37 v) [(10, .i 1), (69, .i 1), (73, .i 0), (74, .i 1), (77, .i 1), (78, .r 9 1), (79, .r 8 0), (89, .i 1), (90, .r 9 1), (91, .r 8 0), (134, .i 1), (135, .u (.b false)), (136, .u (.b false)), (137, .u (.b false)), (138, .sl 9 0 2), (139, .i 0), (140, .r 9 0), (141, .u (.p none)), (142, .r 1 2), (143, .i v.a11), (144, .r 1 1), (145, .i v.a10), (146, .i 1), (147, .u (.b false)), (148, .u (.b false)), (149, .u (.b false)), (150, .sl 9 0 2), (151, .i 0), (152, .r 9 0), (153, .u (.p none)), (154, .nl 19), (155, .i 0), (156, .u (.b false)), (157, .u (.b false))]
def nbEXT49 (v : NbV) : Fr := puF (nbE0T44 v) [(7, .u (.p none)), (8, .i v.e), (9, .sl 9 0 2), (39, .t [.u (.p none), .i v.e]), (48, .t [.u (.p none), .i v.e]), (49, .u (.p none)), (50, .i v.e), (54, .i v.e), (56, .i v.e), (60, .u (.p none)), (61, .u (.b false)), (62, .i v.e), (63, .u (.b false)), (67, .r 8 0), (68, .sl 9 0 2), (69, .i 1), (70, .sl 9 0 2), (76, .sl 9 0 2), (77, .i 1), (78, .r 9 1), (79, .r 8 0), (88, .sl 9 0 2), (89, .i 1), (90, .r 9 1), (91, .r 8 0), (108, .sl 9 0 2), (110, .r 9 0), (124, .sl 9 0 2), (126, .r 9 0), (138, .sl 9 0 2), (140, .r 9 0), (150, .sl 9 0 2), (152, .r 9 0)]
def nbEXM50 (v : NbV) : Mem := paM (nbEXM31 v) [] [.c [.i 0, .i 0, .i 0, .i 0, .i 0, .i 0, .i 0, .i 0, .i 0, .i 0, .i 0, .i 0, .i 0, .nl 2, .nl 2, .i 0, .i 0, .i 0, .i 0]]
theorem nbEXn61 (v : NbV) (H : NbH v true true v.e false false) : nbEXevD (cOp nbEXC26) (0, [12, 11, 10, 9, 8, 7, 6, 5, 4, 3, 2, 1, 0], [(5, [1]), (3, [9])], (nbEXT49 v), (nbEXM50 v)) [((nbEXT49 v), (nbEXM50 v))] := EvD.code (by kernel_rfl)
theorem nbEXn62 (v : NbV) (H : NbH v true true v.e false false) : nbEXevD (cOp nbEXC26) (6, [6, 5, 4, 3, 2, 1, 0], [(5, [1]), (3, [9])], (cPut (opAt (cOp nbEXC26) 6).dst).p (nbEXT48 v) (renV (fK [8] ((nbEXM31 v)).length) (.t [.a [.i 0, .i 0, .i 0, .i 0, .i 0, .i 0, .i 0, .i 0, .i 0, .i 0, .i 0, .i 0, .i 0, .nl 2, .nl 2, .i 0, .i 0, .i 0, .i 0], .i 1])), backM (nbEXM31 v) [8] ((nbE0k11Mm v))) [((nbEXT49 v), (nbEXM50 v))] := EvD.steps (j := 6) (by kernel_rfl) (nbEXn61 v H)
theorem nbEXn63 (v : NbV) (H : NbH v true true v.e false false) : nbEXevE (cOp nbEXC26) 6 6 [5, 4, 3, 2, 1, 0] [(5, [1]), (3, [9])] (nbEXT48 v) (nbEXM31 v) [((nbEXT49 v), (nbEXM50 v))] := EvE.call (args := [.r 8 0, .i v.a10]) (a := []) (cc := []) 6 _ (by kernel_rfl) (by kernel_rfl) (by kernel_rfl) (by kernel_rfl) (by kernel_rfl) (by kernel_rfl) (by decide) (by kernel_rfl) (by kernel_rfl) (by kernel_rfl) (by kernel_rfl) (nbE0k11_run v) (nbEXn62 v H)
def nbEXT51 (v : NbV) : Fr := puF (nbE0T44 v) [(7, .u (.p none)), (8, .i v.e), (9, .sl 9 0 2), (39, .t [.u (.p none), .i v.e]), (48, .t [.u (.p none), .i v.e]), (49, .u (.p none)), (50, .i v.e), (54, .i v.e), (56, .i v.e), (60, .u (.p none)), (61, .u (.b false)), (62, .i v.e), (63, .u (.b false)), (67, .r 8 0), (68, .sl 9 0 2), (69, .i 1), (70, .sl 9 0 2), (76, .sl 9 0 2), (77, .i 1), (78, .r 9 1), (79, .r 8 0), (88, .sl 9 0 2), (89, .i 1), (90, .r 9 1), (91, .r 8 0), (108, .sl 9 0 2), (110, .r 9 0), (124, .sl 9 0 2), (126, .r 9 0), (138, .sl 9 0 2), (140, .r 9 0), (150, .sl 9 0 2), (152, .r 9 0)]
def nbEXT52 (v : NbV) : Fr := puF (nbE0T44 v) [(7, .u (.p none)), (8, .i v.e), (9, .sl 9 0 2), (39, .t [.u (.p none), .i v.e]), (48, .t [.u (.p none), .i v.e]), (49, .u (.p none)), (50, .i v.e), (54, .i v.e), (56, .i v.e), (60, .u (.p none)), (61, .u (.b false)), (62, .i v.e), (63, .u (.b false)), (67, .r 8 0), (68, .sl 9 0 2), (69, .i 1), (70, .sl 9 0 2), (76, .sl 9 0 2), (77, .i 1), (78, .r 9 1), (79, .r 8 0), (88, .sl 9 0 2), (89, .i 1), (90, .r 9 1), (91, .r 8 0), (108, .sl 9 0 2), (110, .r 9 0), (124, .sl 9 0 2), (126, .r 9 0), (138, .sl 9 0 2), (140, .r 9 0), (150, .sl 9 0 2), (152, .r 9 0)]
def nbEXT53 (v : NbV) : Fr := puF (nbE0T44 v) [(7, .u (.p none)), (8, .i v.e), (9, .sl 9 0 2), (39, .t [.u (.p none), .i v.e]), (48, .t [.u (.p none), .i v.e]), (49, .u (.p none)), (50, .i v.e), (54, .i v.e), (56, .i v.e), (60, .u (.p none)), (61, .u (.b false)), (62, .i v.e), (63, .u (.b false)), (67, .r 8 0), (68, .sl 9 0 2), (69, .i 1), (70, .sl 9 0 2), (76, .sl 9 0 2), (77, .i 1), (78, .r 9 1), (79, .r 8 0), (88, .sl 9 0 2), (89, .i 1), (90, .r 9 1), (91, .r 8 0), (108, .sl 9 0 2), (110, .r 9 0), (124, .sl 9 0 2), (126, .r 9 0), (138, .sl 9 0 2), (140, .r 9 0), (150, .sl 9 0 2), (152, .r 9 0)]
theorem nbEXn64 (v : NbV) (H : NbH v true true v.e false false) : nbEXevD (cOp nbEXC26) (0, [12, 11, 9, 8, 7, 6, 10, 5, 4, 3, 2, 1, 0], [(5, [1]), (3, [9])], (nbEXT53 v), (nbEXM50 v)) [((nbEXT53 v), (nbEXM50 v))] := EvD.code (by kernel_rfl)
theorem nbEXn65 (v : NbV) (H : NbH v true true v.e false false) : nbEXevD (cOp nbEXC26) (5, [6, 10, 5, 4, 3, 2, 1, 0], [(5, [1]), (3, [9])], (cPut (opAt (cOp nbEXC26) 6).dst).p (nbEXT52 v) (renV (fK [8] ((nbEXM50 v)).length) (.t [.a [.i 0, .i 0, .i 0, .i 0, .i 0, .i 0, .i 0, .i 0, .i 0, .i 0, .i 0, .i 0, .i 0, .nl 2, .nl 2, .i 0, .i 0, .i 0, .i 0], .i 1])), backM (nbEXM50 v) [8] ((nbE0k11Mm v))) [((nbEXT53 v), (nbEXM50 v))] := EvD.steps (j := 5) (by kernel_rfl) (nbEXn64 v H)
theorem nbEXn66 (v : NbV) (H : NbH v true true v.e false false) : nbEXevD (cOp nbEXC26) (6, [10, 5, 4, 3, 2, 1, 0], [(5, [1]), (3, [9])], (nbEXT52 v), (nbEXM50 v)) [((nbEXT53 v), (nbEXM50 v))] := EvD.one 6 (by kernel_rfl) (by kernel_rfl) (EvE.call (args := [.r 8 0, .i v.a10]) (a := []) (cc := []) 6 _ (by kernel_rfl) (by kernel_rfl) (by kernel_rfl) (by kernel_rfl) (by kernel_rfl) (by kernel_rfl) (by decide) (by kernel_rfl) (by kernel_rfl) (by kernel_rfl) (by kernel_rfl) (nbE0k11_run v) (nbEXn65 v H))
theorem nbEXn67 (v : NbV) (H : NbH v true true v.e false false) : nbEXevD (cOp nbEXC26) (6, [10, 5, 4, 3, 2, 1, 0], [(5, [1]), (3, [9])], (nbEXT51 v), (nbEXM50 v)) [((nbEXT53 v), (nbEXM50 v))] := EvD.steps (j := 0) (by kernel_rfl) (nbEXn66 v H)
theorem nbEXn68 (v : NbV) (H : NbH v true true v.e false false) : nbEXevE (cOp nbEXC26) 10 6 [5, 4, 3, 2, 1, 0] [(5, [1]), (3, [9])] (nbEXT48 v) (nbEXM31 v) [((nbEXT53 v), (nbEXM50 v))] := EvE.step (by kernel_rfl) (nbEXn67 v H)
theorem nbEXn69 (v : NbV) (H : NbH v true true v.e false false) : nbEXevD (cOp nbEXC26) (7, [5, 4, 3, 2, 1, 0], [(5, [1]), (3, [9])], (nbEXT48 v), (nbEXM31 v)) [((nbEXT49 v), (nbEXM50 v)), ((nbEXT53 v), (nbEXM50 v))] := EvD.two (o1 := [((nbEXT49 v), (nbEXM50 v))]) (o2 := [((nbEXT53 v), (nbEXM50 v))]) 6 10 (by kernel_rfl) (by kernel_rfl) (nbEXn63 v H) (nbEXn68 v H)
theorem nbEXn70 (v : NbV) (H : NbH v true true v.e false false) : nbEXevD (cOp nbEXC26) ((cOp nbEXC26).length, [], [], (nbEXT47 v), (nbEXM31 v)) [((nbEXT49 v), (nbEXM50 v)), ((nbEXT53 v), (nbEXM50 v))] := EvD.steps (j := 6) (by kernel_rfl) (nbEXn69 v H)
def nbEXT54 (v : NbV) : Fr := puF (nbE0T44 v) [(7, .u (.p none)), (8, .i v.e), (9, .sl 9 0 2), (39, .t [.u (.p none), .i v.e]), (48, .t [.u (.p none), .i v.e]), (49, .u (.p none)), (50, .i v.e), (54, .i v.e), (56, .i v.e), (60, .u (.p none)), (61, .u (.b false)), (62, .i v.e), (63, .u (.b false)), (67, .r 8 0), (68, .sl 9 0 2), (69, .i 1), (70, .sl 9 0 2), (76, .sl 9 0 2), (77, .i 1), (78, .r 9 1), (79, .r 8 0), (88, .sl 9 0 2), (89, .i 1), (90, .r 9 1), (91, .r 8 0), (108, .sl 9 0 2), (110, .r 9 0), (124, .sl 9 0 2), (126, .r 9 0), (138, .sl 9 0 2), (140, .r 9 0), (150, .sl 9 0 2), (152, .r 9 0)]
theorem nbEXn71 (v : NbV) (H : NbH v true true v.e false false) : nbEXev nbEXC26 (nbEXT47 v) (nbEXM31 v) [(.nrm, (nbEXT54 v), (nbEXM50 v))] := Ev.regD2 (outs := [((nbEXT49 v), (nbEXM50 v)), ((nbEXT53 v), (nbEXM50 v))]) (by kernel_rfl) (by kernel_rfl) (by kernel_rfl) (nbEXn70 v H) ⟨by kernel_rfl, by kernel_rfl, trivial⟩
def nbEXT55 (v : NbV) : Fr := puF (nbE0T44 v) [(7, .u (.p none)), (8, .i v.e), (9, .sl 9 0 2), (39, .t [.u (.p none), .i v.e]), (48, .t [.u (.p none), .i v.e]), (49, .u (.p none)), (50, .i v.e), (54, .i v.e), (56, .i v.e), (60, .u (.p none)), (61, .u (.b false)), (62, .i v.e), (63, .u (.b false)), (67, .r 8 0), (68, .sl 9 0 2), (69, .i 1), (70, .sl 9 0 2), (76, .sl 9 0 2), (77, .i 1), (78, .r 9 1), (79, .r 8 0), (88, .sl 9 0 2), (89, .i 1), (90, .r 9 1), (91, .r 8 0), (108, .sl 9 0 2), (109, .i 1), (110, .r 9 1), (111, .r 8 0), (124, .sl 9 0 2), (126, .r 9 0), (138, .sl 9 0 2), (140, .r 9 0), (150, .sl 9 0 2), (152, .r 9 0)]
def nbEXT56 (v : NbV) : Fr := puF (nbE0T44 v) [(7, .u (.p none)), (8, .i v.e), (9, .sl 9 0 2), (39, .t [.u (.p none), .i v.e]), (48, .t [.u (.p none), .i v.e]), (49, .u (.p none)), (50, .i v.e), (54, .i v.e), (56, .i v.e), (60, .u (.p none)), (61, .u (.b false)), (62, .i v.e), (63, .u (.b false)), (67, .r 8 0), (68, .sl 9 0 2), (69, .i 1), (70, .sl 9 0 2), (76, .sl 9 0 2), (77, .i 1), (78, .r 9 1), (79, .r 8 0), (88, .sl 9 0 2), (89, .i 1), (90, .r 9 1), (91, .r 8 0), (108, .sl 9 0 2), (109, .i 1), (110, .r 9 1), (111, .r 8 0), (124, .sl 9 0 2), (125, .i 1), (126, .r 9 1), (127, .r 8 0), (138, .sl 9 0 2), (140, .r 9 0), (150, .sl 9 0 2), (152, .r 9 0)]
def nbEXT57 (v : NbV) : Fr := puF (nbE0T60 v) [(7, .u (.p none)), (8, .i v.e), (9, .sl 9 0 2), (13, .r 11 0), (39, .t [.u (.p none), .i v.e]), (48, .t [.u (.p none), .i v.e]), (49, .u (.p none)), (50, .i v.e), (54, .i v.e), (56, .i v.e), (60, .u (.p none)), (61, .u (.b false)), (62, .i v.e), (63, .u (.b false)), (67, .r 8 0), (68, .sl 9 0 2), (70, .sl 9 0 2), (76, .sl 9 0 2), (78, .r 9 1), (79, .r 8 0), (88, .sl 9 0 2), (90, .r 9 1), (91, .r 8 0), (108, .sl 9 0 2), (110, .r 9 1), (111, .r 8 0), (124, .sl 9 0 2), (126, .r 9 1), (127, .r 8 0), (138, .sl 9 0 2), (140, .r 9 1), (141, .r 8 0), (150, .sl 9 0 2), (151, .i 0), (152, .r 9 0), (153, .u (.p none))]
def nbEXT58 (v : NbV) : Fr := puF (nbEXT57 v) [(151, .i 1), (152, .r 9 1), (153, .r 8 0)]
def nbEXT59 (v : NbV) : Fr := puF (nbEXT58 v) []
theorem nbEXn72 (v : NbV) (H : NbH v true true v.e false false) : nbEXevD (cOp nbEXC28) (0, [60, 59, 58, 57, 56, 55, 54, 53, 52, 51, 50, 49, 48, 47, 46, 45, 44, 43, 42, 41, 40, 39, 38, 37, 36, 35, 34, 33, 32, 31, 30, 29, 28, 27, 26, 25, 24, 23, 22, 21, 20, 19, 18, 17, 16, 15, 14, 13, 12, 11, 10, 9, 8, 7, 6, 5, 4, 3, 2, 1, 0], [(58, []), (56, [9]), (48, [1]), (46, [1]), (44, [9]), (36, [1]), (34, [1]), (32, [1]), (30, [9]), (22, [1]), (20, [1]), (18, [1]), (16, [1]), (14, [9])], (nbEXT59 v), (nbEXM50 v)) [((nbEXT59 v), (nbEXM50 v))] := EvD.code (by kernel_rfl)
theorem nbEXn73 (v : NbV) (H : NbH v true true v.e false false) : nbEXevD (cOp nbEXC28) (3, [57, 56, 55, 54, 53, 52, 51, 50, 49, 48, 47, 46, 45, 44, 43, 42, 41, 40, 39, 38, 37, 36, 35, 34, 33, 32, 31, 30, 29, 28, 27, 26, 25, 24, 23, 22, 21, 20, 19, 18, 17, 16, 15, 14, 13, 12, 11, 10, 9, 8, 7, 6, 5, 4, 3, 2, 1, 0], [(56, [9]), (48, [1]), (46, [1]), (44, [9]), (36, [1]), (34, [1]), (32, [1]), (30, [9]), (22, [1]), (20, [1]), (18, [1]), (16, [1]), (14, [9])], (cPut (opAt (cOp nbEXC28) 57).dst).p (nbEXT58 v) (renV (fK [8] ((nbEXM50 v)).length) (.nl 19)), backM (nbEXM50 v) [8] ((nbE0k15Mm v))) [((nbEXT59 v), (nbEXM50 v))] := EvD.steps (j := 3) (by kernel_rfl) (nbEXn72 v H)
theorem nbEXn74 (v : NbV) (H : NbH v true true v.e false false) : nbEXevD (cOp nbEXC28) (4, [56, 55, 54, 53, 52, 51, 50, 49, 48, 47, 46, 45, 44, 43, 42, 41, 40, 39, 38, 37, 36, 35, 34, 33, 32, 31, 30, 29, 28, 27, 26, 25, 24, 23, 22, 21, 20, 19, 18, 17, 16, 15, 14, 13, 12, 11, 10, 9, 8, 7, 6, 5, 4, 3, 2, 1, 0], [(56, [9]), (48, [1]), (46, [1]), (44, [9]), (36, [1]), (34, [1]), (32, [1]), (30, [9]), (22, [1]), (20, [1]), (18, [1]), (16, [1]), (14, [9])], (nbEXT58 v), (nbEXM50 v)) [((nbEXT59 v), (nbEXM50 v))] := EvD.one 57 (by kernel_rfl) (by kernel_rfl) (EvE.call (args := [.r 8 0]) (a := []) (cc := []) 57 _ (by kernel_rfl) (by kernel_rfl) (by kernel_rfl) (by kernel_rfl) (by kernel_rfl) (by kernel_rfl) (by decide) (by kernel_rfl) (by kernel_rfl) (by kernel_rfl) (by kernel_rfl) (nbE0k15_run v) (nbEXn73 v H))
theorem nbEXn75 (v : NbV) (H : NbH v true true v.e false false) : nbEXevD (cOp nbEXC28) (11, [49, 48, 47, 46, 45, 44, 43, 42, 41, 40, 39, 38, 37, 36, 35, 34, 33, 32, 31, 30, 29, 28, 27, 26, 25, 24, 23, 22, 21, 20, 19, 18, 17, 16, 15, 14, 13, 12, 11, 10, 9, 8, 7, 6, 5, 4, 3, 2, 1, 0], [(48, [1]), (46, [1]), (44, [9]), (36, [1]), (34, [1]), (32, [1]), (30, [9]), (22, [1]), (20, [1]), (18, [1]), (16, [1]), (14, [9])], (cPut (opAt (cOp nbEXC28) 49).dst).p (nbEXT57 v) (renV (fK [8] ((nbEXM50 v)).length) (.i 1)), backM (nbEXM50 v) [8] ((nbE0k14Mm v))) [((nbEXT59 v), (nbEXM50 v))] := EvD.steps (j := 7) (by kernel_rfl) (nbEXn74 v H)
theorem nbEXn76 (v : NbV) (H : NbH v true true v.e false false) : nbEXevD (cOp nbEXC28) (12, [48, 47, 46, 45, 44, 43, 42, 41, 40, 39, 38, 37, 36, 35, 34, 33, 32, 31, 30, 29, 28, 27, 26, 25, 24, 23, 22, 21, 20, 19, 18, 17, 16, 15, 14, 13, 12, 11, 10, 9, 8, 7, 6, 5, 4, 3, 2, 1, 0], [(48, [1]), (46, [1]), (44, [9]), (36, [1]), (34, [1]), (32, [1]), (30, [9]), (22, [1]), (20, [1]), (18, [1]), (16, [1]), (14, [9])], (nbEXT57 v), (nbEXM50 v)) [((nbEXT59 v), (nbEXM50 v))] := EvD.one 49 (by kernel_rfl) (by kernel_rfl) (EvE.call (args := [.r 8 0, .i v.a11, .i v.a10]) (a := []) (cc := []) 49 _ (by kernel_rfl) (by kernel_rfl) (by kernel_rfl) (by kernel_rfl) (by kernel_rfl) (by kernel_rfl) (by decide) (by kernel_rfl) (by kernel_rfl) (by kernel_rfl) (by kernel_rfl) (nbE0k14_run v) (nbEXn75 v H))
theorem nbEXn77 (v : NbV) (H : NbH v true true v.e false false) : nbEXevD (cOp nbEXC28) (23, [37, 36, 35, 34, 33, 32, 31, 30, 29, 28, 27, 26, 25, 24, 23, 22, 21, 20, 19, 18, 17, 16, 15, 14, 13, 12, 11, 10, 9, 8, 7, 6, 5, 4, 3, 2, 1, 0], [(36, [1]), (34, [1]), (32, [1]), (30, [9]), (22, [1]), (20, [1]), (18, [1]), (16, [1]), (14, [9])], (cPut (opAt (cOp nbEXC28) 37).dst).p (nbEXT56 v) (renV (fK [8] ((nbEXM50 v)).length) (.i 1)), backM (nbEXM50 v) [8] ((nbE0k13Mm v))) [((nbEXT59 v), (nbEXM50 v))] := EvD.steps (j := 11) (by kernel_rfl) (nbEXn76 v H)
theorem nbEXn78 (v : NbV) (H : NbH v true true v.e false false) : nbEXevD (cOp nbEXC28) (24, [36, 35, 34, 33, 32, 31, 30, 29, 28, 27, 26, 25, 24, 23, 22, 21, 20, 19, 18, 17, 16, 15, 14, 13, 12, 11, 10, 9, 8, 7, 6, 5, 4, 3, 2, 1, 0], [(36, [1]), (34, [1]), (32, [1]), (30, [9]), (22, [1]), (20, [1]), (18, [1]), (16, [1]), (14, [9])], (nbEXT56 v), (nbEXM50 v)) [((nbEXT59 v), (nbEXM50 v))] := EvD.one 37 (by kernel_rfl) (by kernel_rfl) (EvE.call (args := [.r 8 0, .i v.a11, .i v.a10, .i v.a11]) (a := []) (cc := []) 37 _ (by kernel_rfl) (by kernel_rfl) (by kernel_rfl) (by kernel_rfl) (by kernel_rfl) (by kernel_rfl) (by decide) (by kernel_rfl) (by kernel_rfl) (by kernel_rfl) (by kernel_rfl) (nbE0k13_run v) (nbEXn77 v H))
theorem nbEXn79 (v : NbV) (H : NbH v true true v.e false false) : nbEXevD (cOp nbEXC28) (37, [23, 22, 21, 20, 19, 18, 17, 16, 15, 14, 13, 12, 11, 10, 9, 8, 7, 6, 5, 4, 3, 2, 1, 0], [(22, [1]), (20, [1]), (18, [1]), (16, [1]), (14, [9])], (cPut (opAt (cOp nbEXC28) 23).dst).p (nbEXT55 v) (renV (fK [8] ((nbEXM50 v)).length) (.i 1)), backM (nbEXM50 v) [8] ((nbE0k12Mm v))) [((nbEXT59 v), (nbEXM50 v))] := EvD.steps (j := 13) (by kernel_rfl) (nbEXn78 v H)
theorem nbEXn80 (v : NbV) (H : NbH v true true v.e false false) : nbEXevD (cOp nbEXC28) (38, [22, 21, 20, 19, 18, 17, 16, 15, 14, 13, 12, 11, 10, 9, 8, 7, 6, 5, 4, 3, 2, 1, 0], [(22, [1]), (20, [1]), (18, [1]), (16, [1]), (14, [9])], (nbEXT55 v), (nbEXM50 v)) [((nbEXT59 v), (nbEXM50 v))] := EvD.one 23 (by kernel_rfl) (by kernel_rfl) (EvE.call (args := [.r 8 0, .i v.a11, .i v.a10, .i v.a11, .i v.a12]) (a := []) (cc := []) 23 _ (by kernel_rfl) (by kernel_rfl) (by kernel_rfl) (by kernel_rfl) (by kernel_rfl) (by kernel_rfl) (by decide) (by kernel_rfl) (by kernel_rfl) (by kernel_rfl) (by kernel_rfl) (nbE0k12_run v) (nbEXn79 v H))
theorem nbEXn81 (v : NbV) (H : NbH v true true v.e false false) : nbEXevD (cOp nbEXC28) ((cOp nbEXC28).length, [], [], (nbEXT54 v), (nbEXM50 v)) [((nbEXT59 v), (nbEXM50 v))] := EvD.steps (j := 23) (by kernel_rfl) (nbEXn80 v H)
def nbEXT60 (v : NbV) : Fr := puF (nbEXT58 v) []
theorem nbEXn82 (v : NbV) (H : NbH v true true v.e false false) : nbEXev nbEXC28 (nbEXT54 v) (nbEXM50 v) [(.nrm, (nbEXT60 v), (nbEXM50 v))] := Ev.regD2 (outs := [((nbEXT59 v), (nbEXM50 v))]) (by kernel_rfl) (by kernel_rfl) (by kernel_rfl) (nbEXn81 v H) ⟨by kernel_rfl, trivial⟩
def nbEXT61 (v : NbV) : Fr := puF (nbEXT58 v) []
theorem nbEXn83 (v : NbV) (H : NbH v true true v.e false false) : nbEXev nbEXC29 (nbEXT60 v) (nbEXM50 v) [(.nrm, (nbEXT61 v), (nbEXM50 v))] := Ev.code (by kernel_rfl)
theorem nbEXn84 (v : NbV) (H : NbH v true true v.e false false) : nbEXev nbEXC27 (nbEXT54 v) (nbEXM50 v) [(.nrm, (nbEXT61 v), (nbEXM50 v))] := Ev.seqP (by kernel_rfl) (nbEXn82 v H) (nbEXn83 v H)
theorem nbEXn85 (v : NbV) (H : NbH v true true v.e false false) : nbEXev nbEXC25 (nbEXT47 v) (nbEXM31 v) [(.nrm, (nbEXT61 v), (nbEXM50 v))] := Ev.seqP (by kernel_rfl) (nbEXn71 v H) (nbEXn84 v H)
theorem nbEXn86 (v : NbV) (H : NbH v true true v.e false false) : nbEXev nbEXC23 (nbEXT44 v) (nbEXM31 v) [(.nrm, (nbEXT61 v), (nbEXM50 v))] := Ev.seqP (by kernel_rfl) (nbEXn60 v H) (nbEXn85 v H)
theorem nbEXn87 (v : NbV) (H : NbH v true true v.e false false) : nbEXev nbEXC22 (nbEXT44 v) (nbEXM31 v) [(.nrm, (nbEXT61 v), (nbEXM50 v))] := Ev.blockP (by kernel_rfl) (by kernel_rfl) (nbEXn86 v H)
def nbEXT62 (v : NbV) : Fr := puF (nbEXT58 v) [(10, .i 2), (73, .i 1), (74, .i 2)]
theorem nbEXn88 (v : NbV) (H : NbH v true true v.e false false) : nbEXev nbEXC30 (nbEXT61 v) (nbEXM50 v) [(.nrm, (nbEXT62 v), (nbEXM50 v))] := Ev.code (by kernel_rfl)
theorem nbEXn89 (v : NbV) (H : NbH v true true v.e false false) : nbEXev nbEXC21 (nbEXT44 v) (nbEXM31 v) [(.nrm, (nbEXT62 v), (nbEXM50 v))] := Ev.seqP (by kernel_rfl) (nbEXn87 v H) (nbEXn88 v H)
theorem nbEXn90 (v : NbV) (H : NbH v true true v.e false false) : nbEXev nbEXC20 (nbEXT43 v) (nbEXM31 v) [(.nrm, (nbEXT62 v), (nbEXM50 v))] := Ev.pieces (k := 1) (t1 := (nbEXT44 v)) (m1 := (nbEXM31 v)) (by kernel_rfl) (nbEXn89 v H)
def nbEXT63 (v : NbV) : Fr := puF (nbEXT62 v) [(13, .r 10 0)]
noncomputable abbrev nbEXC31 : Code := cL nbEXC20
def nbEXT64 (v : NbV) : Fr := puF (nbEXT63 v) [(69, .i 2), (72, .u (.b false))]
theorem nbEXn91 (v : NbV) (H : NbH v true true v.e false false) : nbEXev nbEXC31 (nbEXT63 v) (nbEXM31 v) [((.ext 0), (nbEXT64 v), (nbEXM31 v))] := Ev.code (by kernel_rfl)
theorem nbEXn92 (v : NbV) (H : NbH v true true v.e false false) : nbEXev nbEXC20 (nbEXT63 v) (nbEXM31 v) [((.ext 0), (nbEXT64 v), (nbEXM31 v))] := Ev.seqE (by intro h; cases h) (by kernel_rfl) (nbEXn91 v H)
theorem nbEXn93 (v : NbV) (H : NbH v true true v.e false false) : nbEXevL 10 nbEXC20 298 (nbEXT63 v) (nbEXM31 v) [((.ext 0), (nbEXT64 v), (nbEXM31 v))] := EvL.last (by intro h; cases h) (nbEXn92 v H)
theorem nbEXn94 (v : NbV) (H : NbH v true true v.e false false) : nbEXevL 10 nbEXC20 299 (nbEXT43 v) (nbEXM31 v) [((.ext 0), (nbEXT64 v), (nbEXM31 v))] := EvL.round (t2 := (nbEXT63 v)) (m2 := (nbEXM31 v)) (nbEXn90 v H) (by kernel_rfl) (nbEXn93 v H)
theorem nbEXn95 (v : NbV) (H : NbH v true true v.e false false) : nbEXevL 10 nbEXC20 300 (nbEXT24 v) (nbEXM23 v) [((.ext 0), (nbEXT64 v), (nbEXM31 v))] := EvL.round (t2 := (nbEXT43 v)) (m2 := (nbEXM31 v)) (nbEXn55 v H) (by kernel_rfl) (nbEXn94 v H)
theorem nbEXn96 (v : NbV) (H : NbH v true true v.e false false) : nbEXev nbEXC19 (nbEXT24 v) (nbEXM23 v) [((.ext 0), (nbEXT64 v), (nbEXM31 v))] := Ev.loopP (n0 := 10) (by kernel_rfl) (by kernel_rfl) (nbEXn95 v H)
theorem nbEXn97 (v : NbV) (H : NbH v true true v.e false false) : nbEXev nbEXC18 (nbEXT24 v) (nbEXM23 v) [(.nrm, (nbEXT64 v), (nbEXM31 v))] := Ev.blockP (by kernel_rfl) (by kernel_rfl) (nbEXn96 v H)
theorem nbEXn98 (v : NbV) (H : NbH v true true v.e false false) : nbEXev nbEXC17 (nbEXT22 v) (nbEXM23 v) [(.nrm, (nbEXT64 v), (nbEXM31 v))] := Ev.pieces (k := 1) (t1 := (nbEXT24 v)) (m1 := (nbEXM23 v)) (by kernel_rfl) (nbEXn97 v H)
noncomputable abbrev nbEXC32 : Code := cR nbEXC16
noncomputable abbrev nbEXC33 : Code := cL nbEXC32
def nbEXT65 (v : NbV) : Fr := puF (nbEXT64 v) []
def nbEXT66 (v : NbV) : Fr := puF (nbEXT64 v) [(15, .r 21 0), (16, .u (.b true)), (158, .t [.a [.r 11 0, .r 14 0, .r 16 0, .r 18 0, .r 20 0], .u (.b true)]), (159, .t [.a [.r 11 0, .r 14 0, .r 16 0, .r 18 0, .r 20 0], .u (.b true)]), (160, .a [.r 11 0, .r 14 0, .r 16 0, .r 18 0, .r 20 0]), (161, .u (.b true))]
def nbEXM67 (v : NbV) : Mem := paM (nbEXM31 v) [] [.c [.i 4, .w 12, .i 2, .w 13, .i 3, .i 200, .i 1, .i 500, .r 14 0, .r 16 0, .r 18 0, .r 20 0, .nl 19],
  .w 146 7 [[.n 3, .n 2, .n 10, .l 2 [[.n 1, .n 3], [.n 2, .n 1]], .n 2, .n 3, .n 5], [.n 4, .n 1, .n 7, .l 2 [[.n 3, .n 2]], .n 0, .n 0, .n 3]],
  .w 152 4 [[.n 1, .n 1, .n 1, .n 1000], [.n 1, .n 1, .n 0, .n 0]],
  .c [.w 15, .i 562],
  .w 191 5 [[.n 0, .n 0, .n 0, .n 0, .n 0], [.n 1, .n 0, .n 0, .n 0, .n 60], [.n 2, .n 0, .n 0, .n 0, .n 500], [.n 3, .n 0, .n 0, .n 0, .n 2]],
  .c [.w 17, .n .i64 33 [0, 120, 80, 40, 0, 0, 0, 0, 0, 0, 0, 0, 0, 0, 0, 0, 0, 0, 0, 0, 0, 0, 0, 0, 0, 0, 0, 0, 0, 0, 0, 0, 0]],
  .w 191 5 [[.n 1, .n 0, .n 1, .n 1, .n 60], [.n 1, .n 0, .n 1, .n 2, .n 40], [.n 1, .n 0, .n 1, .n 3, .n 20], [.n 2, .n 0, .n 1, .n 1, .n 60], [.n 2, .n 0, .n 1, .n 2, .n 40], [.n 2, .n 0, .n 1, .n 3, .n 20]],
  .c [.nl 3, .m 19, .i 256, .i 1],
  .p .n 1 false [],
  .c [.nl 4, .nm],
  .c [.r 11 0, .r 14 0, .r 16 0, .r 18 0, .r 20 0]]
theorem nbEXn99 (v : NbV) (H : NbH v true true v.e false false) : nbEXevO (cOp nbEXC33) ((cOp nbEXC33).drop 1) ((cPut (opAt (cOp nbEXC33) 0).dst).p (nbEXT65 v) (renV (fK [] ((nbEXM31 v)).length) (.t [.a [.r 0 0, .r 3 0, .r 5 0, .r 7 0, .r 9 0], .u (.b true)]))) (backM (nbEXM31 v) [] ((nbE0k16Mm v))) [((nbEXT66 v), (nbEXM67 v))] := EvO.ops (by kernel_rfl)
theorem nbEXn100 (v : NbV) (H : NbH v true true v.e false false) : nbEXevO (cOp nbEXC33) (cOp nbEXC33) ((nbEXT64 v)) ((nbEXM31 v)) [((nbEXT66 v), (nbEXM67 v))] := EvO.call (k := 0) (t1 := (nbEXT65 v)) (m1 := (nbEXM31 v)) (args := [.i 0]) (a := []) (cc := []) _ (by kernel_rfl) (by kernel_rfl) (by kernel_rfl) (by kernel_rfl) (by kernel_rfl) (by kernel_rfl) (by kernel_rfl) (by decide) (by kernel_rfl) (by kernel_rfl) (by kernel_rfl) (nbE0k16_run v) (nbEXn99 v H)
theorem nbEXn101 (v : NbV) (H : NbH v true true v.e false false) : nbEXev nbEXC33 (nbEXT64 v) (nbEXM31 v) [(.nrm, (nbEXT66 v), (nbEXM67 v))] := Ev.reg (outs := [((nbEXT66 v), (nbEXM67 v))]) (by kernel_rfl) (by kernel_rfl) (nbEXn100 v H)
noncomputable abbrev nbEXC34 : Code := cR nbEXC32
def nbEXT68 (v : NbV) : Fr := puF (nbEXT64 v) [(15, .r 21 0), (16, .u (.b true)), (158, .t [.a [.r 11 0, .r 14 0, .r 16 0, .r 18 0, .r 20 0], .u (.b true)]), (159, .t [.a [.r 11 0, .r 14 0, .r 16 0, .r 18 0, .r 20 0], .u (.b true)]), (160, .a [.r 11 0, .r 14 0, .r 16 0, .r 18 0, .r 20 0]), (161, .u (.b true)), (162, .u (.b true)), (163, .u (.b false))]
noncomputable abbrev nbEXC35 : Code := dropK 1 nbEXC34
noncomputable abbrev nbEXC36 : Code := cL nbEXC35
def nbEXT69 (v : NbV) : Fr := puF (nbEXT64 v) [(15, .r 21 0), (16, .u (.b true)), (158, .t [.a [.r 11 0, .r 14 0, .r 16 0, .r 18 0, .r 20 0], .u (.b true)]), (159, .t [.a [.r 11 0, .r 14 0, .r 16 0, .r 18 0, .r 20 0], .u (.b true)]), (160, .a [.r 11 0, .r 14 0, .r 16 0, .r 18 0, .r 20 0]), (161, .u (.b true)), (162, .u (.b true)), (163, .u (.b false)), (164, .r 21 0), (165, .r 11 0)]
def nbEXT70 (v : NbV) : Fr := puF (nbEXT64 v) [(15, .r 21 0), (16, .u (.b true)), (158, .t [.a [.r 11 0, .r 14 0, .r 16 0, .r 18 0, .r 20 0], .u (.b true)]), (159, .t [.a [.r 11 0, .r 14 0, .r 16 0, .r 18 0, .r 20 0], .u (.b true)]), (160, .a [.r 11 0, .r 14 0, .r 16 0, .r 18 0, .r 20 0]), (161, .u (.b true)), (162, .u (.b true)), (163, .u (.b false)), (164, .r 21 0), (165, .r 11 0), (166, .a [.i 0, .i 1, .i 2, .i 0, .i 2, .i 0, .i 1, .i 2, .i 100, .i 50, .i 10, .i 20, .i 0, .u (.l 2 [[.n 1, .n 5]]), .nl 2, .i 0, .i 0, .i 0, .i 0])]
def nbEXT71 (v : NbV) : Fr := puF (nbEXT64 v) [(15, .r 21 0), (16, .u (.b true)), (158, .t [.a [.r 11 0, .r 14 0, .r 16 0, .r 18 0, .r 20 0], .u (.b true)]), (159, .t [.a [.r 11 0, .r 14 0, .r 16 0, .r 18 0, .r 20 0], .u (.b true)]), (160, .a [.r 11 0, .r 14 0, .r 16 0, .r 18 0, .r 20 0]), (161, .u (.b true)), (162, .u (.b true)), (163, .u (.b false)), (164, .r 21 0), (165, .r 11 0), (166, .a [.i 0, .i 1, .i 2, .i 0, .i 2, .i 0, .i 1, .i 2, .i 100, .i 50, .i 10, .i 20, .i 0, .u (.l 2 [[.n 1, .n 5]]), .nl 2, .i 0, .i 0, .i 0, .i 0]), (167, .t [.i 1, .i 0])]
def nbEXM72 (v : NbV) : Mem := [.c [.i v.c1, .u (.l 7 v.c2), .i v.c3, .u (.l 4 v.c4), .i v.c5, .i v.c6, .i v.c7, .i v.c8],
  .c [.i v.a9, .i v.a10, .i v.a11, .i v.a12, .i v.a13, .i v.a14, .i v.a15, .i v.a16, .i v.a17, .i v.a18, .i v.a19, .i v.a20, .i v.a21, .i v.a22, .i v.a23, .i v.a24, .i v.a25, .u (.l 2 v.a26), .u (.l 2 v.a27), .i v.a28, .i v.a29, .i v.a30, .i v.a31],
  .w 46 23 [[.n v.a9, .n v.a10, .n v.a11, .n v.a12, .n v.a13, .n v.a14, .n v.a15, .n v.a16, .n v.a17, .n v.a18, .n v.a19, .n v.a20, .n v.a21, .n v.a22, .n v.a23, .n v.a24, .n v.a25, .l 2 v.a26, .l 2 v.a27, .n v.a28, .n v.a29, .n v.a30, .n v.a31]],
  .c [.nl 3, .m 4, .i 4, .i 1],
  .p .n 1 false [],
  .c [.nl 5, .i 0],
  .c [.nl 5, .n .i64 33 [0, 0, 0, 0, 0, 0, 0, 0, 0, 0, 0, 0, 0, 0, 0, 0, 0, 0, 0, 0, 0, 0, 0, 0, 0, 0, 0, 0, 0, 0, 0, 0, 0]],
  .c [.nl 4, .nm],
  .c [.i 0, .nl 7, .i 0, .nl 4, .i 0, .i 0, .i 0, .i 0, .u (.p none), .u (.p none), .u (.p none), .u (.p none), .nl 19],
  .c [.u (.p none), .r 8 0],
  .c [.i 0, .i 0, .i 0, .i 0, .i 0, .i 0, .i 0, .i 0, .i 0, .i 0, .i 0, .i 0, .i 0, .nl 2, .nl 2, .i 0, .i 0, .i 0, .i 0],
  .c [.i 4, .w 12, .i 2, .w 13, .i 3, .i 200, .i 1, .i 500, .r 14 0, .r 16 0, .r 18 0, .r 20 0, .w 22],
  .w 146 7 [[.n 3, .n 2, .n 10, .l 2 [[.n 1, .n 3], [.n 2, .n 1]], .n 2, .n 3, .n 5], [.n 4, .n 1, .n 7, .l 2 [[.n 3, .n 2]], .n 0, .n 0, .n 3]],
  .w 152 4 [[.n 1, .n 1, .n 1, .n 1000], [.n 1, .n 1, .n 0, .n 0]],
  .c [.w 23, .i 562],
  .w 191 5 [[.n 0, .n 0, .n 0, .n 0, .n 0], [.n 1, .n 0, .n 0, .n 0, .n 60], [.n 2, .n 0, .n 0, .n 0, .n 500], [.n 3, .n 0, .n 0, .n 0, .n 2]],
  .c [.w 24, .n .i64 33 [0, 120, 80, 40, 0, 0, 0, 0, 0, 0, 0, 0, 0, 0, 0, 0, 0, 0, 0, 0, 0, 0, 0, 0, 0, 0, 0, 0, 0, 0, 0, 0, 0]],
  .w 191 5 [[.n 1, .n 0, .n 1, .n 1, .n 60], [.n 1, .n 0, .n 1, .n 2, .n 40], [.n 1, .n 0, .n 1, .n 3, .n 20], [.n 2, .n 0, .n 1, .n 1, .n 60], [.n 2, .n 0, .n 1, .n 2, .n 40], [.n 2, .n 0, .n 1, .n 3, .n 20]],
  .c [.w 25, .m 19, .i 256, .i 2],
  .p .n 1 false [(.n 1, [.n 0])],
  .c [.nl 4, .nm],
  .c [.r 11 0, .r 14 0, .r 16 0, .r 18 0, .r 20 0],
  .w 33 19 [[.n 1, .n 1, .n 2, .n 0, .n 2, .n 0, .n 1, .n 2, .n 100, .n 50, .n 10, .n 20, .n 3, .l 2 [[.n 1, .n 5]], .l 2 [], .n 1, .n 10, .n 0, .n 0]],
  .w 191 5 [[.n 0, .n 0, .n 0, .n 0, .n 3], [.n 1, .n 0, .n 0, .n 0, .n 60], [.n 2, .n 0, .n 0, .n 0, .n 397], [.n 3, .n 0, .n 0, .n 0, .n 2], [.n 2097153, .n 0, .n 0, .n 0, .n 100]],
  .w 191 5 [[.n 1, .n 0, .n 1, .n 1, .n 60], [.n 1, .n 0, .n 1, .n 2, .n 40], [.n 1, .n 0, .n 1, .n 3, .n 20], [.n 2, .n 0, .n 1, .n 1, .n 55], [.n 2, .n 0, .n 1, .n 2, .n 40], [.n 2, .n 0, .n 1, .n 3, .n 20], [.n 2097153, .n 0, .n 1, .n 1, .n 5]],
  .w 136 3 [[.n 10, .n 1, .n 3]]]
theorem nbEXn102 (v : NbV) (H : NbH v true true v.e false false) : nbEXevD (cOp nbEXC36) (0, [3, 2, 1, 0], [(1, [21])], (nbEXT71 v), (nbEXM72 v)) [((nbEXT71 v), (nbEXM72 v))] := EvD.code (by kernel_rfl)
theorem nbEXn103 (v : NbV) (H : NbH v true true v.e false false) : nbEXevD (cOp nbEXC36) (0, [3, 2, 1, 0], [(1, [21])], (cPut (opAt (cOp nbEXC36) 3).dst).p (nbEXT70 v) (renV (fK [11, 12, 13, 14, 16, 18, 20, 15, 17, 19] ((nbEXM67 v)).length) (.t [.i 1, .i 0])), backM (nbEXM67 v) [11, 12, 13, 14, 16, 18, 20, 15, 17, 19] ((nbE0k18Mm v))) [((nbEXT71 v), (nbEXM72 v))] := EvD.steps (j := 0) (by kernel_rfl) (nbEXn102 v H)
theorem nbEXn104 (v : NbV) (H : NbH v true true v.e false false) : nbEXevD (cOp nbEXC36) (1, [2, 1, 0], [(1, [21])], (nbEXT70 v), (nbEXM67 v)) [((nbEXT71 v), (nbEXM72 v))] := EvD.one 3 (by kernel_rfl) (by kernel_rfl) (EvE.call (args := [.r 11 0, .i 0, .a [.i 0, .i 1, .i 2, .i 0, .i 2, .i 0, .i 1, .i 2, .i 100, .i 50, .i 10, .i 20, .i 0, .u (.l 2 [[.n 1, .n 5]]), .nl 2, .i 0, .i 0, .i 0, .i 0]]) (a := []) (cc := []) 3 _ (by kernel_rfl) (by kernel_rfl) (by kernel_rfl) (by kernel_rfl) (by kernel_rfl) (by kernel_rfl) (by decide) (by kernel_rfl) (by kernel_rfl) (by kernel_rfl) (by kernel_rfl) (nbE0k18_run v) (nbEXn103 v H))
theorem nbEXn105 (v : NbV) (H : NbH v true true v.e false false) : nbEXevD (cOp nbEXC36) (1, [2, 1, 0], [(1, [21])], (cPut (opAt (cOp nbEXC36) 2).dst).p (nbEXT69 v) (renV (fK [] ((nbEXM67 v)).length) (.a [.i 0, .i 1, .i 2, .i 0, .i 2, .i 0, .i 1, .i 2, .i 100, .i 50, .i 10, .i 20, .i 0, .u (.l 2 [[.n 1, .n 5]]), .nl 2, .i 0, .i 0, .i 0, .i 0])), backM (nbEXM67 v) [] ((nbE0k17Mm v))) [((nbEXT71 v), (nbEXM72 v))] := EvD.steps (j := 0) (by kernel_rfl) (nbEXn104 v H)
theorem nbEXn106 (v : NbV) (H : NbH v true true v.e false false) : nbEXevD (cOp nbEXC36) (2, [1, 0], [(1, [21])], (nbEXT69 v), (nbEXM67 v)) [((nbEXT71 v), (nbEXM72 v))] := EvD.one 2 (by kernel_rfl) (by kernel_rfl) (EvE.call (args := []) (a := []) (cc := []) 2 _ (by kernel_rfl) (by kernel_rfl) (by kernel_rfl) (by kernel_rfl) (by kernel_rfl) (by kernel_rfl) (by decide) (by kernel_rfl) (by kernel_rfl) (by kernel_rfl) (by kernel_rfl) (nbE0k17_run v) (nbEXn105 v H))
theorem nbEXn107 (v : NbV) (H : NbH v true true v.e false false) : nbEXevD (cOp nbEXC36) ((cOp nbEXC36).length, [], [], (nbEXT68 v), (nbEXM67 v)) [((nbEXT71 v), (nbEXM72 v))] := EvD.steps (j := 2) (by kernel_rfl) (nbEXn106 v H)
def nbEXT73 (v : NbV) : Fr := puF (nbEXT64 v) [(15, .r 21 0), (16, .u (.b true)), (158, .t [.a [.r 11 0, .r 14 0, .r 16 0, .r 18 0, .r 20 0], .u (.b true)]), (159, .t [.a [.r 11 0, .r 14 0, .r 16 0, .r 18 0, .r 20 0], .u (.b true)]), (160, .a [.r 11 0, .r 14 0, .r 16 0, .r 18 0, .r 20 0]), (161, .u (.b true)), (162, .u (.b true)), (163, .u (.b false)), (164, .r 21 0), (165, .r 11 0), (166, .a [.i 0, .i 1, .i 2, .i 0, .i 2, .i 0, .i 1, .i 2, .i 100, .i 50, .i 10, .i 20, .i 0, .u (.l 2 [[.n 1, .n 5]]), .nl 2, .i 0, .i 0, .i 0, .i 0]), (167, .t [.i 1, .i 0])]
theorem nbEXn108 (v : NbV) (H : NbH v true true v.e false false) : nbEXev nbEXC36 (nbEXT68 v) (nbEXM67 v) [(.nrm, (nbEXT73 v), (nbEXM72 v))] := Ev.regD2 (outs := [((nbEXT71 v), (nbEXM72 v))]) (by kernel_rfl) (by kernel_rfl) (by kernel_rfl) (nbEXn107 v H) ⟨by kernel_rfl, trivial⟩
noncomputable abbrev nbEXC37 : Code := cR nbEXC35
noncomputable abbrev nbEXC38 : Code := cL nbEXC37
def nbEXT74 (v : NbV) : Fr := puF (nbEXT64 v) [(15, .r 21 0), (16, .u (.b true)), (158, .t [.a [.r 11 0, .r 14 0, .r 16 0, .r 18 0, .r 20 0], .u (.b true)]), (159, .t [.a [.r 11 0, .r 14 0, .r 16 0, .r 18 0, .r 20 0], .u (.b true)]), (160, .a [.r 11 0, .r 14 0, .r 16 0, .r 18 0, .r 20 0]), (161, .u (.b true)), (162, .u (.b true)), (163, .u (.b false)), (164, .r 21 0), (165, .r 11 0), (166, .a [.i 0, .i 1, .i 2, .i 0, .i 2, .i 0, .i 1, .i 2, .i 100, .i 50, .i 10, .i 20, .i 0, .u (.l 2 [[.n 1, .n 5]]), .nl 2, .i 0, .i 0, .i 0, .i 0]), (167, .t [.i 1, .i 0])]
def nbEXT75 (v : NbV) : Fr := puF (nbE0T76 v) [(7, .u (.p none)), (8, .i v.e), (9, .sl 9 0 2), (13, .r 10 0), (15, .r 21 0), (17, .r 26 0), (39, .t [.u (.p none), .i v.e]), (48, .t [.u (.p none), .i v.e]), (49, .u (.p none)), (50, .i v.e), (54, .i v.e), (56, .i v.e), (60, .u (.p none)), (61, .u (.b false)), (62, .i v.e), (63, .u (.b false)), (67, .r 8 0), (68, .sl 9 0 2), (70, .sl 9 0 2), (76, .sl 9 0 2), (78, .r 9 1), (79, .r 8 0), (88, .sl 9 0 2), (90, .r 9 1), (91, .r 8 0), (108, .sl 9 0 2), (110, .r 9 1), (111, .r 8 0), (124, .sl 9 0 2), (126, .r 9 1), (127, .r 8 0), (138, .sl 9 0 2), (140, .r 9 1), (141, .r 8 0), (150, .sl 9 0 2), (152, .r 9 1), (153, .r 8 0), (158, .t [.a [.r 11 0, .r 14 0, .r 16 0, .r 18 0, .r 20 0], .u (.b true)]), (159, .t [.a [.r 11 0, .r 14 0, .r 16 0, .r 18 0, .r 20 0], .u (.b true)]), (160, .a [.r 11 0, .r 14 0, .r 16 0, .r 18 0, .r 20 0]), (164, .r 21 0), (165, .r 11 0)]
def nbEXM76 (v : NbV) : Mem := paM (nbEXM72 v) [] [.c [.i 4, .u (.l 7 [[.n 3, .n 2, .n 10, .l 2 [[.n 1, .n 3], [.n 2, .n 1]], .n 2, .n 3, .n 5], [.n 4, .n 1, .n 7, .l 2 [[.n 3, .n 2]], .n 0, .n 0, .n 3]]), .i 2, .u (.l 4 [[.n 1, .n 1, .n 1, .n 1000], [.n 1, .n 1, .n 0, .n 0]]), .i 3, .i 200, .i 1, .i 500]]
theorem nbEXn109 (v : NbV) (H : NbH v true true v.e false false) : nbEXevO (cOp nbEXC38) ((cOp nbEXC38).drop 1) ((cPut (opAt (cOp nbEXC38) 0).dst).p (nbEXT74 v) (renV (fK [] ((nbEXM72 v)).length) (.t [.a [.i 4, .u (.l 7 [[.n 3, .n 2, .n 10, .l 2 [[.n 1, .n 3], [.n 2, .n 1]], .n 2, .n 3, .n 5], [.n 4, .n 1, .n 7, .l 2 [[.n 3, .n 2]], .n 0, .n 0, .n 3]]), .i 2, .u (.l 4 [[.n 1, .n 1, .n 1, .n 1000], [.n 1, .n 1, .n 0, .n 0]]), .i 3, .i 200, .i 1, .i 500], .u (.l 2 [[.n 0, .n 0], [.n 1, .n 60], [.n 2, .n 500], [.n 3, .n 2]]), .u (.l 5 [[.n 1, .n 0, .n 1, .n 1, .n 60], [.n 1, .n 0, .n 1, .n 2, .n 40], [.n 1, .n 0, .n 1, .n 3, .n 20], [.n 2, .n 0, .n 1, .n 1, .n 60], [.n 2, .n 0, .n 1, .n 2, .n 40], [.n 2, .n 0, .n 1, .n 3, .n 20]]), .u (.l 9 [[.n 0, .n 1, .n 0, .n 1, .n 1, .n 0, .n 0, .n (-1), .n 0], [.n 0, .n 2, .n 0, .n 1, .n 2, .n 0, .n 0, .n (-1), .n 0], [.n 0, .n 1, .n 0, .n 1, .n 2, .n 3, .n 0, .n 4, .n 0], [.n 0, .n 2, .n 0, .n 1, .n 1, .n 0, .n 8, .n (-1), .n 0], [.n 0, .n 1, .n 0, .n 2, .n 1, .n 0, .n 0, .n (-1), .n 0]])]))) (backM (nbEXM72 v) [] ((nbE0k19Mm v))) [((nbEXT75 v), (nbEXM76 v))] := EvO.ops (by kernel_rfl)
theorem nbEXn110 (v : NbV) (H : NbH v true true v.e false false) : nbEXevO (cOp nbEXC38) (cOp nbEXC38) ((nbEXT73 v)) ((nbEXM72 v)) [((nbEXT75 v), (nbEXM76 v))] := EvO.call (k := 0) (t1 := (nbEXT74 v)) (m1 := (nbEXM72 v)) (args := [.i 0]) (a := []) (cc := []) _ (by kernel_rfl) (by kernel_rfl) (by kernel_rfl) (by kernel_rfl) (by kernel_rfl) (by kernel_rfl) (by kernel_rfl) (by decide) (by kernel_rfl) (by kernel_rfl) (by kernel_rfl) (nbE0k19_run v) (nbEXn109 v H)
theorem nbEXn111 (v : NbV) (H : NbH v true true v.e false false) : nbEXev nbEXC38 (nbEXT73 v) (nbEXM72 v) [(.nrm, (nbEXT75 v), (nbEXM76 v))] := Ev.reg (outs := [((nbEXT75 v), (nbEXM76 v))]) (by kernel_rfl) (by kernel_rfl) (nbEXn110 v H)
noncomputable abbrev nbEXC39 : Code := cR nbEXC37
noncomputable abbrev nbEXC40 : Code := cL nbEXC39
def nbEXT77 (v : NbV) : Fr := puF (nbEXT75 v) [(175, .a [.i 4, .u (.l 7 [[.n 3, .n 2, .n 10, .l 2 [[.n 1, .n 3], [.n 2, .n 1]], .n 2, .n 3, .n 5], [.n 4, .n 1, .n 7, .l 2 [[.n 3, .n 2]], .n 0, .n 0, .n 3]]), .i 2, .u (.l 4 [[.n 1, .n 1, .n 1, .n 1000], [.n 1, .n 1, .n 0, .n 0]]), .i 3, .i 200, .i 1, .i 500]), (176, .r 21 1), (177, .r 14 0), (178, .r 21 2), (179, .r 16 0), (180, .r 21 3), (181, .r 18 0), (182, .r 21 4), (183, .r 20 0), (184, .r 21 0), (185, .r 11 0)]
def nbEXT78 (v : NbV) : Fr := puF (nbEXT77 v) [(186, .u (.l 19 [[.n 1, .n 1, .n 2, .n 0, .n 2, .n 0, .n 1, .n 2, .n 100, .n 50, .n 10, .n 20, .n 3, .l 2 [[.n 1, .n 5]], .l 2 [], .n 1, .n 10, .n 0, .n 0]]))]
def nbEXT79 (v : NbV) : Fr := puF (nbEXT78 v) [(21, .r 27 0), (22, .i 0), (174, .t [.r 27 0, .i 0]), (187, .t [.r 27 0, .i 0]), (188, .r 27 0), (189, .i 0)]
def nbEXM80 (v : NbV) : Mem := paM (nbEXM76 v) [] [.c [.i 4, .u (.l 7 [[.n 3, .n 2, .n 10, .l 2 [[.n 1, .n 3], [.n 2, .n 1]], .n 2, .n 3, .n 5], [.n 4, .n 1, .n 7, .l 2 [[.n 3, .n 2]], .n 0, .n 0, .n 3]]), .i 2, .u (.l 4 [[.n 1, .n 1, .n 1, .n 1000], [.n 1, .n 1, .n 0, .n 0]]), .i 3, .i 200, .i 1, .i 500, .r 14 0, .r 16 0, .r 18 0, .r 20 0, .w 28],
  .w 33 19 [[.n 1, .n 1, .n 2, .n 0, .n 2, .n 0, .n 1, .n 2, .n 100, .n 50, .n 10, .n 20, .n 3, .l 2 [[.n 1, .n 5]], .l 2 [], .n 1, .n 10, .n 0, .n 0]]]
theorem nbEXn112 (v : NbV) (H : NbH v true true v.e false false) : nbEXevD (cOp nbEXC40) (0, [17, 16, 15, 14, 13, 12, 11, 10, 9, 8, 7, 6, 5, 4, 3, 2, 1, 0], [(10, [21]), (8, [21]), (6, [21]), (4, [21]), (2, [21]), (0, [26])], (nbEXT79 v), (nbEXM80 v)) [((nbEXT79 v), (nbEXM80 v))] := EvD.code (by kernel_rfl)
theorem nbEXn113 (v : NbV) (H : NbH v true true v.e false false) : nbEXevD (cOp nbEXC40) (5, [12, 11, 10, 9, 8, 7, 6, 5, 4, 3, 2, 1, 0], [(10, [21]), (8, [21]), (6, [21]), (4, [21]), (2, [21]), (0, [26])], (cPut (opAt (cOp nbEXC40) 12).dst).p (nbEXT78 v) (renV (fK [14, 16, 18, 20, 23, 24, 25, 19] ((nbEXM76 v)).length) (.t [.r 8 0, .i 0])), backM (nbEXM76 v) [14, 16, 18, 20, 23, 24, 25, 19] ((nbE0k21Mm v))) [((nbEXT79 v), (nbEXM80 v))] := EvD.steps (j := 5) (by kernel_rfl) (nbEXn112 v H)
theorem nbEXn114 (v : NbV) (H : NbH v true true v.e false false) : nbEXevD (cOp nbEXC40) (6, [11, 10, 9, 8, 7, 6, 5, 4, 3, 2, 1, 0], [(10, [21]), (8, [21]), (6, [21]), (4, [21]), (2, [21]), (0, [26])], (nbEXT78 v), (nbEXM76 v)) [((nbEXT79 v), (nbEXM80 v))] := EvD.one 12 (by kernel_rfl) (by kernel_rfl) (EvE.call (args := [.a [.i 4, .u (.l 7 [[.n 3, .n 2, .n 10, .l 2 [[.n 1, .n 3], [.n 2, .n 1]], .n 2, .n 3, .n 5], [.n 4, .n 1, .n 7, .l 2 [[.n 3, .n 2]], .n 0, .n 0, .n 3]]), .i 2, .u (.l 4 [[.n 1, .n 1, .n 1, .n 1000], [.n 1, .n 1, .n 0, .n 0]]), .i 3, .i 200, .i 1, .i 500], .r 14 0, .r 16 0, .r 18 0, .r 20 0, .u (.l 19 [[.n 1, .n 1, .n 2, .n 0, .n 2, .n 0, .n 1, .n 2, .n 100, .n 50, .n 10, .n 20, .n 3, .l 2 [[.n 1, .n 5]], .l 2 [], .n 1, .n 10, .n 0, .n 0]])]) (a := []) (cc := []) 12 _ (by kernel_rfl) (by kernel_rfl) (by kernel_rfl) (by kernel_rfl) (by kernel_rfl) (by kernel_rfl) (by decide) (by kernel_rfl) (by kernel_rfl) (by kernel_rfl) (by kernel_rfl) (nbE0k21_run v) (nbEXn113 v H))
theorem nbEXn115 (v : NbV) (H : NbH v true true v.e false false) : nbEXevD (cOp nbEXC40) (6, [11, 10, 9, 8, 7, 6, 5, 4, 3, 2, 1, 0], [(10, [21]), (8, [21]), (6, [21]), (4, [21]), (2, [21]), (0, [26])], (cPut (opAt (cOp nbEXC40) 11).dst).p (nbEXT77 v) (renV (fK [11, 12, 13, 14, 16, 18, 20, 22, 23, 24, 25, 19] ((nbEXM76 v)).length) (.u (.l 19 [[.n 1, .n 1, .n 2, .n 0, .n 2, .n 0, .n 1, .n 2, .n 100, .n 50, .n 10, .n 20, .n 3, .l 2 [[.n 1, .n 5]], .l 2 [], .n 1, .n 10, .n 0, .n 0]]))), backM (nbEXM76 v) [11, 12, 13, 14, 16, 18, 20, 22, 23, 24, 25, 19] ((nbE0k20Mm v))) [((nbEXT79 v), (nbEXM80 v))] := EvD.steps (j := 0) (by kernel_rfl) (nbEXn114 v H)
theorem nbEXn116 (v : NbV) (H : NbH v true true v.e false false) : nbEXevD (cOp nbEXC40) (7, [10, 9, 8, 7, 6, 5, 4, 3, 2, 1, 0], [(10, [21]), (8, [21]), (6, [21]), (4, [21]), (2, [21]), (0, [26])], (nbEXT77 v), (nbEXM76 v)) [((nbEXT79 v), (nbEXM80 v))] := EvD.one 11 (by kernel_rfl) (by kernel_rfl) (EvE.call (args := [.r 11 0]) (a := []) (cc := []) 11 _ (by kernel_rfl) (by kernel_rfl) (by kernel_rfl) (by kernel_rfl) (by kernel_rfl) (by kernel_rfl) (by decide) (by kernel_rfl) (by kernel_rfl) (by kernel_rfl) (by kernel_rfl) (nbE0k20_run v) (nbEXn115 v H))
theorem nbEXn117 (v : NbV) (H : NbH v true true v.e false false) : nbEXevD (cOp nbEXC40) ((cOp nbEXC40).length, [], [], (nbEXT75 v), (nbEXM76 v)) [((nbEXT79 v), (nbEXM80 v))] := EvD.steps (j := 11) (by kernel_rfl) (nbEXn116 v H)
def nbEXT81 (v : NbV) : Fr := puF (nbEXT79 v) []
theorem nbEXn118 (v : NbV) (H : NbH v true true v.e false false) : nbEXev nbEXC40 (nbEXT75 v) (nbEXM76 v) [(.nrm, (nbEXT81 v), (nbEXM80 v))] := Ev.regD2 (outs := [((nbEXT79 v), (nbEXM80 v))]) (by kernel_rfl) (by kernel_rfl) (by kernel_rfl) (nbEXn117 v H) ⟨by kernel_rfl, trivial⟩
noncomputable abbrev nbEXC41 : Code := cR nbEXC39
noncomputable abbrev nbEXC42 : Code := cL nbEXC41
def nbEXT82 (v : NbV) : Fr := puF (nbEXT79 v) [(191, .a [.i 4, .u (.l 7 [[.n 3, .n 2, .n 10, .l 2 [[.n 1, .n 3], [.n 2, .n 1]], .n 2, .n 3, .n 5], [.n 4, .n 1, .n 7, .l 2 [[.n 3, .n 2]], .n 0, .n 0, .n 3]]), .i 2, .u (.l 4 [[.n 1, .n 1, .n 1, .n 1000], [.n 1, .n 1, .n 0, .n 0]]), .i 3, .i 200, .i 1, .i 500]), (192, .r 21 1), (193, .r 14 0), (194, .r 21 2), (195, .r 16 0), (196, .r 21 3), (197, .r 18 0), (198, .r 21 4), (199, .r 20 0)]
def nbEXT83 (v : NbV) : Fr := puF (nbEXT82 v) [(200, .a [.i 0, .i 1, .i 2, .i 0, .i 2, .i 0, .i 1, .i 2, .i 100, .i 50, .i 10, .i 20, .i 0, .u (.l 2 [[.n 1, .n 5]]), .nl 2, .i 0, .i 0, .i 0, .i 0]), (201, .w 29)]
def nbEXM84 (v : NbV) : Mem := paM (nbEXM80 v) [] [.w 33 19 [[.n 0, .n 1, .n 2, .n 0, .n 2, .n 0, .n 1, .n 2, .n 100, .n 50, .n 10, .n 20, .n 0, .l 2 [[.n 1, .n 5]], .l 2 [], .n 0, .n 0, .n 0, .n 0]]]
def nbEXT85 (v : NbV) : Fr := puF (nbEXT82 v) [(23, .u (.p none)), (24, .i 1), (190, .t [.u (.p none), .i 1]), (200, .a [.i 0, .i 1, .i 2, .i 0, .i 2, .i 0, .i 1, .i 2, .i 100, .i 50, .i 10, .i 20, .i 0, .u (.l 2 [[.n 1, .n 5]]), .nl 2, .i 0, .i 0, .i 0, .i 0]), (201, .w 29), (202, .t [.u (.p none), .i 1]), (203, .u (.p none)), (204, .i 1)]
theorem nbEXn119 (v : NbV) (H : NbH v true true v.e false false) : nbEXevD (cOp nbEXC42) (0, [16, 15, 14, 13, 12, 11, 10, 9, 8, 7, 6, 5, 4, 3, 2, 1, 0], [(8, [21]), (6, [21]), (4, [21]), (2, [21]), (0, [26])], (nbEXT85 v), (nbEXM84 v)) [((nbEXT85 v), (nbEXM84 v))] := EvD.code (by kernel_rfl)
theorem nbEXn120 (v : NbV) (H : NbH v true true v.e false false) : nbEXevD (cOp nbEXC42) (5, [11, 10, 9, 8, 7, 6, 5, 4, 3, 2, 1, 0], [(8, [21]), (6, [21]), (4, [21]), (2, [21]), (0, [26])], (cPut (opAt (cOp nbEXC42) 11).dst).p (nbEXT83 v) (renV (fK [14, 16, 18, 20, 29, 23, 24, 25, 19] ((nbEXM84 v)).length) (.t [.u (.p none), .i 1])), backM (nbEXM84 v) [14, 16, 18, 20, 29, 23, 24, 25, 19] ((nbE0k22Mm v))) [((nbEXT85 v), (nbEXM84 v))] := EvD.steps (j := 5) (by kernel_rfl) (nbEXn119 v H)
theorem nbEXn121 (v : NbV) (H : NbH v true true v.e false false) : nbEXevD (cOp nbEXC42) (6, [10, 9, 8, 7, 6, 5, 4, 3, 2, 1, 0], [(8, [21]), (6, [21]), (4, [21]), (2, [21]), (0, [26])], (nbEXT83 v), (nbEXM84 v)) [((nbEXT85 v), (nbEXM84 v))] := EvD.one 11 (by kernel_rfl) (by kernel_rfl) (EvE.call (args := [.a [.i 4, .u (.l 7 [[.n 3, .n 2, .n 10, .l 2 [[.n 1, .n 3], [.n 2, .n 1]], .n 2, .n 3, .n 5], [.n 4, .n 1, .n 7, .l 2 [[.n 3, .n 2]], .n 0, .n 0, .n 3]]), .i 2, .u (.l 4 [[.n 1, .n 1, .n 1, .n 1000], [.n 1, .n 1, .n 0, .n 0]]), .i 3, .i 200, .i 1, .i 500], .r 14 0, .r 16 0, .r 18 0, .r 20 0, .w 29]) (a := []) (cc := []) 11 _ (by kernel_rfl) (by kernel_rfl) (by kernel_rfl) (by kernel_rfl) (by kernel_rfl) (by kernel_rfl) (by decide) (by kernel_rfl) (by kernel_rfl) (by kernel_rfl) (by kernel_rfl) (nbE0k22_run v) (nbEXn120 v H))
theorem nbEXn122 (v : NbV) (H : NbH v true true v.e false false) : nbEXevD (cOp nbEXC42) (7, [9, 8, 7, 6, 5, 4, 3, 2, 1, 0], [(8, [21]), (6, [21]), (4, [21]), (2, [21]), (0, [26])], (cPut (opAt (cOp nbEXC42) 9).dst).p (nbEXT82 v) (renV (fK [] ((nbEXM80 v)).length) (.a [.i 0, .i 1, .i 2, .i 0, .i 2, .i 0, .i 1, .i 2, .i 100, .i 50, .i 10, .i 20, .i 0, .u (.l 2 [[.n 1, .n 5]]), .nl 2, .i 0, .i 0, .i 0, .i 0])), backM (nbEXM80 v) [] ((nbE0k17Mm v))) [((nbEXT85 v), (nbEXM84 v))] := EvD.steps (j := 1) (by kernel_rfl) (nbEXn121 v H)
theorem nbEXn123 (v : NbV) (H : NbH v true true v.e false false) : nbEXevD (cOp nbEXC42) (8, [8, 7, 6, 5, 4, 3, 2, 1, 0], [(8, [21]), (6, [21]), (4, [21]), (2, [21]), (0, [26])], (nbEXT82 v), (nbEXM80 v)) [((nbEXT85 v), (nbEXM84 v))] := EvD.one 9 (by kernel_rfl) (by kernel_rfl) (EvE.call (args := []) (a := []) (cc := []) 9 _ (by kernel_rfl) (by kernel_rfl) (by kernel_rfl) (by kernel_rfl) (by kernel_rfl) (by kernel_rfl) (by decide) (by kernel_rfl) (by kernel_rfl) (by kernel_rfl) (by kernel_rfl) (nbE0k17_run v) (nbEXn122 v H))
theorem nbEXn124 (v : NbV) (H : NbH v true true v.e false false) : nbEXevD (cOp nbEXC42) ((cOp nbEXC42).length, [], [], (nbEXT81 v), (nbEXM80 v)) [((nbEXT85 v), (nbEXM84 v))] := EvD.steps (j := 9) (by kernel_rfl) (nbEXn123 v H)
def nbEXT86 (v : NbV) : Fr := puF (nbEXT82 v) [(23, .u (.p none)), (24, .i 1), (190, .t [.u (.p none), .i 1]), (200, .a [.i 0, .i 1, .i 2, .i 0, .i 2, .i 0, .i 1, .i 2, .i 100, .i 50, .i 10, .i 20, .i 0, .u (.l 2 [[.n 1, .n 5]]), .nl 2, .i 0, .i 0, .i 0, .i 0]), (201, .w 29), (202, .t [.u (.p none), .i 1]), (203, .u (.p none)), (204, .i 1)]
theorem nbEXn125 (v : NbV) (H : NbH v true true v.e false false) : nbEXev nbEXC42 (nbEXT81 v) (nbEXM80 v) [(.nrm, (nbEXT86 v), (nbEXM84 v))] := Ev.regD2 (outs := [((nbEXT85 v), (nbEXM84 v))]) (by kernel_rfl) (by kernel_rfl) (by kernel_rfl) (nbEXn124 v H) ⟨by kernel_rfl, trivial⟩
noncomputable abbrev nbEXC43 : Code := cR nbEXC41
noncomputable abbrev nbEXC44 : Code := cL nbEXC43
def nbEXT87 (v : NbV) : Fr := puF (nbEXT82 v) [(23, .u (.p none)), (24, .i 1), (190, .t [.u (.p none), .i 1]), (200, .a [.i 0, .i 1, .i 2, .i 0, .i 2, .i 0, .i 1, .i 2, .i 100, .i 50, .i 10, .i 20, .i 0, .u (.l 2 [[.n 1, .n 5]]), .nl 2, .i 0, .i 0, .i 0, .i 0]), (201, .w 29), (202, .t [.u (.p none), .i 1]), (203, .u (.p none)), (204, .i 1), (205, .i 0), (206, .u (.b true)), (207, .u (.b true)), (208, .r 27 0), (209, .u (.b true)), (210, .u (.b true)), (211, .u (.b true)), (212, .r 27 0), (214, .r 21 0), (215, .r 11 0)]
def nbEXT88 (v : NbV) : Fr := puF (nbEXT82 v) [(23, .u (.p none)), (24, .i 1), (190, .t [.u (.p none), .i 1]), (200, .a [.i 0, .i 1, .i 2, .i 0, .i 2, .i 0, .i 1, .i 2, .i 100, .i 50, .i 10, .i 20, .i 0, .u (.l 2 [[.n 1, .n 5]]), .nl 2, .i 0, .i 0, .i 0, .i 0]), (201, .w 29), (202, .t [.u (.p none), .i 1]), (203, .u (.p none)), (204, .i 1), (205, .i 0), (206, .u (.b true)), (207, .u (.b true)), (208, .r 27 0), (209, .u (.b true)), (210, .u (.b true)), (211, .u (.b true)), (212, .r 27 0), (213, .u (.l 19 [[.n 1, .n 1, .n 2, .n 0, .n 2, .n 0, .n 1, .n 2, .n 100, .n 50, .n 10, .n 20, .n 3, .l 2 [[.n 1, .n 5]], .l 2 [], .n 1, .n 10, .n 0, .n 0]])), (214, .r 21 0), (215, .r 11 0)]
def nbEXT89 (v : NbV) : Fr := puF (nbEXT82 v) [(23, .u (.p none)), (24, .i 1), (190, .t [.u (.p none), .i 1]), (200, .a [.i 0, .i 1, .i 2, .i 0, .i 2, .i 0, .i 1, .i 2, .i 100, .i 50, .i 10, .i 20, .i 0, .u (.l 2 [[.n 1, .n 5]]), .nl 2, .i 0, .i 0, .i 0, .i 0]), (201, .w 29), (202, .t [.u (.p none), .i 1]), (203, .u (.p none)), (204, .i 1), (205, .i 0), (206, .u (.b true)), (207, .u (.b true)), (208, .r 27 0), (209, .u (.b true)), (210, .u (.b true)), (211, .u (.b true)), (212, .r 27 0), (213, .u (.l 19 [[.n 1, .n 1, .n 2, .n 0, .n 2, .n 0, .n 1, .n 2, .n 100, .n 50, .n 10, .n 20, .n 3, .l 2 [[.n 1, .n 5]], .l 2 [], .n 1, .n 10, .n 0, .n 0]])), (214, .r 21 0), (215, .r 11 0), (216, .u (.l 19 [[.n 1, .n 1, .n 2, .n 0, .n 2, .n 0, .n 1, .n 2, .n 100, .n 50, .n 10, .n 20, .n 3, .l 2 [[.n 1, .n 5]], .l 2 [], .n 1, .n 10, .n 0, .n 0]]))]
def nbEXT90 (v : NbV) : Fr := puF (nbEXT82 v) [(23, .u (.p none)), (24, .i 1), (190, .t [.u (.p none), .i 1]), (200, .a [.i 0, .i 1, .i 2, .i 0, .i 2, .i 0, .i 1, .i 2, .i 100, .i 50, .i 10, .i 20, .i 0, .u (.l 2 [[.n 1, .n 5]]), .nl 2, .i 0, .i 0, .i 0, .i 0]), (201, .w 29), (202, .t [.u (.p none), .i 1]), (203, .u (.p none)), (204, .i 1), (205, .i 0), (206, .u (.b true)), (207, .u (.b true)), (208, .r 27 0), (209, .u (.b true)), (210, .u (.b true)), (211, .u (.b true)), (212, .r 27 0), (213, .u (.l 19 [[.n 1, .n 1, .n 2, .n 0, .n 2, .n 0, .n 1, .n 2, .n 100, .n 50, .n 10, .n 20, .n 3, .l 2 [[.n 1, .n 5]], .l 2 [], .n 1, .n 10, .n 0, .n 0]])), (214, .r 21 0), (215, .r 11 0), (216, .u (.l 19 [[.n 1, .n 1, .n 2, .n 0, .n 2, .n 0, .n 1, .n 2, .n 100, .n 50, .n 10, .n 20, .n 3, .l 2 [[.n 1, .n 5]], .l 2 [], .n 1, .n 10, .n 0, .n 0]])), (217, .u (.b true)), (218, .u (.b true)), (219, .u (.b true)), (220, .i 1), (221, .u (.b true)), (222, .u (.b true)), (223, .u (.b true))]
def nbEXT91 (v : NbV) : Fr := puF (nbEXT82 v) [(4, .u (.b true)), (23, .u (.p none)), (24, .i 1), (190, .t [.u (.p none), .i 1]), (200, .a [.i 0, .i 1, .i 2, .i 0, .i 2, .i 0, .i 1, .i 2, .i 100, .i 50, .i 10, .i 20, .i 0, .u (.l 2 [[.n 1, .n 5]]), .nl 2, .i 0, .i 0, .i 0, .i 0]), (201, .w 29), (202, .t [.u (.p none), .i 1]), (203, .u (.p none)), (204, .i 1), (205, .i 0), (206, .u (.b true)), (207, .u (.b true)), (208, .r 27 0), (209, .u (.b true)), (210, .u (.b true)), (211, .u (.b true)), (212, .r 27 0), (213, .u (.l 19 [[.n 1, .n 1, .n 2, .n 0, .n 2, .n 0, .n 1, .n 2, .n 100, .n 50, .n 10, .n 20, .n 3, .l 2 [[.n 1, .n 5]], .l 2 [], .n 1, .n 10, .n 0, .n 0]])), (214, .r 21 0), (215, .r 11 0), (216, .u (.l 19 [[.n 1, .n 1, .n 2, .n 0, .n 2, .n 0, .n 1, .n 2, .n 100, .n 50, .n 10, .n 20, .n 3, .l 2 [[.n 1, .n 5]], .l 2 [], .n 1, .n 10, .n 0, .n 0]])), (217, .u (.b true)), (218, .u (.b true)), (219, .u (.b true)), (220, .i 1), (221, .u (.b true)), (222, .u (.b true)), (223, .u (.b true)), (224, .u (.b true)), (225, .u (.b true))]
theorem nbEXn126 (v : NbV) (H : NbH v true true v.e false false) : nbEXevD (cOp nbEXC44) (0, [21, 20, 19, 18, 17, 16, 15, 14, 13, 12, 11, 8, 10, 9, 7, 6, 5, 4, 3, 2, 1, 0], [(10, [21])], (nbEXT91 v), (nbEXM84 v)) [((nbEXT91 v), (nbEXM84 v))] := EvD.code (by kernel_rfl)
theorem nbEXn127 (v : NbV) (H : NbH v true true v.e false false) : nbEXevD (cOp nbEXC44) (2, [19, 18, 17, 16, 15, 14, 13, 12, 11, 8, 10, 9, 7, 6, 5, 4, 3, 2, 1, 0], [(10, [21])], (cPut (opAt (cOp nbEXC44) 19).dst).p (nbEXT90 v) (renV (fK [] ((nbEXM84 v)).length) (.u (.b true))), backM (nbEXM84 v) [] ([])) [((nbEXT91 v), (nbEXM84 v))] := EvD.steps (j := 2) (by kernel_rfl) (nbEXn126 v H)
theorem nbEXn128 (v : NbV) (H : NbH v true true v.e false false) : nbEXevD (cOp nbEXC44) (3, [18, 17, 16, 15, 14, 13, 12, 11, 8, 10, 9, 7, 6, 5, 4, 3, 2, 1, 0], [(10, [21])], (nbEXT90 v), (nbEXM84 v)) [((nbEXT91 v), (nbEXM84 v))] := EvD.one 19 (by kernel_rfl) (by kernel_rfl) (EvE.call (args := []) (a := []) (cc := []) 19 _ (by kernel_rfl) (by kernel_rfl) (by kernel_rfl) (by kernel_rfl) (by kernel_rfl) (by kernel_rfl) (by decide) (by kernel_rfl) (by kernel_rfl) (by kernel_rfl) (by kernel_rfl) aw15_run (nbEXn127 v H))
theorem nbEXn129 (v : NbV) (H : NbH v true true v.e false false) : nbEXevD (cOp nbEXC44) (9, [12, 11, 8, 10, 9, 7, 6, 5, 4, 3, 2, 1, 0], [(10, [21])], (cPut (opAt (cOp nbEXC44) 12).dst).p (nbEXT89 v) (renV (fK [] ((nbEXM84 v)).length) (.u (.b true))), backM (nbEXM84 v) [] ((nbE0k24Mm v))) [((nbEXT91 v), (nbEXM84 v))] := EvD.steps (j := 6) (by kernel_rfl) (nbEXn128 v H)
theorem nbEXn130 (v : NbV) (H : NbH v true true v.e false false) : nbEXevD (cOp nbEXC44) (10, [11, 8, 10, 9, 7, 6, 5, 4, 3, 2, 1, 0], [(10, [21])], (nbEXT89 v), (nbEXM84 v)) [((nbEXT91 v), (nbEXM84 v))] := EvD.one 12 (by kernel_rfl) (by kernel_rfl) (EvE.call (args := [.u (.l 19 [[.n 1, .n 1, .n 2, .n 0, .n 2, .n 0, .n 1, .n 2, .n 100, .n 50, .n 10, .n 20, .n 3, .l 2 [[.n 1, .n 5]], .l 2 [], .n 1, .n 10, .n 0, .n 0]]), .u (.l 19 [[.n 1, .n 1, .n 2, .n 0, .n 2, .n 0, .n 1, .n 2, .n 100, .n 50, .n 10, .n 20, .n 3, .l 2 [[.n 1, .n 5]], .l 2 [], .n 1, .n 10, .n 0, .n 0]])]) (a := []) (cc := []) 12 _ (by kernel_rfl) (by kernel_rfl) (by kernel_rfl) (by kernel_rfl) (by kernel_rfl) (by kernel_rfl) (by decide) (by kernel_rfl) (by kernel_rfl) (by kernel_rfl) (by kernel_rfl) (nbE0k24_run v) (nbEXn129 v H))
theorem nbEXn131 (v : NbV) (H : NbH v true true v.e false false) : nbEXevD (cOp nbEXC44) (10, [11, 8, 10, 9, 7, 6, 5, 4, 3, 2, 1, 0], [(10, [21])], (cPut (opAt (cOp nbEXC44) 11).dst).p (nbEXT88 v) (renV (fK [11, 12, 13, 14, 16, 18, 20, 22, 23, 24, 25, 19] ((nbEXM84 v)).length) (.u (.l 19 [[.n 1, .n 1, .n 2, .n 0, .n 2, .n 0, .n 1, .n 2, .n 100, .n 50, .n 10, .n 20, .n 3, .l 2 [[.n 1, .n 5]], .l 2 [], .n 1, .n 10, .n 0, .n 0]]))), backM (nbEXM84 v) [11, 12, 13, 14, 16, 18, 20, 22, 23, 24, 25, 19] ((nbE0k20Mm v))) [((nbEXT91 v), (nbEXM84 v))] := EvD.steps (j := 0) (by kernel_rfl) (nbEXn130 v H)
theorem nbEXn132 (v : NbV) (H : NbH v true true v.e false false) : nbEXevD (cOp nbEXC44) (11, [8, 10, 9, 7, 6, 5, 4, 3, 2, 1, 0], [(10, [21])], (nbEXT88 v), (nbEXM84 v)) [((nbEXT91 v), (nbEXM84 v))] := EvD.one 11 (by kernel_rfl) (by kernel_rfl) (EvE.call (args := [.r 11 0]) (a := []) (cc := []) 11 _ (by kernel_rfl) (by kernel_rfl) (by kernel_rfl) (by kernel_rfl) (by kernel_rfl) (by kernel_rfl) (by decide) (by kernel_rfl) (by kernel_rfl) (by kernel_rfl) (by kernel_rfl) (nbE0k20_run v) (nbEXn131 v H))
theorem nbEXn133 (v : NbV) (H : NbH v true true v.e false false) : nbEXevD (cOp nbEXC44) (11, [8, 10, 9, 7, 6, 5, 4, 3, 2, 1, 0], [(10, [21])], (cPut (opAt (cOp nbEXC44) 8).dst).p (nbEXT87 v) (renV (fK [27, 14, 16, 18, 20, 28, 23, 24, 25, 19] ((nbEXM84 v)).length) (.u (.l 19 [[.n 1, .n 1, .n 2, .n 0, .n 2, .n 0, .n 1, .n 2, .n 100, .n 50, .n 10, .n 20, .n 3, .l 2 [[.n 1, .n 5]], .l 2 [], .n 1, .n 10, .n 0, .n 0]]))), backM (nbEXM84 v) [27, 14, 16, 18, 20, 28, 23, 24, 25, 19] ((nbE0k23Mm v))) [((nbEXT91 v), (nbEXM84 v))] := EvD.steps (j := 0) (by kernel_rfl) (nbEXn132 v H)
theorem nbEXn134 (v : NbV) (H : NbH v true true v.e false false) : nbEXevD (cOp nbEXC44) (12, [10, 9, 7, 6, 5, 4, 3, 2, 1, 0], [(10, [21])], (nbEXT87 v), (nbEXM84 v)) [((nbEXT91 v), (nbEXM84 v))] := EvD.one 8 (by kernel_rfl) (by kernel_rfl) (EvE.call (args := [.r 27 0]) (a := []) (cc := []) 8 _ (by kernel_rfl) (by kernel_rfl) (by kernel_rfl) (by kernel_rfl) (by kernel_rfl) (by kernel_rfl) (by decide) (by kernel_rfl) (by kernel_rfl) (by kernel_rfl) (by kernel_rfl) (nbE0k23_run v) (nbEXn133 v H))
theorem nbEXn135 (v : NbV) (H : NbH v true true v.e false false) : nbEXevD (cOp nbEXC44) ((cOp nbEXC44).length, [], [], (nbEXT86 v), (nbEXM84 v)) [((nbEXT91 v), (nbEXM84 v))] := EvD.steps (j := 10) (by kernel_rfl) (nbEXn134 v H)
def nbEXT92 (v : NbV) : Fr := puF (nbEXT82 v) [(4, .u (.b true)), (23, .u (.p none)), (24, .i 1), (190, .t [.u (.p none), .i 1]), (200, .a [.i 0, .i 1, .i 2, .i 0, .i 2, .i 0, .i 1, .i 2, .i 100, .i 50, .i 10, .i 20, .i 0, .u (.l 2 [[.n 1, .n 5]]), .nl 2, .i 0, .i 0, .i 0, .i 0]), (201, .w 29), (202, .t [.u (.p none), .i 1]), (203, .u (.p none)), (204, .i 1), (205, .i 0), (206, .u (.b true)), (207, .u (.b true)), (208, .r 27 0), (209, .u (.b true)), (210, .u (.b true)), (211, .u (.b true)), (212, .r 27 0), (213, .u (.l 19 [[.n 1, .n 1, .n 2, .n 0, .n 2, .n 0, .n 1, .n 2, .n 100, .n 50, .n 10, .n 20, .n 3, .l 2 [[.n 1, .n 5]], .l 2 [], .n 1, .n 10, .n 0, .n 0]])), (214, .r 21 0), (215, .r 11 0), (216, .u (.l 19 [[.n 1, .n 1, .n 2, .n 0, .n 2, .n 0, .n 1, .n 2, .n 100, .n 50, .n 10, .n 20, .n 3, .l 2 [[.n 1, .n 5]], .l 2 [], .n 1, .n 10, .n 0, .n 0]])), (217, .u (.b true)), (218, .u (.b true)), (219, .u (.b true)), (220, .i 1), (221, .u (.b true)), (222, .u (.b true)), (223, .u (.b true)), (224, .u (.b true)), (225, .u (.b true))]
theorem nbEXn136 (v : NbV) (H : NbH v true true v.e false false) : nbEXev nbEXC44 (nbEXT86 v) (nbEXM84 v) [(.nrm, (nbEXT92 v), (nbEXM84 v))] := Ev.regD2 (outs := [((nbEXT91 v), (nbEXM84 v))]) (by kernel_rfl) (by kernel_rfl) (by kernel_rfl) (nbEXn135 v H) ⟨by kernel_rfl, trivial⟩
noncomputable abbrev nbEXC45 : Code := cR nbEXC43
def nbEXT93 (v : NbV) : Fr := puF (nbEXT82 v) [(4, .u (.b true)), (23, .u (.p none)), (24, .i 1), (190, .t [.u (.p none), .i 1]), (200, .a [.i 0, .i 1, .i 2, .i 0, .i 2, .i 0, .i 1, .i 2, .i 100, .i 50, .i 10, .i 20, .i 0, .u (.l 2 [[.n 1, .n 5]]), .nl 2, .i 0, .i 0, .i 0, .i 0]), (201, .w 29), (202, .t [.u (.p none), .i 1]), (203, .u (.p none)), (204, .i 1), (205, .i 0), (206, .u (.b true)), (207, .u (.b true)), (208, .r 27 0), (209, .u (.b true)), (210, .u (.b true)), (211, .u (.b true)), (212, .r 27 0), (213, .u (.l 19 [[.n 1, .n 1, .n 2, .n 0, .n 2, .n 0, .n 1, .n 2, .n 100, .n 50, .n 10, .n 20, .n 3, .l 2 [[.n 1, .n 5]], .l 2 [], .n 1, .n 10, .n 0, .n 0]])), (214, .r 21 0), (215, .r 11 0), (216, .u (.l 19 [[.n 1, .n 1, .n 2, .n 0, .n 2, .n 0, .n 1, .n 2, .n 100, .n 50, .n 10, .n 20, .n 3, .l 2 [[.n 1, .n 5]], .l 2 [], .n 1, .n 10, .n 0, .n 0]])), (217, .u (.b true)), (218, .u (.b true)), (219, .u (.b true)), (220, .i 1), (221, .u (.b true)), (222, .u (.b true)), (223, .u (.b true)), (224, .u (.b true)), (225, .u (.b true))]
theorem nbEXn137 (v : NbV) (H : NbH v true true v.e false false) : nbEXev nbEXC45 (nbEXT92 v) (nbEXM84 v) [(.ret, (nbEXT93 v), (nbEXM84 v))] := Ev.code (by kernel_rfl)
theorem nbEXn138 (v : NbV) (H : NbH v true true v.e false false) : nbEXev nbEXC43 (nbEXT86 v) (nbEXM84 v) [(.ret, (nbEXT93 v), (nbEXM84 v))] := Ev.seqP (by kernel_rfl) (nbEXn136 v H) (nbEXn137 v H)
theorem nbEXn139 (v : NbV) (H : NbH v true true v.e false false) : nbEXev nbEXC41 (nbEXT81 v) (nbEXM80 v) [(.ret, (nbEXT93 v), (nbEXM84 v))] := Ev.seqP (by kernel_rfl) (nbEXn125 v H) (nbEXn138 v H)
theorem nbEXn140 (v : NbV) (H : NbH v true true v.e false false) : nbEXev nbEXC39 (nbEXT75 v) (nbEXM76 v) [(.ret, (nbEXT93 v), (nbEXM84 v))] := Ev.seqP (by kernel_rfl) (nbEXn118 v H) (nbEXn139 v H)
theorem nbEXn141 (v : NbV) (H : NbH v true true v.e false false) : nbEXev nbEXC37 (nbEXT73 v) (nbEXM72 v) [(.ret, (nbEXT93 v), (nbEXM84 v))] := Ev.seqP (by kernel_rfl) (nbEXn111 v H) (nbEXn140 v H)
theorem nbEXn142 (v : NbV) (H : NbH v true true v.e false false) : nbEXev nbEXC35 (nbEXT68 v) (nbEXM67 v) [(.ret, (nbEXT93 v), (nbEXM84 v))] := Ev.seqP (by kernel_rfl) (nbEXn108 v H) (nbEXn141 v H)
theorem nbEXn143 (v : NbV) (H : NbH v true true v.e false false) : nbEXev nbEXC34 (nbEXT66 v) (nbEXM67 v) [(.ret, (nbEXT93 v), (nbEXM84 v))] := Ev.pieces (k := 1) (t1 := (nbEXT68 v)) (m1 := (nbEXM67 v)) (by kernel_rfl) (nbEXn142 v H)
theorem nbEXn144 (v : NbV) (H : NbH v true true v.e false false) : nbEXev nbEXC32 (nbEXT64 v) (nbEXM31 v) [(.ret, (nbEXT93 v), (nbEXM84 v))] := Ev.seqP (by kernel_rfl) (nbEXn101 v H) (nbEXn143 v H)
theorem nbEXn145 (v : NbV) (H : NbH v true true v.e false false) : nbEXev nbEXC16 (nbEXT22 v) (nbEXM23 v) [(.ret, (nbEXT93 v), (nbEXM84 v))] := Ev.seqP (by kernel_rfl) (nbEXn98 v H) (nbEXn144 v H)
theorem nbEXn146 (v : NbV) (H : NbH v true true v.e false false) : nbEXev nbEXC15 (nbEXT21 v) (nbEXM12 v) [(.ret, (nbEXT93 v), (nbEXM84 v))] := Ev.pieces (k := 1) (t1 := (nbEXT22 v)) (m1 := (nbEXM23 v)) (by kernel_rfl) (nbEXn145 v H)
theorem nbEXn147 (v : NbV) (H : NbH v true true v.e false false) : nbEXev nbEXC11 (nbEXT13 v) (nbEXM12 v) [(.ret, (nbEXT93 v), (nbEXM84 v))] := Ev.seqP (by kernel_rfl) (nbEXn20 v H) (nbEXn146 v H)
theorem nbEXn148 (v : NbV) (H : NbH v true true v.e false false) : nbEXev nbEXC9 (nbEXT9 v) (nbEXM10 v) [(.ret, (nbEXT93 v), (nbEXM84 v))] := Ev.seqP (by kernel_rfl) (nbEXn13 v H) (nbEXn147 v H)
theorem nbEXn149 (v : NbV) (H : NbH v true true v.e false false) : nbEXev nbEXC7 (nbEXT7 v) (nbEXM5 v) [(.ret, (nbEXT93 v), (nbEXM84 v))] := Ev.seqP (by kernel_rfl) (nbEXn10 v H) (nbEXn148 v H)
theorem nbEXn150 (v : NbV) (H : NbH v true true v.e false false) : nbEXev nbEXC2 (nbEXT1 v) (nbEXM2 v) [(.ret, (nbEXT93 v), (nbEXM84 v))] := Ev.seqP (by kernel_rfl) (nbEXn7 v H) (nbEXn149 v H)
theorem nbEXn151 (v : NbV) (H : NbH v true true v.e false false) : nbEXev nbEXC1 (nbEXT0 v) (nbEXM0 v) [(.ret, (nbEXT93 v), (nbEXM84 v))] := Ev.pieces (k := 1) (t1 := (nbEXT1 v)) (m1 := (nbEXM2 v)) (by kernel_rfl) (nbEXn150 v H)
theorem nb_EX (v : NbV) (H : NbH v true true v.e false false) : PRun Tryz.prog 5 [] [.a [.i v.c1, .u (.l 7 v.c2), .i v.c3, .u (.l 4 v.c4), .i v.c5, .i v.c6, .i v.c7, .i v.c8], .a [.i v.a9, .i v.a10, .i v.a11, .i v.a12, .i v.a13, .i v.a14, .i v.a15, .i v.a16, .i v.a17, .i v.a18, .i v.a19, .i v.a20, .i v.a21, .i v.a22, .i v.a23, .i v.a24, .i v.a25, .u (.l 2 v.a26), .u (.l 2 v.a27), .i v.a28, .i v.a29, .i v.a30, .i v.a31]] fun x m => x = .u (.b true) ∧ m = [] :=
  Ev.runT (by kernel_rfl) Tryz.func5 (by kernel_rfl) (c := nbEXC1) (by kernel_rfl) (r := (.ret, (nbEXT93 v), (nbEXM84 v))) (nbEXn151 v H) (y := (.u (.b true), [])) (by kernel_rfl)
end
end Go.Proofs.YtalglagdgabafaaGreat

/- Products and parts: Scale; blueprints: may one be; what runs need, how many, how long: the code's and the reference's. -/
set_option linter.unusedVariables false
namespace Go.Proofs.YtalglagdgabafaaGreat
open Go Go.Proofs Go.Shelf
variable {Q : V → Mem → Prop}
structure Bl where
  makes : Int
  per : Int
  time : Int
  needs : List Stk
  copy : Int
  study : Int
  most : Int
def eB (b : Bl) : List U := [.n b.makes, .n b.per, .n b.time, .l 2 (b.needs.map eS), .n b.copy, .n b.study, .n b.most]
abbrev aB (b : Bl) : V := .a [.i b.makes, .i b.per, .i b.time, .l 2 (b.needs.map eS), .i b.copy, .i b.study, .i b.most]
structure Bl.Rg (b : Bl) : Prop where
  r : rng b.needs
  n : b.needs.length ≤ 1000
def boundsB (b : Bl) (types : Int) : List Bd := [(types, 0, 32), (b.makes, 1, types), (b.per, 1, 1048576), (b.time, 1, 1048576), (b.copy, 0, 1048576), (b.study, 0, 1048576), (b.most, 1, 1000)]
noncomputable def blueE (b : Bl) (types : Int) : Int := if inAll (boundsB b types) = true ∧ chkE b.needs types = 0 ∧ ¬ 0 < cntN b.needs b.makes then 0 else 1
structure BlueOK (b : Bl) (types : Int) : Prop where
  ty : 0 ≤ types ∧ types ≤ 32
  makes : 1 ≤ b.makes ∧ b.makes ≤ types
  per : 1 ≤ b.per ∧ b.per ≤ 1048576
  time : 1 ≤ b.time ∧ b.time ≤ 1048576
  copy : 0 ≤ b.copy ∧ b.copy ≤ 1048576
  study : 0 ≤ b.study ∧ b.study ≤ 1048576
  most : 1 ≤ b.most ∧ b.most ≤ 1000
  needs : CheckOK b.needs types
  self : ¬ 0 < cntN b.needs b.makes
theorem inAll_B {b : Bl} {types : Int} : inAll (boundsB b types) = true ↔ (0 ≤ types ∧ types ≤ 32) ∧ (1 ≤ b.makes ∧ b.makes ≤ types) ∧ (1 ≤ b.per ∧ b.per ≤ 1048576) ∧ (1 ≤ b.time ∧ b.time ≤ 1048576) ∧ (0 ≤ b.copy ∧ b.copy ≤ 1048576) ∧ (0 ≤ b.study ∧ b.study ≤ 1048576) ∧ 1 ≤ b.most ∧ b.most ≤ 1000 := by
  simp only [inAll, boundsB, List.all_cons, List.all_nil, Bool.and_true, Bool.and_eq_true, inn_iff]
theorem blueE_ok {b : Bl} {types : Int} : blueE b types = 0 ↔ BlueOK b types := by
  unfold blueE
  constructor
  · intro h
    split at h
    · rename_i hh
      obtain ⟨h1, h2, h3⟩ := hh
      obtain ⟨a1, a2, a3, a4, a5, a6, a7⟩ := inAll_B.1 h1
      exact ⟨a1, a2, a3, a4, a5, a6, a7, chkE_iff.1 h2, h3⟩
    · cases h
  · intro ⟨a1, a2, a3, a4, a5, a6, a7, h2, h3⟩
    rw [if_pos ⟨inAll_B.2 ⟨a1, a2, a3, a4, a5, a6, a7⟩, chkE_iff.2 h2, h3⟩]
theorem blueE_01 (b : Bl) (types : Int) : blueE b types = 0 ∨ blueE b types = 1 := by unfold blueE; split <;> simp
section
variable {b : Bl} {types : Int}
theorem pBlue_S (hb : b.Rg) (k : Q (.i (blueE b types)) []) : PRun Tryz.prog 166 [] [aB b, .i types] Q := by
  have bad : ¬ (inAll (boundsB b types) = true ∧ chkE b.needs types = 0 ∧ ¬ 0 < cntN b.needs b.makes) → Q (.i 1) [] := fun h => by unfold blueE at k; rwa [if_neg h] at k
  refine S166 (fits_S (L := boundsB b types) (by simp [boundsB]) ?_)
  rw [post_B]
  refine cNot (cB (fun h1 => pCheck_S (by have := hb.n; omega) ?_) fun h1 => bad (by simp [h1]))
  rw [post_I]
  refine cNe (fun h2 => bad (by simp [h2])) fun h2 => pCount_S hb.r hb.n ?_
  rw [post_I]
  refine cIf (fun h3 => bad fun h => h.2.2 h3) fun h3 => ?_
  unfold blueE at k; rwa [if_pos ⟨h1, h2, h3⟩] at k
theorem rBlue_S (hb : b.Rg) (k : Q (.i (blueE b types)) []) : PRun Tryz.prog 69 [] [aB b, .i types] Q := by
  have bad : ¬ BlueOK b types → Q (.i 1) [] := fun h => by rwa [(blueE_01 b types).resolve_left fun h0 => h (blueE_ok.1 h0)] at k
  refine S69 (in3_S ?_)
  rw [post_B]
  refine cNot (cB (fun a1 => in3_S ?_) fun h => bad fun o => by simp [inn, o.ty] at h)
  rw [post_B]
  refine cNot (cB (fun a2 => in3_S ?_) fun h => bad fun o => by simp [inn, o.makes] at h)
  rw [post_B]
  refine cNot (cB (fun a3 => in3_S ?_) fun h => bad fun o => by simp [inn, o.per] at h)
  rw [post_B]
  refine cNot (cB (fun a4 => in3_S ?_) fun h => bad fun o => by simp [inn, o.time] at h)
  rw [post_B]
  refine cNot (cB (fun a5 => in3_S ?_) fun h => bad fun o => by simp [inn, o.copy] at h)
  rw [post_B]
  refine cNot (cB (fun a6 => in3_S ?_) fun h => bad fun o => by simp [inn, o.study] at h)
  rw [post_B]
  refine cNot (cB (fun a7 => rCheck_S hb.r hb.n ?_) fun h => bad fun o => by simp [inn, o.most] at h)
  rw [post_I]
  refine cNe (fun h2 => bad fun o => h2 (chkE_iff.2 o.needs)) fun h2 => rCount_S hb.r hb.n ?_
  rw [post_I]
  refine cIf (fun h3 => bad fun o => o.self h3) fun h3 => ?_
  rwa [blueE_ok.2 ⟨inn_iff.1 a1, inn_iff.1 a2, inn_iff.1 a3, inn_iff.1 a4, inn_iff.1 a5, inn_iff.1 a6, inn_iff.1 a7, chkE_iff.1 h2, h3⟩] at k
end
end Go.Proofs.YtalglagdgabafaaGreat

/- Nodes in order: the code's and the document's. -/
set_option linter.unusedVariables false
namespace Go.Proofs.YtalglagdgabafaaGreat
open Go Go.Proofs
variable {Q : V → Mem → Prop}
open Classical in
noncomputable def ordG (n : Int) (L : List Stk) : List Int := if h : ∃ out, Greedy L n out ∧ ∀ k, ¬ Nx1 L n out k then h.choose else []
theorem ordG_eq {n : Int} {L : List Stk} {out : List Int} (hG : Greedy L n out) (hN : ∀ k, ¬ Nx1 L n out k) : ordG n L = out := by
  have h : ∃ out, Greedy L n out ∧ ∀ k, ¬ Nx1 L n out k := ⟨out, hG, hN⟩
  unfold ordG
  rw [dif_pos h]
  obtain ⟨g2, n2⟩ := h.choose_spec
  exact g2.same hG (Nat.le_antisymm (hG.max hN g2) (g2.max n2 hG))
open Classical in
noncomputable def orderR (n : Int) (L : List Stk) : List Int × Int := if gOK n L then (if ((ordG n L).length : Int) < n then ([], 9) else (ordG n L, 0)) else ([], 1)
abbrev vIE (r : List Int × Int) : V := .t [.l 1 (r.1.map eI), .i r.2]
open Classical in
theorem rMay_S {n : Int} {L : List Stk} (hL : L.length ≤ 1000000) (k : Q (.u (.b (decide (gOK n L)))) []) : PRun Tryz.prog 162 [] [.i n, .l 2 (L.map eS)] Q := by
  have bad : ¬ gOK n L → Q (.u (.b false)) [] := fun h => by rwa [decide_eq_false h] at k
  refine S162 (cIf (fun h => bad fun g => by have := g.n0; omega) fun h1 => cIf (fun h => bad fun g => by have := g.n64; omega) fun h2 => cIf (fun h => bad fun g => by have := g.len; simp at h; omega) fun h3 => ?_)
  simp only [List.length_map] at h3
  refine ⟨AtI L fun t _ => ∀ p ∈ t, inn p.1 1 n = true ∧ inn p.2 1 n = true, SufM L, .zero (by omega) (by simp), ?_⟩
  rintro x ⟨t, _ | ⟨a, l⟩, s, ht⟩
  · rw [s.all] at ht
    rw [s.d0]
    rwa [decide_eq_true ⟨by omega, by omega, by omega, ht⟩] at k
  · have ha : a ∈ L := by rw [s.e]; simp
    have hb : ¬ (inn a.1 1 n = true ∧ inn a.2 1 n = true) → Q (.u (.b false)) [] := fun h => bad fun g => h (g.ok a ha)
    simp only [inn_iff] at hb
    simp only [s.d1, s.el, eS, ug0, ugs, dI_n, cond_true]
    refine cIf (fun h => hb (by omega)) fun h1 => cIf (fun h => hb (by omega)) fun h2 => cIf (fun h => hb (by omega)) fun h3 => cIf (fun h => hb (by omega)) fun h4 => s.step fun p hp => ?_
    rcases List.mem_append.1 hp with hp | hp
    · exact ht p hp
    · simp at hp; subst hp; exact ⟨inn_iff.2 (by omega), inn_iff.2 (by omega)⟩
theorem rIn_S {n : Int} {l : List Int} (hl : l.length ≤ 1000000) (k : Q (.u (.b (decide (n ∈ l)))) [.w 3 1 (l.map eI)]) : PRun Tryz.prog 163 [.w 3 1 (l.map eI)] [.w 0, .i n] Q := by
  refine S163w ⟨AtI l fun t _ => n ∉ t, SufM l, .zero (by omega) (by simp), ?_⟩
  rintro x ⟨t, _ | ⟨a, l'⟩, s, ht⟩
  · rw [s.all] at ht
    rw [s.d0]
    rwa [decide_eq_false ht] at k
  · have hlt := s.suf.lt
    rw [s.d1, cond_true]
    refine ⟨hlt.1, by rw [List.length_map]; exact hlt.2, ?_⟩
    simp only [s.el, eI, ug0, dI_n]
    refine cEq (fun h => ?_) fun h => s.step (by simp; exact ⟨ht, fun e => h e.symm⟩)
    rwa [decide_eq_true (show n ∈ l by rw [s.e, ← h]; simp)] at k
theorem rOrder_S {n : Int} {L : List Stk} (hL : L.length ≤ 1000000) (k : Q (vIE (orderR n L)) []) : PRun Tryz.prog 125 [] [.i n, .l 2 (L.map eS)] Q := by
  classical
  refine S125 (rMay_S hL ?_)
  rw [post_B]
  unfold orderR at k
  refine cNot (cIf (fun hg => ?_) fun hg => by rwa [if_neg hg] at k)
  rw [if_pos hg] at k
  obtain ⟨g0, g1, g2, g3⟩ := hg
  refine ⟨fun l => ∃ out : List Int, l = out.map eI ∧ Greedy L n out, fun l => 65 - l.length, ⟨[], rfl, .nil⟩, ?_⟩
  rintro _ ⟨out, rfl, hG⟩
  have hol := nodup_len hG.nodup hG.mem g0
  rw [List.length_map]
  refine cIf (fun hlt => ?_) fun hge => ?_
  rotate_left
  · have hN : ∀ k, ¬ Nx1 L n out k := fun k hk => by
      have h1 : Greedy L n out := hG
      have h2 : (out ++ [k]).Nodup := List.nodup_append.2 ⟨hG.nodup, by simp, fun a ha b hb e => by simp at hb; subst hb; subst e; exact hk.2.2.1 ha⟩
      have := nodup_len h2 (fun x hx => by
        rcases List.mem_append.1 hx with hx | hx
        · exact hG.mem x hx
        · simp at hx; subst hx; exact ⟨hk.1, hk.2.1⟩) g0
      simp at this
      omega
    rwa [ordG_eq hG hN, if_neg hge] at k
  refine ⟨fun y j => 0 ≤ j ∧ j ≤ n ∧ (∀ i, j < i → Nx1 L n out i → y ≠ 0 ∧ y ≤ i) ∧ (y = 0 ∨ Nx1 L n out y), fun _ j => j.toNat, ⟨g0, Int.le_refl _, fun i h1 h2 => by have := h2.2.1; omega, .inl rfl⟩, ?_⟩
  rintro y j ⟨hj0, hj1, hy1, hy2⟩
  refine cIf (fun hj => ?_) fun hj => ?_
  · refine rIn_S (by omega) ?_
    rw [post_Brow]
    refine ⟨rfl, ⟨fun b x => AtI L (fun t _ => b = decide (j ∉ out ∧ ∀ p ∈ t, p.1 = j → p.2 ∈ out)) x, fun _ => SufM L, .zero (by omega) (by simp), ?_⟩⟩
    rintro b x ⟨t, _ | ⟨a, l⟩, s, rfl⟩
    · rw [s.all, s.d0, w64 (x := j - 1) (by omega) (by omega)]
      have hme : (j - 1).toNat < j.toNat := by omega
      rw [cond_false]
      have hnx : (j ∉ out ∧ ∀ p ∈ L, p.1 = j → p.2 ∈ out) ↔ Nx1 L n out j := ⟨fun h => ⟨hj, hj1, h.1, h.2⟩, fun h => h.2.2⟩
      refine cIf (fun h => ?_) fun h => ?_
      · rw [hnx] at h
        refine ⟨⟨by omega, by omega, fun i h1 h2 => ?_, .inr h⟩, hme⟩
        omega
      · rw [hnx] at h
        refine ⟨⟨by omega, by omega, fun i h1 h2 => ?_, hy2⟩, hme⟩
        by_cases hij : i = j
        · subst hij; exact absurd h2 h
        · exact hy1 i (by omega) h2
    · simp only [s.d1, s.el, eS, ug0, ugs, dI_n, cond_true]
      refine cIf (fun hb => ?_) fun hb => ?_
      · refine cNe (fun h => s.step ?_) fun h => ?_
        · refine (decide_eq_true ⟨hb.1, fun p hp e => ?_⟩).symm
          rcases List.mem_append.1 hp with hp | hp
          · exact hb.2 p hp e
          · simp at hp; subst hp; exact absurd e h
        · refine rIn_S (by omega) ?_
          rw [post_Brow]
          refine ⟨rfl, s.step ?_⟩
          rw [decide_eq_decide]
          constructor
          · intro hm
            refine ⟨hb.1, fun p hp e => ?_⟩
            rcases List.mem_append.1 hp with hp | hp
            · exact hb.2 p hp e
            · simp at hp; subst hp; exact hm
          · intro hm
            exact hm.2 a (by simp) h
      · refine s.step ?_
        symm
        rw [decide_eq_false_iff_not]
        exact fun hm => hb ⟨hm.1, fun p hp => hm.2 p (by simp [hp])⟩
  · have hj : j = 0 := by omega
    subst hj
    refine cEq (fun h => ?_) fun h => ?_
    · subst h
      have hN : ∀ k, ¬ Nx1 L n out k := fun i hi => (hy1 i (by have := hi.1; omega) hi).1 rfl
      rwa [ordG_eq hG hN, if_pos hlt] at k
    · have hy := hy2.resolve_left h
      refine ⟨apOk_l (by simp; omega), ⟨out ++ [y], by simp [eI], .snoc hG hy fun i hi => (hy1 i (by have := hi.1; omega) hi).2⟩, by simp; omega⟩
end Go.Proofs.YtalglagdgabafaaGreat

/- How deep nodes stand: the code's and the document's. -/
set_option linter.unusedVariables false
namespace Go.Proofs.YtalglagdgabafaaGreat
open Go Go.Proofs
variable {Q : V → Mem → Prop}
def dstep (node : Int) (o : List Int) (x : Int) : List Int := o.set (node - 1).toNat (max (o.getD (node - 1).toNat 0) (o.getD (x - 1).toNat 0 + 1))
def dnode (L : List Stk) (o : List Int) (node : Int) : List Int := (needsOf L node.toNat).foldl (dstep node) o
noncomputable def deepL (n : Int) (L : List Stk) : List Int := (ordG n L).foldl (dnode L) (List.replicate n.toNat 0)
noncomputable def deepR (n : Int) (L : List Stk) : List Int × Int := if (orderR n L).2 = 0 then (deepL n L, 0) else ([], (orderR n L).2)
structure DB (n : Int) (m : Nat) (o : List Int) : Prop where
  len : (o.length : Int) = n
  b : ∀ y ∈ o, 0 ≤ y ∧ y ≤ m
theorem DB.getD {n : Int} {m : Nat} {o : List Int} (d : DB n m o) (k : Nat) : 0 ≤ o.getD k 0 ∧ o.getD k 0 ≤ m := by
  rw [List.getD_eq_getElem?_getD]
  cases h : o[k]? with
  | none => simp
  | some y => exact d.b y (List.mem_of_getElem? h)
theorem DB.step {n : Int} {m : Nat} {o : List Int} (d : DB n m o) (node x : Int) : DB n (m + 1) (dstep node o x) := by
  refine ⟨by unfold dstep; rw [List.length_set]; exact d.len, fun y hy => ?_⟩
  rcases List.mem_or_eq_of_mem_set hy with h | h
  · have := d.b y h; omega
  · have h1 := d.getD (node - 1).toNat
    have h2 := d.getD (x - 1).toNat
    omega
theorem DB.mono {n : Int} {m m' : Nat} {o : List Int} (d : DB n m o) (h : m ≤ m') : DB n m' o := ⟨d.len, fun y hy => by have := d.b y hy; omega⟩
theorem elI {o : List Int} {i y : Int} {K : Int → Prop} (h0 : 0 ≤ i) (h : o[i.toNat]? = some y) : elL (o.map eI) i (fun r => dI .i64 (ug r 0) K) = K y := by
  rw [elL_of (r := eI y) h0 (by rw [List.getElem?_map, h]; rfl)]; rfl
theorem set_eI {o : List Int} {k : Nat} {y : Int} : List.set (o.map eI) k [.n y] = (o.set k y).map eI := by rw [List.map_set]; rfl
theorem get_getD {o : List Int} {k : Nat} (h : k < o.length) : o[k]? = some (o.getD k 0) := by
  rw [List.getElem?_eq_getElem h, List.getD_eq_getElem?_getD, List.getElem?_eq_getElem h]; rfl
theorem step_c {n node x : Int} {m : Nat} {o : List Int} (d : DB n m o) (hm : m ≤ 1000000) (h1 : 1 ≤ node ∧ node ≤ n) (h2 : 1 ≤ x ∧ x ≤ n) (hn : n ≤ 64) {K : List (List U) → Prop} (k : K ((dstep node o x).map eI)) :
    0 ≤ IntKind.wrap .i64 (node - 1) ∧ IntKind.wrap .i64 (node - 1) < (List.length (o.map eI) : Int) ∧ (elL (o.map eI) (IntKind.wrap .i64 (node - 1)) (fun r3 => dI .i64 (ug r3 0) (fun x6 => 0 ≤ IntKind.wrap .i64 (x - 1) ∧ IntKind.wrap .i64 (x - 1) < (List.length (o.map eI) : Int) ∧ (elL (o.map eI) (IntKind.wrap .i64 (x - 1)) (fun r4 => dI .i64 (ug r4 0) (fun x7 => 0 ≤ IntKind.wrap .i64 (node - 1) ∧ IntKind.wrap .i64 (node - 1) < (List.length (o.map eI) : Int) ∧
      K (List.set (o.map eI) (Int.toNat (IntKind.wrap .i64 (node - 1))) [.n (if IntKind.wrap .i64 (x7 + 1) > x6 then IntKind.wrap .i64 (x7 + 1) else x6)]))))))) := by
  have hl := d.len
  rw [w64 (x := node - 1) (by omega) (by omega), w64 (x := x - 1) (by omega) (by omega), List.length_map]
  have e1 := get_getD (o := o) (k := (node - 1).toNat) (by omega)
  have e2 := get_getD (o := o) (k := (x - 1).toNat) (by omega)
  have b2 := d.getD (x - 1).toNat
  refine ⟨by omega, by omega, ?_⟩
  rw [elI (by omega) e1]
  refine ⟨by omega, by omega, ?_⟩
  rw [elI (by omega) e2]
  refine ⟨by omega, by omega, ?_⟩
  rw [w64 (x := o.getD (x - 1).toNat 0 + 1) (by omega) (by omega), set_eI]
  have : (if o.getD (x - 1).toNat 0 + 1 > o.getD (node - 1).toNat 0 then o.getD (x - 1).toNat 0 + 1 else o.getD (node - 1).toNat 0) = max (o.getD (node - 1).toNat 0) (o.getD (x - 1).toNat 0 + 1) := by split <;> omega
  rw [this]
  exact k
theorem rep_eI (n : Nat) : List.replicate n ([.n 0] : List U) = (List.replicate n (0 : Int)).map eI := by simp [eI]
theorem DB.zero {n : Int} (h : 0 ≤ n) : DB n 0 (List.replicate n.toNat 0) := ⟨by simp; omega, fun y hy => by have := List.eq_of_mem_replicate hy; omega⟩
theorem needs_mem {L : List Stk} {k : Nat} {x : Int} (h : x ∈ needsOf L k) : ∃ p ∈ L, p.1 = k ∧ p.2 = x := by
  obtain ⟨p, hp, e⟩ := List.mem_map.1 h
  obtain ⟨h1, h2⟩ := List.mem_filter.1 hp
  exact ⟨p, h1, by simpa using h2, e⟩
theorem pDeep_S {n : Int} {L : List Stk} (k : Q (vIE (deepR n L)) []) : PRun Tryz.prog 127 [] [.i n, .l 2 (L.map eS)] Q := by
  unfold deepR orderR at k
  refine S127 (ordered_S (fun hg => ?_) (fun hg out G N hl => ?_) fun hg out O G N hl => ?_)
  all_goals rw [post_PLI]
  · rw [if_neg hg] at k; exact cNe (fun _ => k) fun h => by cases h
  · rw [if_pos hg, ordG_eq G N, if_pos hl] at k; exact cNe (fun _ => k) fun h => by cases h
  rw [if_pos hg, ordG_eq G N, if_neg hl] at k
  refine cNe (fun h => absurd rfl h) fun _ => ⟨hg.n0, by have := hg.n64; omega, rfl, ?_⟩
  have k : Q (.t [.l 1 ((deepL n L).map eI), .i 0]) [] := k
  have hon := nodup_len G.nodup G.mem hg.n0
  have hn := hg.n64
  have hLl := hg.len
  refine ⟨fun x l => AtI out (fun t _ => ∃ o, l = o.map eI ∧ o = t.foldl (dnode L) (List.replicate n.toNat 0) ∧ DB n (256 * t.length) o) x, fun x _ => SufM out x, .zero (by omega) ⟨_, rep_eI _, rfl, .zero hg.n0⟩, ?_⟩
  rintro x _ ⟨t, _ | ⟨a, l⟩, s, o, rfl, ho, d⟩
  · have e : o = deepL n L := by rw [ho, s.all, deepL, ordG_eq G N]
    rw [s.d0, e]; exact k
  have ha := G.mem a (by rw [s.e]; simp)
  have htl := congrArg List.length s.e
  simp at htl
  simp only [s.d1, s.el, cond_true]
  simp only [eI, ug0, dI_n, oP_s]
  refine idxK_of a.toNat (by omega) (by omega) ?_
  rw [Nat.mul_one, web_needs (by omega), dL_l]
  have hnl := needsOf_len L a.toNat
  let Inv : Int → List (List U) → Prop := fun z l => AtI (needsOf L a.toNat) (fun t2 _ => ∃ o2, l = o2.map eI ∧ o2 = t2.foldl (dstep a) o ∧ DB n (256 * t.length + t2.length) o2) z
  refine ⟨Inv, fun z _ => SufM (needsOf L a.toNat) z, .zero (by omega) ⟨o, rfl, rfl, d⟩, ?_⟩
  rintro z _ ⟨t2, _ | ⟨b, l2⟩, s2, o2, rfl, ho2, d2⟩
  · rw [s2.d0]
    rw [s2.all] at ho2 d2
    refine s.step ⟨o2, rfl, ?_, d2.mono (by simp; omega)⟩
    rw [List.foldl_append, ← ho]; exact ho2
  have hb : 1 ≤ b ∧ b ≤ n := by
    obtain ⟨p, hp, -, rfl⟩ := needs_mem (show b ∈ needsOf L a.toNat by rw [s2.e]; simp)
    exact inn_iff.1 (hg.ok p hp).2
  have htl2 := congrArg List.length s2.e
  simp at htl2
  simp only [s2.d1, s2.el, cond_true, eI, ug0, dI_n]
  refine step_c d2 (by omega) ha hb hn (K := fun l => Inv (IntKind.wrap .i64 (z + 1)) l ∧ SufM (needsOf L a.toNat) (IntKind.wrap .i64 (z + 1)) < SufM (needsOf L a.toNat) z) (s2.step ⟨_, rfl, ?_, ?_⟩)
  · rw [List.foldl_append, ← ho2]; rfl
  · have := d2.step a b; simpa [Nat.add_assoc] using this
theorem needs_fold {n : Int} {L : List Stk} {a : Int} (t : List Stk) (ha : 0 ≤ a) (o : List Int) : (t.foldl (fun o p => if p.1 = a then dstep a o p.2 else o) o) = (needsOf t a.toNat).foldl (dstep a) o := by
  induction t generalizing o with
  | nil => rfl
  | cons p t ih =>
    rw [List.foldl_cons, ih]
    unfold needsOf
    by_cases h : p.1 = a
    · rw [if_pos h, List.filter_cons_of_pos (by simp; omega)]; rfl
    · rw [if_neg h, List.filter_cons_of_neg (by simp; omega)]
theorem rDeep_S {n : Int} {L : List Stk} (hL : L.length ≤ 1000000) (k : Q (vIE (deepR n L)) []) : PRun Tryz.prog 70 [] [.i n, .l 2 (L.map eS)] Q := by
  unfold deepR at k
  refine S70 (rOrder_S hL ?_)
  rw [post_LI]
  refine cNe (fun h => by rwa [if_neg h] at k) fun h => ?_
  rw [if_pos h] at k
  unfold orderR at h ⊢
  split at h
  rotate_left
  · cases h
  rename_i hg
  split at h
  · cases h
  rename_i hl
  rw [if_pos hg, if_neg hl]
  have hn := hg.n64
  have hLl := hg.len
  by_cases hex : ∃ out, Greedy L n out ∧ ∀ k, ¬ Nx1 L n out k
  rotate_left
  · have h0 : ordG n L = [] := by unfold ordG; rw [dif_neg hex]
    have : n = 0 := by have := hg.n0; rw [h0] at hl; simp at hl; omega
    exact absurd ⟨[], .nil, fun k hk => by have := hk.1; have := hk.2.1; omega⟩ hex
  obtain ⟨out, G, N⟩ := hex
  have eG := ordG_eq G N
  have hon := nodup_len G.nodup G.mem hg.n0
  refine ⟨hg.n0, by omega, rfl, ?_⟩
  show ∃ _, _
  simp only [eG]
  refine ⟨fun x l => AtI out (fun t _ => ∃ o, l = o.map eI ∧ o = t.foldl (dnode L) (List.replicate n.toNat 0) ∧ DB n (256 * t.length) o) x, fun x _ => SufM out x, .zero (by omega) ⟨_, rep_eI _, rfl, .zero hg.n0⟩, ?_⟩
  rintro x _ ⟨t, _ | ⟨a, l⟩, s, o, rfl, ho, d⟩
  · have e : o = deepL n L := by rw [ho, s.all, deepL, eG]
    rw [s.d0, e]; exact k
  have ha := G.mem a (by rw [s.e]; simp)
  have htl := congrArg List.length s.e
  simp at htl
  rw [s.d1, cond_true]
  let Inv : Int → List (List U) → Prop := fun z l => AtI L (fun t2 _ => ∃ o2, l = o2.map eI ∧ o2 = t2.foldl (fun o p => if p.1 = a then dstep a o p.2 else o) o ∧ DB n (256 * t.length + t2.length) o2) z
  refine ⟨Inv, fun z _ => SufM L z, .zero (by omega) ⟨o, rfl, rfl, d⟩, ?_⟩
  rintro z _ ⟨t2, _ | ⟨b, l2⟩, s2, o2, rfl, ho2, d2⟩
  · rw [s2.d0]
    rw [s2.all] at ho2 d2
    refine s.step ⟨o2, rfl, ?_, d2.mono (by simp; omega)⟩
    rw [List.foldl_append, ← ho, ho2, needs_fold (n := n) (L := L) L (by omega)]; rfl
  have hb := inn_iff.1 (hg.ok b (by rw [s2.e]; simp)).2
  have htl2 := congrArg List.length s2.e
  simp at htl2
  simp only [s2.d1, s2.el, s.el, cond_true, eI, eS, ug0, ugs, dI_n]
  refine cEq (fun h => ?_) fun h => s2.step ⟨o2, rfl, ?_, d2.mono (by rw [List.length_append]; omega)⟩
  · refine step_c d2 (by omega) ha hb hn (K := fun l => Inv (IntKind.wrap .i64 (z + 1)) l ∧ SufM L (IntKind.wrap .i64 (z + 1)) < SufM L z) (s2.step ⟨_, rfl, ?_, ?_⟩)
    · rw [List.foldl_append, ← ho2]; simp [h]
    · have := d2.step a b.2; simpa [Nat.add_assoc] using this
  · rw [List.foldl_append, ← ho2]; simp [h]
end Go.Proofs.YtalglagdgabafaaGreat

/- Catalogues: pairs of needs, makers, may one be: the code's and the document's. -/
set_option linter.unusedVariables false
namespace Go.Proofs.YtalglagdgabafaaGreat
open Go Go.Proofs
variable {Q : V → Mem → Prop}
structure Bay where
  place : Int
  make : Int
  lab : Int
  rate : Int
def eY (b : Bay) : List U := [.n b.place, .n b.make, .n b.lab, .n b.rate]
structure Cat where
  types : Int
  blues : List Bl
  places : Int
  bays : List Bay
  chars : Int
  broker : Int
  least : Int
  sales : Int
abbrev aC (c : Cat) : V := .a [.i c.types, .l 7 (c.blues.map eB), .i c.places, .l 4 (c.bays.map eY), .i c.chars, .i c.broker, .i c.least, .i c.sales]
structure Cat.Rg (c : Cat) : Prop where
  b : ∀ b ∈ c.blues, b.Rg
  nb : c.blues.length ≤ 500
  ny : c.bays.length ≤ 100000
def pairsL (l : List Bl) : List Stk := l.flatMap fun b => b.needs.map fun s => (b.makes, s.1)
theorem pairsL_snoc (t : List Bl) (b : Bl) : pairsL (t ++ [b]) = pairsL t ++ b.needs.map fun s => (b.makes, s.1) := by simp [pairsL]
theorem pairsL_len : ∀ (l : List Bl), (∀ b ∈ l, b.Rg) → (pairsL l).length ≤ 1000 * l.length
  | [], _ => by simp [pairsL]
  | b :: l, h => by
    have h1 := pairsL_len l fun x hx => h x (by simp [hx])
    have h2 := (h b (by simp)).n
    simp only [pairsL, List.flatMap_cons, List.length_append, List.length_map, List.length_cons] at h1 ⊢
    omega
section
variable {c : Cat}
theorem pPairs_S (hc : c.Rg) (k : Q (.l 2 ((pairsL c.blues).map eS)) []) : PRun Tryz.prog 128 [] [aC c] Q := by
  refine S128 ⟨fun l x => AtI c.blues (fun t _ => l = (pairsL t).map eS) x, fun _ => SufM c.blues, .zero (by have := hc.nb; omega) rfl, ?_⟩
  rintro _ x ⟨t, _ | ⟨b, l⟩, s, rfl⟩
  · rw [s.d0, s.all]; exact k
  have hb := hc.b b (by rw [s.e]; simp)
  have hbn := hb.n
  have hnb := hc.nb
  have htl := congrArg List.length s.e
  simp at htl
  have htp := pairsL_len t fun x hx => hc.b x (by rw [s.e]; simp [hx])
  simp only [s.d1, s.el, eB, ug0, ugs, dI_n, dL_l, cond_true]
  refine ⟨fun l x => AtI b.needs (fun t2 _ => l = (pairsL t ++ t2.map fun s => (b.makes, s.1)).map eS) x, fun _ => SufM b.needs, .zero (by omega) (by simp), ?_⟩
  rintro _ y ⟨t2, _ | ⟨a, l2⟩, s2, rfl⟩
  · rw [s2.d0, s2.all]; exact s.step (by rw [pairsL_snoc])
  have htl2 := congrArg List.length s2.e
  simp at htl2
  simp only [s2.d1, s2.el, eS, ug0, ugs, dI_n, cond_true]
  exact ⟨apOk_l (by simp; omega), s2.step (by simp [eS])⟩
theorem rPairs_S (hc : c.Rg) (k : Q (.l 2 ((pairsL c.blues).map eS)) []) : PRun Tryz.prog 71 [] [aC c] Q := by
  refine S71 ⟨fun l x => AtI c.blues (fun t _ => l = (pairsL t).map eS) x, fun _ => SufM c.blues, .zero (by have := hc.nb; omega) rfl, ?_⟩
  rintro _ x ⟨t, _ | ⟨b, l⟩, s, rfl⟩
  · rw [s.d0, s.all]; exact k
  have hb := hc.b b (by rw [s.e]; simp)
  have hbn := hb.n
  have hnb := hc.nb
  have htl := congrArg List.length s.e
  simp at htl
  have htp := pairsL_len t fun x hx => hc.b x (by rw [s.e]; simp [hx])
  rw [s.d1, cond_true]
  refine ⟨fun l x => AtI b.needs (fun t2 _ => l = (pairsL t ++ t2.map fun s => (b.makes, s.1)).map eS) x, fun _ => SufM b.needs, .zero (by omega) (by simp), ?_⟩
  rintro _ y ⟨t2, _ | ⟨a, l2⟩, s2, rfl⟩
  · simp only [s.el, eB, ug0, ugs, dL_l]
    rw [s2.d0, s2.all]; exact s.step (by rw [pairsL_snoc])
  have htl2 := congrArg List.length s2.e
  simp at htl2
  simp only [s.el, eB, ug0, ugs, dL_l, dI_n, s2.d1, s2.el, eS, cond_true]
  exact ⟨apOk_l (by simp; omega), s2.step (by simp [eS])⟩
def feeOK (c : Cat) : Bool := inn c.broker 0 10000 && (inn c.sales 0 10000 && inn c.least 0 1152921504606846976)
theorem pFee_S (k : Q (.i (if feeOK c = true then 0 else 1)) []) : PRun Tryz.prog 104 [] [.a [.i c.broker, .i c.least, .i c.sales]] Q := by
  unfold feeOK at k
  refine S104 (S150 (inn_c ?_))
  rw [post_B]
  refine cB (fun h1 => S150 (inn_c ?_)) fun h => by simpa [h] using k
  rw [post_B]
  refine cB (fun h2 => S105 (inn_c ?_)) fun h => by simpa [h] using k
  rw [post_B]
  exact cB (fun h3 => by simpa [h1, h2, h3] using k) fun h => by simpa [h] using k
theorem rFee_S (k : Q (.i (if feeOK c = true then 0 else 1)) []) : PRun Tryz.prog 68 [] [.a [.i c.broker, .i c.least, .i c.sales]] Q := by
  have bad : ¬ feeOK c = true → Q (.i 1) [] := fun h => by rwa [if_neg h] at k
  simp only [feeOK, Bool.and_eq_true, inn_iff] at bad k
  refine S68 (cIf (fun h => bad (by omega)) fun h1 => cIf (fun h => bad (by omega)) fun h2 => cIf (fun h => bad (by omega)) fun h3 => cIf (fun h => bad (by omega)) fun h4 => cIf (fun h => bad (by omega)) fun h5 => cIf (fun h => bad (by omega)) fun h6 => ?_)
  rwa [if_pos (by omega)] at k
end
end Go.Proofs.YtalglagdgabafaaGreat

/- May a catalogue be: the code's and the document's Check. -/
set_option linter.unusedVariables false
namespace Go.Proofs.YtalglagdgabafaaGreat
open Go Go.Proofs
variable {Q : V → Mem → Prop} {c : Cat}
def bayOK (c : Cat) (y : Bay) : Prop := inn y.place 1 c.places = true ∧ inn y.make 0 8 = true ∧ inn y.lab 0 8 = true ∧ inn y.rate 0 10000 = true
structure Cat.Sz (c : Cat) : Prop where
  types : inn c.types 1 32 = true
  places : inn c.places 1 8 = true
  chars : inn c.chars 1 16 = true
  nb : c.blues.length ≤ 16
  ny : c.bays.length ≤ 8
  bl : ∀ b ∈ c.blues, blueE b c.types = 0
  by' : ∀ y ∈ c.bays, bayOK c y
  fee : feeOK c = true
open Classical in
noncomputable def catE (c : Cat) : Int := if c.Sz then (if (deepR c.types (pairsL c.blues)).2 ≠ 0 then (deepR c.types (pairsL c.blues)).2 else if ∃ d ∈ deepL c.types (pairsL c.blues), 8 < d then 5 else 0) else 1
theorem deep_len {n : Int} {L : List Stk} (h : (deepR n L).2 = 0) : gOK n L ∧ ((deepL n L).length : Int) = n ∧ (deepR n L).1 = deepL n L := by
  have h1 : (orderR n L).2 = 0 := by
    unfold deepR at h
    by_cases h2 : (orderR n L).2 = 0
    · exact h2
    · rw [if_neg h2] at h; exact h
  unfold deepR orderR at h
  by_cases hg : gOK n L
  · refine ⟨hg, ?_, ?_⟩
    · unfold deepL
      have : ∀ (l : List Int) (o : List Int), (l.foldl (dnode L) o).length = o.length := by
        intro l
        induction l with
        | nil => intro o; rfl
        | cons a l ih =>
          intro o
          rw [List.foldl_cons, ih]
          unfold dnode
          generalize needsOf L a.toNat = xs
          induction xs generalizing o with
          | nil => rfl
          | cons x xs ih2 => rw [List.foldl_cons, ih2]; simp [dstep]
      rw [this]
      have := hg.n0
      simp; omega
    · unfold deepR
      rw [if_pos h1]
  · rw [if_neg hg] at h
    simp at h
theorem sizes_S (hc : c.Rg) (k : ∀ b : Bool, (b = true ↔ c.Sz) → Q (.u (.b b)) []) : PRun Tryz.prog 126 [] [aC c] Q := by
  refine S126 fun k1 hk1 => ?_
  have hnb := hc.nb
  have hny := hc.ny
  have H : ∀ b1 : Bool, (b1 = true ↔ inn c.types 1 32 = true ∧ inn c.places 1 8 = true ∧ inn c.chars 1 16 = true ∧ c.blues.length ≤ 16 ∧ c.bays.length ≤ 8) → k1 b1 := by
    intro b1 hb1
    refine hk1 b1 fun k2 hk2 => ?_
    have bad : ¬ c.Sz → k2 false := fun h => hk2 false (k false (by simp [h]))
    refine cB (fun h1 => ?_) fun h1 => bad fun z => by rw [hb1.2 ⟨z.types, z.places, z.chars, z.nb, z.ny⟩] at h1; cases h1
    obtain ⟨n1, n2, n3, n4, n5⟩ := hb1.1 h1
    refine ⟨AtI c.blues fun t _ => ∀ b ∈ t, blueE b c.types = 0, SufM c.blues, .zero (by omega) (by simp), ?_⟩
    rintro x ⟨t, _ | ⟨b, l⟩, s, ht⟩
    case cons =>
      have hm : b ∈ c.blues := by rw [s.e]; simp
      simp only [s.d1, s.el, eB, ug0, ugs, dI_n, dL_l, cond_true]
      refine pBlue_S (hc.b b hm) ?_
      rw [post_I, decide_eq_true (show x ≥ 0 from s.suf.lt.1), Bool.not_true, cond_false]
      refine cNe (fun h => bad fun z => h (z.bl b hm)) fun h => s.step fun u hu => ?_
      rcases List.mem_append.1 hu with hu | hu
      · exact ht u hu
      · simp at hu; subst hu; exact h
    rw [s.all] at ht
    rw [s.d0, cond_false]
    refine ⟨AtI c.bays fun t _ => ∀ y ∈ t, bayOK c y, SufM c.bays, .zero (by omega) (by simp), ?_⟩
    rintro x ⟨t2, _ | ⟨y, l⟩, s, ht2⟩
    case cons =>
      have hm : y ∈ c.bays := by rw [s.e]; simp
      simp only [s.d1, s.el, eY, ug0, ugs, dI_n, dL_l, cond_true, decide_eq_true (show x ≥ 0 from s.suf.lt.1), Bool.not_true, cond_false]
      refine in2_S ?_
      rw [post_B]
      refine cNot (cB (fun o1 => in2_S ?_) fun h => bad fun z => by rw [(z.by' y hm).1] at h; cases h)
      rw [post_B]
      refine cNot (cB (fun o2 => in2_S ?_) fun h => bad fun z => by rw [(z.by' y hm).2.1] at h; cases h)
      rw [post_B]
      refine cNot (cB (fun o3 => in2_S ?_) fun h => bad fun z => by rw [(z.by' y hm).2.2.1] at h; cases h)
      rw [post_B]
      refine cNot (cB (fun o4 => s.step fun u hu => ?_) fun h => bad fun z => by rw [(z.by' y hm).2.2.2] at h; cases h)
      rcases List.mem_append.1 hu with hu | hu
      · exact ht2 u hu
      · simp at hu; subst hu; exact ⟨o1, o2, o3, o4⟩
    rw [s.all] at ht2
    rw [s.d0, cond_false]
    refine pFee_S ?_
    rw [post_I]
    by_cases hf : feeOK c = true
    · rw [if_pos hf]; exact hk2 true (k true (by simp; exact ⟨n1, n2, n3, n4, n5, ht, ht2, hf⟩))
    · rw [if_neg hf]; exact bad fun z => hf z.fee
  refine in2_S ?_
  rw [post_B]
  refine cB (fun h1 => in2_S ?_) fun h => H false (by simp [h])
  rw [post_B]
  refine cB (fun h2 => in2_S ?_) fun h => H false (by simp [h])
  rw [post_B]
  refine cB (fun h3 => cIf (fun h4 => H _ ?_) fun h4 => H false ?_) fun h => H false (by simp [h])
  · simp only [List.length_map] at h4 ⊢
    simp [h1, h2, h3]; omega
  · simp only [List.length_map] at h4
    simp; omega
theorem max_S {l : List Int} (h0 : l ≠ []) (hl : l.length ≤ 1000000) (k : ∀ m ∈ l, (∀ y ∈ l, y ≤ m) → Q (.i m) []) : PRun Tryz.prog 129 [] [.l 1 (l.map eI)] Q := by
  rcases l with _ | ⟨a, l⟩
  · exact absurd rfl h0
  refine S129 (cIf (fun h => by simp at h; omega) fun _ => ?_)
  rw [elI (y := a) (by decide) rfl]
  refine ⟨fun m x => AtI (a :: l) (fun t _ => t ≠ [] ∧ m ∈ t ∧ ∀ y ∈ t, y ≤ m) x, fun _ => SufM (a :: l), ⟨[a], l, ⟨rfl, rfl, by simp at hl ⊢; omega⟩, by simp, by simp, by simp⟩, ?_⟩
  rintro m x ⟨t, _ | ⟨b, l2⟩, s, hne, hm, hle⟩
  · rw [s.d0]; rw [s.all] at hm hle
    exact k m hm hle
  · simp only [s.d1, s.el, eI, ug0, dI_n, cond_true]
    refine s.step ⟨by simp, ?_, fun y hy => ?_⟩
    · split <;> simp [hm]
    · rcases List.mem_append.1 hy with hy | hy
      · have := hle y hy; split <;> omega
      · simp at hy; subst hy; split <;> omega
theorem pCat_S (hc : c.Rg) (k : Q (.i (catE c)) []) : PRun Tryz.prog 73 [] [aC c] Q := by
  refine S73 (sizes_S hc fun b hb => ?_)
  rw [post_B]
  unfold catE at k
  refine cNot (cB (fun h => pPairs_S hc ?_) fun h => ?_)
  rotate_left
  · rwa [if_neg (fun z => by rw [hb.2 z] at h; cases h)] at k
  have z := hb.1 h
  rw [if_pos z] at k
  rw [post_L]
  refine pDeep_S ?_
  rw [post_LI]
  refine cNe (fun h => by rwa [if_pos h] at k) fun h => ?_
  rw [if_neg (by simpa using h)] at k
  obtain ⟨hg, hl, e⟩ := deep_len h
  have ht := inn_iff.1 z.types
  rw [e]
  refine max_S (fun h0 => by rw [h0] at hl; simp at hl; omega) (by omega) fun m hm hle => ?_
  rw [post_I]
  refine cIf (fun h => ?_) fun h => ?_
  · rwa [if_pos ⟨m, hm, h⟩] at k
  · rwa [if_neg (fun ⟨d, hd, h8⟩ => by have := hle d hd; omega)] at k
theorem rCat_S (hc : c.Rg) (k : Q (.i (catE c)) []) : PRun Tryz.prog 24 [] [aC c] Q := by
  have hnb := hc.nb
  have hny := hc.ny
  unfold catE at k
  have bad : ¬ c.Sz → Q (.i 1) [] := fun h => by rwa [if_neg h] at k
  refine S24 (in4_S ?_)
  rw [post_B]
  refine cNot (cB (fun n1 => in4_S ?_) fun h => bad fun z => by rw [z.types] at h; cases h)
  rw [post_B]
  refine cNot (cB (fun n2 => in4_S ?_) fun h => bad fun z => by rw [z.places] at h; cases h)
  rw [post_B]
  refine cNot (cB (fun n3 => ?_) fun h => bad fun z => by rw [z.chars] at h; cases h)
  simp only [List.length_map]
  refine cIf (fun h => bad fun z => by have := z.nb; omega) fun n4 => cIf (fun h => bad fun z => by have := z.ny; omega) fun n5 => rFee_S ?_
  rw [post_I]
  refine cNe (fun h => bad fun z => h (by rw [if_pos z.fee])) fun hf => ?_
  refine ⟨AtI c.blues fun t _ => ∀ b ∈ t, blueE b c.types = 0, SufM c.blues, .zero (by omega) (by simp), ?_⟩
  rintro x ⟨t, _ | ⟨b, l⟩, s, ht⟩
  case cons =>
    have hm : b ∈ c.blues := by rw [s.e]; simp
    rw [show (c.blues.length : Int) = ((c.blues.map eB).length : Int) by simp]
    simp only [s.d1, s.el, eB, ug0, ugs, dI_n, dL_l, cond_true]
    refine rBlue_S (hc.b b hm) ?_
    rw [post_I]
    refine cNe (fun h => bad fun z => h (z.bl b hm)) fun h => s.step fun u hu => ?_
    rcases List.mem_append.1 hu with hu | hu
    · exact ht u hu
    · simp at hu; subst hu; exact h
  rw [s.all] at ht
  rw [show (c.blues.length : Int) = ((c.blues.map eB).length : Int) by simp, s.d0, cond_false]
  refine ⟨AtI c.bays fun t _ => ∀ y ∈ t, bayOK c y, SufM c.bays, .zero (by omega) (by simp), ?_⟩
  rintro x ⟨t2, _ | ⟨y, l⟩, s, ht2⟩
  case cons =>
    have hm : y ∈ c.bays := by rw [s.e]; simp
    rw [show (c.bays.length : Int) = ((c.bays.map eY).length : Int) by simp]
    simp only [s.d1, s.el, eY, ug0, ugs, dI_n, dL_l, cond_true]
    refine in4_S ?_
    rw [post_B]
    refine cNot (cB (fun o1 => in4_S ?_) fun h => bad fun z => by rw [(z.by' y hm).1] at h; cases h)
    rw [post_B]
    refine cNot (cB (fun o2 => in4_S ?_) fun h => bad fun z => by rw [(z.by' y hm).2.1] at h; cases h)
    rw [post_B]
    refine cNot (cB (fun o3 => in4_S ?_) fun h => bad fun z => by rw [(z.by' y hm).2.2.1] at h; cases h)
    rw [post_B]
    refine cNot (cB (fun o4 => s.step fun u hu => ?_) fun h => bad fun z => by rw [(z.by' y hm).2.2.2] at h; cases h)
    rcases List.mem_append.1 hu with hu | hu
    · exact ht2 u hu
    · simp at hu; subst hu; exact ⟨o1, o2, o3, o4⟩
  rw [s.all] at ht2
  rw [show (c.bays.length : Int) = ((c.bays.map eY).length : Int) by simp, s.d0, cond_false]
  have z : c.Sz := ⟨n1, n2, n3, by omega, by omega, ht, ht2, by split at hf <;> first | assumption | cases hf⟩
  rw [if_pos z] at k
  refine rPairs_S hc ?_
  rw [post_L]
  refine rDeep_S (by have := pairsL_len c.blues hc.b; omega) ?_
  rw [post_LI]
  refine cNe (fun h => by rwa [if_pos h] at k) fun h => ?_
  rw [if_neg (by simpa using h)] at k
  obtain ⟨hg, hl, e⟩ := deep_len h
  have ht := inn_iff.1 z.types
  rw [e]
  refine ⟨AtI (deepL c.types (pairsL c.blues)) fun t _ => ∀ d ∈ t, ¬ 8 < d, SufM (deepL c.types (pairsL c.blues)), .zero (by omega) (by simp), ?_⟩
  rintro x ⟨t3, _ | ⟨d, l⟩, s, ht3⟩
  · rw [s.all] at ht3
    rw [s.d0]
    rwa [if_neg (fun ⟨d, hd, h8⟩ => ht3 d hd h8)] at k
  · simp only [s.d1, s.el, eI, ug0, dI_n, cond_true]
    refine cIf (fun h => ?_) fun h => s.step fun u hu => ?_
    · rwa [if_pos ⟨d, by rw [s.e]; simp, h⟩] at k
    · rcases List.mem_append.1 hu with hu | hu
      · exact ht3 u hu
      · simp at hu; subst hu; exact h
end Go.Proofs.YtalglagdgabafaaGreat

/- From the symbolic engine's runs to the rows. -/
set_option linter.unusedVariables false
namespace Go.Proofs.YtalglagdgabafaaGreat
open Go Go.Proofs Go.ChangeShapes Go.WideShapes Go.ChangeAt Go.RowKit
theorem Tryz.own : ownKnob Tryz.prog.godebug = none := by kernel_rfl
theorem Tryz.laidOut : laidOutB Tryz.prog = true := by kernel_rfl
theorem belowOf {W W' : World} (k : Keep W.heap W'.heap) (s : Same W W') : RowKit.Below W.heap.size W W' :=
  ⟨s.os, s.tape, s.output, k.size, fun b hb => k.blk b hb (by simp)⟩
theorem rp_agg {D : Fz} {cs : Array Value} {us : List U} (h : RdL D (Value.agg cs).cells.toList us) : Rp D [] (.agg cs) (.a (us.map .u)) := by
  obtain ⟨cs⟩ := cs
  exact .a (RpC.ofU h)
theorem SAt.all (h : Heap) : SAt (allD h) [] [] [] [] h := ⟨rfl, rfl, fun i L ab ch h => by simp at h, by simpa using St.all h⟩
end Go.Proofs.YtalglagdgabafaaGreat

/- The law MarketNobody: few parts; what is asked of a catalogue. -/
set_option linter.unusedVariables false
namespace Go.Proofs.YtalglagdgabafaaGreat
open Go Go.Proofs
variable {Q : V → Mem → Prop} {c : Cat}
structure Few (c : Cat) : Prop where
  nb : c.blues.length ≤ 20
  ny : c.bays.length ≤ 12
  n : ∀ b ∈ c.blues, b.needs.length ≤ 12
open Classical in
noncomputable def fewB (c : Cat) : Bool := decide (Few c)
open Classical in
theorem fewB_t (h : Few c) : fewB c = true := decide_eq_true h
open Classical in
theorem fewB_f (h : ¬ Few c) : fewB c = false := decide_eq_false h
theorem few2_S (k : Q (.u (.b (fewB c))) []) : PRun Tryz.prog 21 [] [aC c] Q := by
  have fin : (∀ (i : Nat) (b : Bl), (i : Int) < 20 → c.blues[i]? = some b → b.needs.length ≤ 12) → bif decide (((c.blues.map eB).length : Int) ≤ 20) then Q (.u (.b (decide (((c.bays.map eY).length : Int) ≤ 12)))) [] else Q (.u (.b false)) [] := fun h => by
    rw [List.length_map, List.length_map]
    refine cIf (fun h1 => ?_) fun h1 => ?_
    · by_cases h2 : (c.bays.length : Int) ≤ 12
      · rw [decide_eq_true h2]
        rwa [fewB_t ⟨by omega, by omega, fun b hb => by
          obtain ⟨i, hi, rfl⟩ := List.getElem_of_mem hb
          exact h i _ (by omega) (by simp)⟩] at k
      · rw [decide_eq_false h2]
        rwa [fewB_f fun hf => h2 (by have := hf.ny; omega)] at k
    · rwa [fewB_f fun hf => h1 (by have := hf.nb; omega)] at k
  refine S21 ⟨fun x => 0 ≤ x ∧ x ≤ 20 ∧ ∀ (i : Nat) (b : Bl), (i : Int) < x → c.blues[i]? = some b → b.needs.length ≤ 12, fun x => (20 - x).toNat, ⟨by omega, by omega, fun i b h => by omega⟩, ?_⟩
  rintro x ⟨h0, h20, hx⟩
  refine cIf (fun h1 => cIf (fun h2 => ?_) fun h2 => fin fun i b hi hb => hx i b (by omega) hb) fun h1 => fin fun i b hi hb => hx i b (by
    have := (List.getElem?_eq_some_iff.1 hb).1
    rw [List.length_map] at h1
    omega) hb
  rw [List.length_map] at h1
  have hlt : x.toNat < c.blues.length := by omega
  rw [elL_of (r := eB c.blues[x.toNat]) h0 (by simp [hlt])]
  simp only [eB, ug0, ugs, dL_l]
  refine cIf (fun h => ?_) fun h => ⟨⟨by rw [w64 (by omega) (by omega)]; omega, by rw [w64 (by omega) (by omega)]; omega, fun i b hi hb => ?_⟩, by rw [w64 (by omega) (by omega)]; omega⟩
  · rw [List.length_map] at h
    rwa [fewB_f fun hf => by have := hf.n _ (List.getElem_mem hlt); omega] at k
  rw [w64 (by omega) (by omega)] at hi
  by_cases he : (i : Int) < x
  · exact hx i b he hb
  · have : i = x.toNat := by omega
    subst this
    rw [List.getElem?_eq_getElem hlt] at hb
    cases hb
    rw [List.length_map] at h
    omega
def fewD (A B : List (List U)) : Bool := decide (A.length ≤ 12) && decide (B.length ≤ 12)
theorem few24_S {r : List U} {A B : List (List U)} (ha : ug r 17 = some (.l 2 A)) (hb : ug r 18 = some (.l 2 B)) (k : Q (.u (.b (fewD A B))) [.w 46 23 [r]]) : PRun Tryz.prog 16 [.w 46 23 [r]] [.w 0, .i 1] Q := by
  refine S16 ⟨fun x => x = 0 ∨ (x = 1 ∧ A.length ≤ 12 ∧ B.length ≤ 12), fun x => (2 - x).toNat, .inl rfl, ?_⟩
  rintro x (rfl | ⟨rfl, h1, h2⟩)
  · refine cIf (fun _ => cIf (fun _ => ?_) fun h => absurd (by omega) h) fun h => absurd (by simp) h
    have e : elL [r] 0 = fun K : List U → Prop => K r := rfl
    rw [e]
    dsimp only
    rw [ha, dL_l]
    refine ⟨by omega, by simp, cIf (fun h => ?_) fun h1 => ⟨by omega, by simp, ?_⟩⟩
    · have : fewD A B = false := by unfold fewD; rw [decide_eq_false (by omega)]; rfl
      rwa [this] at k
    rw [hb, dL_l]
    refine cIf (fun h => ?_) fun h2 => ⟨.inr ⟨by decide, by omega, by omega⟩, by decide⟩
    have : fewD A B = false := by unfold fewD; rw [decide_eq_false (show ¬ B.length ≤ 12 by omega)]; simp
    rwa [this] at k
  · have : fewD A B = true := by unfold fewD; rw [decide_eq_true h1, decide_eq_true h2]; rfl
    rw [this] at k
    refine cIf (fun h => absurd h (by simp)) fun _ => ?_
    exact k
theorem conv_S (r : List U) (h : ShU (.i .i64 (.i .i64 .nil)) r) : ∃ s : Stk, r = eS s ∧ ((-9223372036854775808 ≤ s.1 ∧ s.1 ≤ 9223372036854775807) ∧ (-9223372036854775808 ≤ s.2 ∧ s.2 ≤ 9223372036854775807)) := by
  obtain ⟨n, _, rfl, hw, m, _, rfl, hw2, rfl⟩ := h
  exact ⟨(n, m), rfl, in64_of hw, in64_of hw2⟩
abbrev dsB : Ds := .i .i64 (.i .i64 (.i .i64 (.l 2 (.i .i64 (.i .i64 .nil)) (.i .i64 (.i .i64 (.i .i64 .nil))))))
abbrev dsY : Ds := .i .i64 (.i .i64 (.i .i64 (.i .i64 .nil)))
abbrev dsC : Ds := .i .i64 (.l 7 dsB (.i .i64 (.l 4 dsY (.i .i64 (.i .i64 (.i .i64 (.i .i64 .nil)))))))
theorem conv_B (r : List U) (h : ShU dsB r) : ∃ b : Bl, r = eB b ∧ rng b.needs := by
  obtain ⟨a, _, rfl, -, b, _, rfl, -, c, _, rfl, -, rows, _, rfl, -, hs, d, _, rfl, -, e, _, rfl, -, f, _, rfl, -, rfl⟩ := h
  obtain ⟨l, rfl, hl⟩ := rows_of conv_S hs
  exact ⟨⟨a, b, c, l, d, e, f⟩, rfl, hl⟩
theorem conv_Y (r : List U) (h : ShU dsY r) : ∃ y : Bay, r = eY y ∧ True := by
  obtain ⟨a, _, rfl, -, b, _, rfl, -, c, _, rfl, -, d, _, rfl, -, rfl⟩ := h
  exact ⟨⟨a, b, c, d⟩, rfl, trivial⟩
theorem conv_C (us : List U) (h : ShU dsC us) : ∃ c : Cat, V.a (us.map .u) = aC c ∧ ∀ b ∈ c.blues, rng b.needs := by
  obtain ⟨a, _, rfl, -, rows, _, rfl, -, hs, b, _, rfl, -, rows2, _, rfl, -, hs2, d, _, rfl, -, e, _, rfl, -, f, _, rfl, -, g, _, rfl, -, rfl⟩ := h
  obtain ⟨l, rfl, hl⟩ := rows_of conv_B hs
  obtain ⟨m, rfl, -⟩ := rows_of conv_Y hs2
  exact ⟨⟨a, l, b, m, d, e, f, g⟩, rfl, hl⟩
theorem Few.rg {c : Cat} (f : Few c) (h : ∀ b ∈ c.blues, rng b.needs) : c.Rg :=
  ⟨fun b hb => ⟨h b hb, by have := f.n b hb; omega⟩, by have := f.nb; omega, by have := f.ny; omega⟩
end Go.Proofs.YtalglagdgabafaaGreat

/- The law MarketNobody: whatever catalogue and act it is given, it returns true. -/
set_option linter.unusedVariables false
namespace Go.Proofs.YtalglagdgabafaaGreat
open Go Go.Proofs
abbrev dsA24 : Ds := .i .i64 (.i .i64 (.i .i64 (.i .i64 (.i .i64 (.i .i64 (.i .i64 (.i .i64 (.i .i64 (.i .i64 (.i .i64 (.i .i64 (.i .i64 (.i .i64 (.i .i64 (.i .i64 (.i .i64 (.l 2 (.i .i64 (.i .i64 .nil)) (.l 2 (.i .i64 (.i .i64 .nil)) (.i .i64 (.i .i64 (.i .i64 (.i .i64 (.nil)))))))))))))))))))))))
theorem marketNobody_run {us0 us1 : List U} (sh0 : ShU dsC us0) (sh1 : ShU dsA24 us1) : PRun Tryz.prog 5 [] [.a (us0.map .u), .a (us1.map .u)] fun v _ => v = .u (.b true) := by
  obtain ⟨c, e0, hr⟩ := conv_C us0 sh0
  rw [e0]
  obtain ⟨a0, _, rfl, -, a1, _, rfl, -, a2, _, rfl, -, a3, _, rfl, -, a4, _, rfl, -, a5, _, rfl, -, a6, _, rfl, -, a7, _, rfl, -, a8, _, rfl, -, a9, _, rfl, -, a10, _, rfl, -, a11, _, rfl, -, a12, _, rfl, -, a13, _, rfl, -, a14, _, rfl, -, a15, _, rfl, -, a16, _, rfl, -, ag, _, rfl, -, -, aw, _, rfl, -, -, a17, _, rfl, -, a18, _, rfl, -, a19, _, rfl, -, a20, _, rfl, -, rfl⟩ := sh1
  have hF : PRun Tryz.prog 21 [] [aC c] fun x m => x = .u (.b (fewB c)) ∧ m = [] := few2_S ⟨rfl, rfl⟩
  have hG : PRun Tryz.prog 16 [.w 46 23 [[.n a0, .n a1, .n a2, .n a3, .n a4, .n a5, .n a6, .n a7, .n a8, .n a9, .n a10, .n a11, .n a12, .n a13, .n a14, .n a15, .n a16, .l 2 ag, .l 2 aw, .n a17, .n a18, .n a19, .n a20]]] [.w 0, .i 1] fun x m => x = .u (.b (fewD ag aw)) ∧ m = [.w 46 23 [[.n a0, .n a1, .n a2, .n a3, .n a4, .n a5, .n a6, .n a7, .n a8, .n a9, .n a10, .n a11, .n a12, .n a13, .n a14, .n a15, .n a16, .l 2 ag, .l 2 aw, .n a17, .n a18, .n a19, .n a20]]] := few24_S rfl rfl ⟨rfl, rfl⟩
  cases hb : fewB c with
  | false =>
    rw [hb] at hF
    exact (nb_F ⟨c.types, c.blues.map eB, c.places, c.bays.map eY, _, _, _, _, a0, a1, a2, a3, a4, a5, a6, a7, a8, a9, a10, a11, a12, a13, a14, a15, a16, ag, aw, a17, a18, a19, a20, 0⟩ ⟨hF, trivial, trivial, trivial, rfl⟩).mono fun x m h => h.1
  | true =>
    rw [hb] at hF
    cases hd : fewD ag aw with
    | false =>
      rw [hd] at hG
      exact (nb_G ⟨c.types, c.blues.map eB, c.places, c.bays.map eY, _, _, _, _, a0, a1, a2, a3, a4, a5, a6, a7, a8, a9, a10, a11, a12, a13, a14, a15, a16, ag, aw, a17, a18, a19, a20, 0⟩ ⟨hF, hG, trivial, trivial, rfl⟩).mono fun x m h => h.1
    | true =>
      rw [hd] at hG
      have hf : Few c := Classical.byContradiction fun h => by rw [fewB_f h] at hb; cases hb
      have hC : PRun Tryz.prog 73 [] [aC c] fun x m => x = .i (catE c) ∧ m = [] := pCat_S (hf.rg hr) ⟨rfl, rfl⟩
      have hK : PRun Tryz.prog 24 [] [aC c] fun x m => x = .i (catE c) ∧ m = [] := rCat_S (hf.rg hr) ⟨rfl, rfl⟩
      cases he : eqF (catE c) 0 with
      | false => exact (nb_EX ⟨c.types, c.blues.map eB, c.places, c.bays.map eY, _, _, _, _, a0, a1, a2, a3, a4, a5, a6, a7, a8, a9, a10, a11, a12, a13, a14, a15, a16, ag, aw, a17, a18, a19, a20, catE c⟩ ⟨hF, hG, hC, hK, he⟩).mono fun x m h => h.1
      | true =>
        rw [eqF_eq] at he
        have he := of_decide_eq_true he
        rw [he] at hC hK
        exact (nb_E0 ⟨c.types, c.blues.map eB, c.places, c.bays.map eY, _, _, _, _, a0, a1, a2, a3, a4, a5, a6, a7, a8, a9, a10, a11, a12, a13, a14, a15, a16, ag, aw, a17, a18, a19, a20, 0⟩ ⟨hF, hG, hC, hK, rfl⟩).mono fun x m h => h.1
end Go.Proofs.YtalglagdgabafaaGreat

/- The row of MarketNobody: whatever it is given it returns true, and what it was given reads as it did. -/
namespace Go.Proofs.YtalglagdgabafaaGreat
open Go Go.Proofs Go.ChangeShapes Go.WideShapes Go.ChangeAt Go.RowKit
set_option maxRecDepth 100000 in
theorem marketNobody_lifted (os : Os) (started : os.Started) (H : Type) (enc : TypeId × Value → H) :
    ReturnsInHanded {} Tryz.checked os 5 .any (Rows.marketNobodySpec.pre6 enc Tryz.prog Tryz.f5 Rows.marketNobodyRow.domain false) (Rows.marketNobodySpec.post enc Tryz.prog Tryz.f5 false true false false) := by
  refine returnsInHanded_of_change (C := Tryz.checked) Tryz.own started (by kernel_rfl) Tryz.func5
    (ChangeSpec.witness6 (enc := enc) (C := Tryz.checked) false ⟨#[], #[.agg #[.int .i64 0, .slice none 0 0, .int .i64 0, .slice none 0 0, .int .i64 0, .int .i64 0, .int .i64 0, .int .i64 0], .agg #[.int .i64 0, .int .i64 0, .int .i64 0, .int .i64 0, .int .i64 0, .int .i64 0, .int .i64 0, .int .i64 0, .int .i64 0, .int .i64 0, .int .i64 0, .int .i64 0, .int .i64 0, .int .i64 0, .int .i64 0, .int .i64 0, .int .i64 0, .slice none 0 0, .slice none 0 0, .int .i64 0, .int .i64 0, .int .i64 0, .int .i64 0]], []⟩ 8 (by kernel_rfl) (by kernel_rfl) (by kernel_rfl) (by kernel_rfl)) ?_
  intro W base args ds gs before hval0 hW hcnd _
  have hval : ∀ (j : Nat) t v, Tryz.f5.params[j]? = some t → args[j]? = some v → Value.okWide Tryz.prog W .any base t v := hval0
  have hW' := hW
  obtain ⟨p, q, hA0, hV, rfl, hfz, hnd⟩ := hW
  have hA : DataW.TrodAll enc Tryz.prog W 0 (fun _ => true) true Tryz.f5.params.toList args.toList ds p := hA0
  rw [Tryz.params5] at hA hval
  obtain ⟨v0, v1, d0, d1, p0, p1, rfl, rfl, rfl, h0, h1⟩ := trodAll_two hA
  obtain ⟨rfl, rfl⟩ := trodVars_none hV
  obtain ⟨us0, hr0, sh0⟩ := open_data (ds := (.i .i64 (.l 7 (.i .i64 (.i .i64 (.i .i64 (.l 2 (.i .i64 (.i .i64 .nil)) (.i .i64 (.i .i64 (.i .i64 .nil))))))) (.i .i64 (.l 4 (.i .i64 (.i .i64 (.i .i64 (.i .i64 .nil)))) (.i .i64 (.i .i64 (.i .i64 (.i .i64 .nil))))))))) (by kernel_rfl) h0
  obtain ⟨cs0, rfl⟩ : ∃ cs, v0 = .agg cs := by
    have hv := hval 0 65 v0 rfl rfl
    unfold Value.okWide at hv
    rw [Tryz.underlying65] at hv
    obtain ⟨cs, rfl, -⟩ := hv
    exact ⟨cs, rfl⟩
  obtain ⟨us1, hr1, sh1⟩ := open_data (ds := (.i .i64 (.i .i64 (.i .i64 (.i .i64 (.i .i64 (.i .i64 (.i .i64 (.i .i64 (.i .i64 (.i .i64 (.i .i64 (.i .i64 (.i .i64 (.i .i64 (.i .i64 (.i .i64 (.i .i64 (.l 2 (.i .i64 (.i .i64 .nil)) (.l 2 (.i .i64 (.i .i64 .nil)) (.i .i64 (.i .i64 (.i .i64 (.i .i64 .nil)))))))))))))))))))))))) (by kernel_rfl) h1
  obtain ⟨cs1, rfl⟩ : ∃ cs, v1 = .agg cs := by
    have hv := hval 1 46 v1 rfl rfl
    unfold Value.okWide at hv
    rw [Tryz.underlying46] at hv
    obtain ⟨cs, rfl, -⟩ := hv
    exact ⟨cs, rfl⟩
  clear hA0 hval0
  refine ((marketNobody_run sh0 sh1 (allD W.heap) [] [] [] W.heap _ (SAt.all W.heap) (.cons (rp_agg hr0) (.cons (rp_agg hr1) (.nil)))).2 W rfl).mono ?_
  rintro e W' ⟨v, rfl, ⟨D', ρ', chs', x, m', le, M', hv, rfl⟩, hsm⟩
  obtain rfl : v = .bool true := by cases hv with | u h => cases h; rfl
  have hb := belowOf (St.kept le M'.st) hsm
  have hlt0 : ∀ x ∈ p0, x.block < W.heap.size := fun x hx => by simpa using hW'.lt x (by simp [hx])
  have hlt1 : ∀ x ∈ p1, x.block < W.heap.size := fun x hx => by simpa using hW'.lt x (by simp [hx])
  exact ⟨_, rfl, _, _, _, [], _, [], hW', trodAll_mk1 (shut_bool Tryz.underlying4 true), trodAll_mk2 (hb.trod Tryz.laidOut (by kernel_rfl) (of_decide_eq_true (by kernel_rfl)) h0 hlt0) (hb.trod Tryz.laidOut (by kernel_rfl) (of_decide_eq_true (by kernel_rfl)) h1 hlt1), rfl, hb.frame _, fun h => by cases h⟩
theorem marketNobody_holds : Rows.MarketNobodySaid :=
  OpenClaim.holds_of_wide 5 Tryz.f5 rfl rfl rfl rfl rfl rfl rfl ⟨rfl, rfl, rfl, rfl, rfl⟩ rfl rfl rfl rfl rfl (by kernel_rfl) Tryz.func5 (by kernel_rfl)
    (of_decide_eq_true (by kernel_rfl)) (by unfold Func.isWrapper; first | (rw [if_pos (by decide +kernel)]; kernel_rfl) | (rw [if_neg (by decide +kernel)]; exact ⟨rfl, rfl⟩))
    (fun os started H enc _ => marketNobody_lifted os started H enc)
end Go.Proofs.YtalglagdgabafaaGreat
