/- The row of MarketPays: whatever it is given it returns true, and what it was given reads as it did. -/
import Derived.Test.YtalglagdgabafaaGreatHp4
import Derived.Test.YtalglagdgabafaaGreatRows
import Derived.ProofKit
import Derived.Deep.SlicePairs
/- A run, piece by piece: printed by program (ez2.py). -/
set_option linter.unusedVariables false
set_option maxRecDepth 1000000
namespace Go.Proofs.YtalglagdgabafaaGreat
open Go Go.Proofs
noncomputable section
abbrev czy1b0  : AB := .w 191 5 [[.n 1, .n 0, .n 1, .n 1, .n 60], [.n 1, .n 0, .n 1, .n 2, .n 40], [.n 1, .n 0, .n 1, .n 3, .n 20], [.n 2, .n 0, .n 1, .n 1, .n 55], [.n 2, .n 0, .n 1, .n 2, .n 40], [.n 2, .n 0, .n 1, .n 3, .n 20], [.n 2, .n 0, .n 2, .n 1, .n 5]]
abbrev czy1b1 (v : PyV) : AB := .w 191 5 [[.n 0, .n 0, .n 0, .n 0, .n v.f], [.n 1, .n 0, .n 0, .n 0, .n (60 - v.q)], [.n 2, .n 0, .n 0, .n 0, .n (500 - v.p - v.f)], [.n 3, .n 0, .n 0, .n 0, .n 2], [.n 2097153, .n 0, .n 0, .n 0, .n (v.p + v.q)]]
abbrev czy1b2 (v : PyV) : AB := .w 191 5 [[.n 0, .n 0, .n 0, .n 0, .n v.f], [.n 1, .n 0, .n 0, .n 0, .n (60 - v.q)], [.n 2, .n 0, .n 0, .n 0, .n (500 - v.p - v.f)], [.n 3, .n 0, .n 0, .n 0, .n 2], [.n 2097153, .n 0, .n 0, .n 0, .n 0]]
abbrev czy1b3 (v : PyV) : AB := .w 191 5 [[.n 0, .n 0, .n 0, .n 0, .n v.f], [.n 1, .n 0, .n 0, .n 0, .n (60 + v.p)], [.n 2, .n 0, .n 0, .n 0, .n (500 - v.p - v.f)], [.n 3, .n 0, .n 0, .n 0, .n 2], [.n 2097153, .n 0, .n 0, .n 0, .n 0]]
abbrev czy1b4 (v : PyV) : V := .a [.i 1, .i 1, .i 2, .i 0, .i 2, .i 0, .i 1, .i 2, .i v.p, .i v.q, .i 10, .i 20, .i v.f, .u (.l 2 [[.n 1, .n 5]]), .c 2 [], .i 2, .i 20, .i 1, .i 0, .i 3, .i 1, .i 0]
abbrev czy1b5 (v : PyV) : AB := .w 33 19 [[.n 1, .n 1, .n 2, .n 0, .n 2, .n 0, .n 1, .n 2, .n v.p, .n v.q, .n 10, .n 20, .n v.f, .l 2 [[.n 1, .n 5]], .l 2 [], .n 3, .n 0, .n 1, .n 0]]
abbrev czy1b6 (v : PyV) : V := .a [.i 1, .i 1, .i 2, .i 0, .i 2, .i 0, .i 1, .i 2, .i v.p, .i v.q, .i 10, .i 20, .i v.f, .u (.l 2 [[.n 1, .n 5]]), .c 2 [], .i 2, .i 20, .i 1, .i 0]
abbrev czy1b7 (v : PyV) : V := .a [.i 1, .i 1, .i 2, .i 0, .i 2, .i 0, .i 1, .i 2, .i v.p, .i v.q, .i 10, .i 20, .i v.f, .u (.l 2 [[.n 1, .n 5]]), .c 2 [], .i 3, .i 0, .i 1, .i 0]
abbrev czy1b8  : AB := .w 146 7 [[.n 3, .n 2, .n 10, .l 2 [[.n 1, .n 3], [.n 2, .n 1]], .n 2, .n 3, .n 5], [.n 4, .n 1, .n 7, .l 2 [[.n 3, .n 2]], .n 0, .n 0, .n 3]]
abbrev czy1b9  : V := .a [.i 0, .i 0, .i 0, .i 0, .i 0, .i 0, .i 0, .i 0, .i 0, .i 0, .i 0, .i 0, .i 0, .nl 2, .nl 2, .i 0, .i 0, .i 0, .i 0]
abbrev czy1b10  : V := .n .i64 33 [0, 120, 80, 40, 0, 0, 0, 0, 0, 0, 0, 0, 0, 0, 0, 0, 0, 0, 0, 0, 0, 0, 0, 0, 0, 0, 0, 0, 0, 0, 0, 0, 0]
abbrev czy1b11  : AB := .w 152 4 [[.n 1, .n 1, .n 1, .n 1000], [.n 1, .n 1, .n 0, .n 0]]
def y41T9 (v : PyV) : Fr := puF (y41T7 v) [(12, .r 15 0), (13, .w 16), (14, .i 0), (16, .r 17 0), (40, .i 0), (41, .u (.b false)), (43, .r 12 2), (44, .i 2), (45, .r 12 3), (46, .i 0), (47, .r 12 6), (48, .i 1), (49, .a [.i 2, .i 0, .i 1, .i 1]), (50, .i 3), (51, .u (.b true)), (52, .u (.b true)), (53, .r 12 7), (54, .i 2), (55, .r 15 2), (65, .t [.w 16, .i 0]), (66, .r 0 0), (67, .r 0 0), (68, .r 0 9), (69, .r 4 0), (70, .i 1), (71, .r 12 6), (72, .i 1), (73, .t [.w 16, .i 0]), (74, .w 16), (75, .i 0), (76, .w 16), (77, .i 1), (78, .i 1), (79, .u (.b false)), (80, .e 16 2 0 0), (81, .a [.i 1, .i 5]), (82, .r 17 0), (83, .i 1), (84, .r 15 3), (85, .r 0 0), (86, .r 0 0), (87, .r 0 9), (88, .r 4 0), (89, .a [.i 2, .i 0, .i 2, .i 1]), (90, .r 17 1), (91, .i 5), (92, .i 0), (93, .i 1)]
def y41M10 (v : PyV) : Mem := paM (y41M8 v) [(4, .c [.w 18, czy1b10])] [.c [.i 2, .i 0, .i 1, .i 1],
  .c [.i 2, .i 0, .i 2, .i 1],
  .w 106 2 [[.n 1, .n 5]],
  .c [.i 1, .i 5],
  czy1b0]
def y41T11 (v : PyV) : Fr := puF (y41T9 v) [(94, .r 0 0), (95, (czy1b6 v)), (96, .i 3), (97, .i 1), (98, (czy1b4 v)), (99, (czy1b7 v))]
noncomputable abbrev y46evD := EvD Tryz.prog eK2 (List.range 600) 300 60
def y46T0 (v : PyV) : Fr := frameF Tryz.prog Tryz.f55 [.r 0 0, (czy1b4 v), (czy1b7 v)]
def y46M0 (v : PyV) : Mem := [.c [.i 4, .w 1, .i 2, .w 2, .i 3, .i 200, .i 1, .i 500, .r 3 0, .r 4 0, .r 5 0, .r 6 0, .w 7],
  czy1b8,
  czy1b11,
  .c [.w 8, .i 562],
  .c [.w 9, czy1b10],
  .c [.w 10, .m 11, .i 256, .i 3],
  .c [.nl 4, .nm],
  .w 33 19 [[.n 1, .n 1, .n 2, .n 0, .n 2, .n 0, .n 1, .n 2, .n v.p, .n v.q, .n 10, .n 20, .n v.f, .l 2 [[.n 1, .n 5]], .l 2 [], .n 2, .n 20, .n 1, .n 0]],
  (czy1b1 v),
  czy1b0,
  .w 136 3 [[.n 20, .n 2, .n 3]],
  .p .n 1 false [(.n 2, [.n 0])]]
noncomputable abbrev y46C1 : Code := bodyOf Tryz.f55
def y46T1 (v : PyV) : Fr := puF (y46T0 v) [(3, .r 12 0), (4, .r 13 0), (5, .r 14 0)]
def y46M2 (v : PyV) : Mem := paM (y46M0 v) [] [.c [.r 0 0],
  .c [.i 1, .i 1, .i 2, .i 0, .i 2, .i 0, .i 1, .i 2, .i v.p, .i v.q, .i 10, .i 20, .i v.f, .u (.l 2 [[.n 1, .n 5]]), .c 2 [], .i 2, .i 20, .i 1, .i 0, .i 3, .i 1, .i 0],
  .c [.i 1, .i 1, .i 2, .i 0, .i 2, .i 0, .i 1, .i 2, .i v.p, .i v.q, .i 10, .i 20, .i v.f, .u (.l 2 [[.n 1, .n 5]]), .c 2 [], .i 3, .i 0, .i 1, .i 0]]
def y46T3 (v : PyV) : Fr := puF (y46T1 v) [(9, .r 13 0), (10, (czy1b6 v)), (11, .r 13 19), (12, .i 3), (13, .r 13 21), (14, .i 0)]
noncomputable abbrev y47ev := Ev Tryz.prog eK2 (List.range 600) 300 60 110
def y47M0 (v : PyV) : Mem := []
noncomputable abbrev y47C1 : Code := bodyOf Tryz.f110
def y47T1 (v : PyV) : Fr := Fr.mk [(czy1b6 v), .i 3, .i 0, .r 0 0, .z, .z, .nl 0, .i 0, .u (.b false), .u (.b false), .z, .r 0 1, .i 1, .u (.b false), .u (.b false), .u (.b false), .t [], .t [], .t [], .u (.b false), .u (.b false), .t [], .t [], .u (.b false)] 74 98
def y47M2 (v : PyV) : Mem := [.c [.i 1, .i 1, .i 2, .i 0, .i 2, .i 0, .i 1, .i 2, .i v.p, .i v.q, .i 10, .i 20, .i v.f, .u (.l 2 [[.n 1, .n 5]]), .c 2 [], .i 2, .i 20, .i 1, .i 0]]
def y47T3 (v : PyV) : Fr := puF (y47T1 v) [(25, (czy1b6 v))]
def y47T4 (v : PyV) : Fr := puF (y47T3 v) [(26, .i 0), (27, .u (.b false)), (28, .u (.b false)), (29, .i 0), (30, .r 0 8), (31, .i v.p)]
def y48M0 (v : PyV) : Mem := []
def y48T1 (v : PyV) : Fr := Fr.mk [.i 0, .i 0, .i v.p, .z, .z, .z, .u (.b false)] 8 15
def y48T3 (v : PyV) : Fr := Fr.mk [.i 0, .i 0, .i v.p, .z, .z, .z, .u (.b false), .i 0, .i 0, .u (.b true), .u (.b true), .i 0, .i v.p] 2 15
def y48T4 (v : PyV) : Fr := puF (y5T1 v) [(2, .i v.p), (12, .i v.p)]
abbrev y48Mm (v : PyV) : Mem := (y48M0 v)
theorem y48_run (v : PyV) (H : PyB v) : PRun Tryz.prog 101 (y48M0 v) [.i 0, .i 0, .i v.p] fun x m => x = .u (.b true) ∧ m = (y48Mm v) := Ev.runA eK2 Tryz.func101 (c := (bodyOf Tryz.f101)) (r := (.ret, (y48T4 v), (y48M0 v))) (Ev.piecesA (k := 1) (t1 := y48T1 v) (m1 := y48M0 v) (Ev.seqPA (t1 := y48T4 v) (m1 := y48M0 v) (Ev.regA (EvO.opA (t2 := y48T3 v) (m1 := y48M0 v) (v := .u (.b true)) (k := 6) (t1 := (y48T3 v)) (symE (b := leF 0 v.p) (by kernel_rfl) (sLeT (by have := H.b; omega))) EvO.opsA)) Ev.codeA))
def y47T5 (v : PyV) : Fr := puF (y47T4 v) [(24, .u (.b false)), (32, .u (.b true)), (33, .u (.b false)), (34, .u (.b false)), (35, .u (.b false)), (36, .i 0), (37, .u (.b false)), (38, .u (.b false)), (39, .t []), (40, .t []), (41, .u (.b false)), (42, .u (.b false))]
def y47T6 (v : PyV) : Fr := puF (y47T5 v) [(43, .u (.b false)), (44, .u (.b false)), (45, .u (.b true)), (46, .u (.b true)), (47, (czy1b6 v)), (48, .i 3), (49, .u (.b true)), (50, .u (.b false)), (51, .u (.b false))]
def y47M7 (v : PyV) : Mem := [.c [.i 1, .i 1, .i 2, .i 0, .i 2, .i 0, .i 1, .i 2, .i v.p, .i v.q, .i 10, .i 20, .i v.f, .u (.l 2 [[.n 1, .n 5]]), .c 2 [], .i 2, .i 20, .i 1, .i 0],
  .c [.i 1, .i 1, .i 2, .i 0, .i 2, .i 0, .i 1, .i 2, .i v.p, .i v.q, .i 10, .i 20, .i v.f, .u (.l 2 [[.n 1, .n 5]]), .c 2 [], .i 2, .i 20, .i 1, .i 0]]
def y47T8 (v : PyV) : Fr := puF (y47T6 v) [(10, .nl 0)]
def y47T9 (v : PyV) : Fr := puF (y47T8 v) [(58, .u (.b false)), (59, .u (.b false))]
def y47T10 (v : PyV) : Fr := puF (y47T8 v) [(58, .u (.b false)), (59, .u (.b false)), (70, .u (.b false)), (71, .u (.b false))]
def y47T11 (v : PyV) : Fr := puF (y47T8 v) [(58, .u (.b false)), (59, .u (.b false)), (70, .u (.b false)), (71, .u (.b false)), (72, .u (.b true)), (73, .i 3), (74, .u (.b true))]
def y47T12 (v : PyV) : Fr := puF (y47T8 v) [(58, .u (.b false)), (59, .u (.b false)), (70, .u (.b false)), (71, .u (.b false)), (72, .u (.b true)), (73, .i 3), (74, .u (.b true)), (75, .r 0 17), (76, .i 1), (77, .r 0 8), (78, .i v.p), (79, .r 0 9), (80, .i v.q)]
def y47T13 (v : PyV) : Fr := puF (y47T6 v) [(10, .w 2), (58, .u (.b false)), (59, .u (.b false)), (70, .u (.b false)), (71, .u (.b false)), (72, .u (.b true)), (73, .i 3), (74, .u (.b true)), (75, .r 0 17), (76, .i 1), (77, .r 0 8), (78, .i v.p), (79, .r 0 9), (80, .i v.q), (81, .i (v.p + v.q)), (82, .a [.i 0, .i 1, .i (v.p + v.q)]), (83, .w 2)]
def y47M14 (v : PyV) : Mem := paM (y47M7 v) [] [.w 234 3 [[.n 0, .n 1, .n (v.p + v.q)]]]
def y47T15 (v : PyV) : Fr := puF (y47T13 v) [(96, .w 2)]
def y49M0 (v : PyV) : Mem := [.w 234 3 [[.n 0, .n 1, .n (v.p + v.q)]]]
def y49T1 (v : PyV) : Fr := Fr.mk [.w 0, .f 155 [] [], .z, .z, .nl 0] 37 42
def y49T2 (v : PyV) : Fr := Fr.mk [.w 0, .f 155 [] [], .z, .z, .nl 0, .z, .z, .z, .w 0, .f 155 [] []] 32 42
noncomputable abbrev y50ev := Ev Tryz.prog eK2 (List.range 600) 300 60 182
noncomputable abbrev y50evL := EvL Tryz.prog eK2 (List.range 600) 300 60 182
def y50M0 (v : PyV) : Mem := [.w 234 3 [[.n 0, .n 1, .n (v.p + v.q)]]]
noncomputable abbrev y50C1 : Code := bodyOf Tryz.f182
def y50T1 (v : PyV) : Fr := Fr.mk [.w 0, .f 155 [] [], .z, .z, .i 0] 14 19
def y50T2 (v : PyV) : Fr := Fr.mk [.w 0, .f 155 [] [], .z, .z, .i 0, .z, .w 0, .i 1, .i 0] 10 19
noncomputable abbrev y50C6 : Code := cLp (cBd (dropK 1 (cL (dropK 1 y50C1))))
def y50T3 (v : PyV) : Fr := Fr.mk [.w 0, .f 155 [] [], .z, .z, .i 0, .z, .w 0, .i 1, .i 0, .u (.b true)] 9 19
def y50T4 (v : PyV) : Fr := Fr.mk [.w 0, .f 155 [] [], .z, .z, .i 0, .i 0, .w 0, .i 1, .i 0, .u (.b true), .i 0] 8 19
def y50T5 (v : PyV) : Fr := Fr.mk [.w 0, .f 155 [] [], .z, .z, .i 0, .i 0, .w 0, .i 1, .i 0, .u (.b true), .i 0, .f 155 [] [], .w 0, .i 0, .e 0 3 0 0, .a [.i 0, .i 1, .i (v.p + v.q)]] 3 19
def y51M0 (v : PyV) : Mem := []
def y51T1 (v : PyV) : Fr := Fr.mk [.a [.i 0, .i 1, .i (v.p + v.q)], .r 0 0, .u (.b false)] 3 6
def y51M2 (v : PyV) : Mem := [.c [.i 0, .i 1, .i (v.p + v.q)]]
def y51T3 (v : PyV) : Fr := Fr.mk [.a [.i 0, .i 1, .i (v.p + v.q)], .r 0 0, .u (.b false), .r 0 2, .i (v.p + v.q)] 1 6
def y51T4 (v : PyV) : Fr := Fr.mk [.a [.i 0, .i 1, .i (v.p + v.q)], .r 0 0, .u (.b false), .r 0 2, .i (v.p + v.q), .u (.b false)] 0 6
abbrev y51Mm (v : PyV) : Mem := (y51M0 v)
theorem y51_run (v : PyV) (H : PyB v) : PRun Tryz.prog 155 (y51M0 v) [.a [.i 0, .i 1, .i (v.p + v.q)]] fun x m => x = .u (.b false) ∧ m = (y51Mm v) := Ev.runA eK2 Tryz.func155 (c := (bodyOf Tryz.f155)) (r := (.ret, (y51T4 v), (y51M2 v))) (Ev.piecesA (k := 1) (t1 := y51T1 v) (m1 := y51M2 v) (Ev.seqPA (t1 := y51T4 v) (m1 := y51M2 v) (Ev.regA (EvO.opA (t2 := y51T3 v) (m1 := y51M2 v) (v := .u (.b false)) (k := 2) (t1 := (y51T3 v)) (symE (b := eqF (v.p + v.q) 0) (by kernel_rfl) (sEqF (by have := H.b; omega))) EvO.opsA)) Ev.codeA))
def y50T6 (v : PyV) : Fr := puF (y50T5 v) [(16, .u (.b false))]
def y50T8 (v : PyV) : Fr := puF (y50T6 v) [(8, .i 1), (18, .i 1)]
theorem y50n10 (v : PyV) (H : PyB v) : y50ev y50C6 (y50T2 v) (y50M0 v) [(.nrm, (y50T8 v), (y50M0 v))] := Ev.piecesA (k := 2) (t1 := y50T3 v) (m1 := y50M0 v) (Ev.seqPA (t1 := y50T6 v) (m1 := y50M0 v) (Ev.blockP (e := .nrm) (by kernel_rfl) (by kernel_rfl) (Ev.piecesA (k := 1) (t1 := y50T4 v) (m1 := y50M0 v) (Ev.seqPA (t1 := y50T6 v) (m1 := y50M0 v) (Ev.regA (EvO.callA (t2 := y50T5 v) (m1 := y50M0 v) (ix := []) (k := 5) (t1 := (y50T5 v)) (args := [.a [.i 0, .i 1, .i (v.p + v.q)]]) (a := []) (cc := []) (y51_run v H) EvO.opsA)) Ev.codeA))) Ev.codeA)
def y50T9 (v : PyV) : Fr := puF (y50T8 v) [(9, .u (.b false))]
theorem y50n14 (v : PyV) (H : PyB v) : y50ev y50C6 (y50T8 v) (y50M0 v) [((.ext 0), (y50T9 v), (y50M0 v))] := Ev.seqPA (t1 := y50T9 v) (m1 := y50M0 v) Ev.codeA (Ev.seqE (by intro h; cases h) (by kernel_rfl) Ev.codeA)
theorem y50n15 (v : PyV) (H : PyB v) : y50evL 1 y50C6 299 (y50T8 v) (y50M0 v) [((.ext 0), (y50T9 v), (y50M0 v))] := EvL.last (by intro h; cases h) (y50n14 v H)
theorem y50n16 (v : PyV) (H : PyB v) : y50evL 1 y50C6 300 (y50T2 v) (y50M0 v) [((.ext 0), (y50T9 v), (y50M0 v))] := EvL.round (t2 := (y50T8 v)) (m2 := (y50M0 v)) (y50n10 v H) (by kernel_rfl) (y50n15 v H)
def y50T11 (v : PyV) : Fr := puF (y50T9 v) [(4, .i (-1))]
abbrev y50Mm (v : PyV) : Mem := (y50M0 v)
theorem y50_run (v : PyV) (H : PyB v) : PRun Tryz.prog 182 (y50M0 v) [.w 0, .f 155 [] []] fun x m => x = .i (-1) ∧ m = (y50Mm v) := Ev.runA eK2 Tryz.func182 (c := y50C1) (r := (.ret, (y50T11 v), (y50M0 v))) (Ev.piecesA (k := 1) (t1 := y50T1 v) (m1 := y50M0 v) (Ev.seqPA (t1 := y50T9 v) (m1 := y50M0 v) (Ev.piecesA (k := 1) (t1 := y50T2 v) (m1 := y50M0 v) (Ev.blockP (e := .ext 0) (by kernel_rfl) (by kernel_rfl) (Ev.loopP (n0 := 1) (by kernel_rfl) (by kernel_rfl) (y50n16 v H)))) Ev.codeA))
def y49T3 (v : PyV) : Fr := Fr.mk [.w 0, .f 155 [] [], .z, .z, .nl 0, .i (-1), .z, .z, .w 0, .f 155 [] [], .i (-1)] 31 42
def y49T4 (v : PyV) : Fr := Fr.mk [.w 0, .f 155 [] [], .z, .z, .w 0, .i (-1), .z, .z, .w 0, .f 155 [] [], .i (-1), .i (-1), .u (.b true), .w 0] 28 42
def y49M5 (v : PyV) : Mem := [.x]
abbrev y49Mm (v : PyV) : Mem := (y49M5 v)
theorem y49_run (v : PyV) (H : PyB v) : PRun Tryz.prog 154 (y49M0 v) [.w 0, .f 155 [] []] fun x m => x = .u (.l 3 [[.n 0, .n 1, .n (v.p + v.q)]]) ∧ m = (y49Mm v) := Ev.runA eK2 Tryz.func154 (c := (bodyOf Tryz.f154)) (r := (.ret, (y49T4 v), (y49M0 v))) (Ev.piecesA (k := 1) (t1 := y49T1 v) (m1 := y49M0 v) (Ev.seqPA (t1 := y49T3 v) (m1 := y49M0 v) (Ev.regA (EvO.callA (t2 := y49T2 v) (m1 := y49M0 v) (ix := [0]) (k := 2) (t1 := (y49T2 v)) (args := [.w 0, .f 155 [] []]) (a := []) (cc := []) (y50_run v H) EvO.opsA)) Ev.codeA))
def y47T16 (v : PyV) : Fr := puF (y47T13 v) [(6, .u (.l 3 [[.n 0, .n 1, .n (v.p + v.q)]])), (96, .w 2), (97, .u (.l 3 [[.n 0, .n 1, .n (v.p + v.q)]]))]
def y47M17 (v : PyV) : Mem := paM (y47M7 v) [] [.x]
def y47T18 (v : PyV) : Fr := puF (y47T13 v) [(6, .u (.l 3 [[.n 0, .n 1, .n (v.p + v.q)]])), (96, .w 2), (97, .u (.l 3 [[.n 0, .n 1, .n (v.p + v.q)]]))]
theorem y47n25 (v : PyV) (H : PyB v) : y47ev (dropK 3 y47C1) (y47T1 v) (y47M2 v) [(.ret, (y47T18 v), (y47M17 v))] := Ev.seqPA (t1 := y47T6 v) (m1 := y47M7 v) (Ev.blockP (e := .nrm) (by kernel_rfl) (by kernel_rfl) (Ev.seqPA (t1 := y47T5 v) (m1 := y47M2 v) (Ev.regA (EvO.callA (t2 := y47T3 v) (m1 := y47M2 v) (ix := []) (k := 1) (t1 := (y47T3 v)) (args := [(czy1b6 v)]) (a := []) (cc := []) (y43_run v H) (EvO.callA (t2 := y47T4 v) (m1 := y47M2 v) (ix := []) (k := 5) (t1 := (y47T4 v)) (args := [.i 0, .i 0, .i v.p]) (a := []) (cc := []) (y48_run v H) EvO.opsA))) Ev.codeA)) (Ev.piecesA (k := 1) (t1 := y47T8 v) (m1 := y47M7 v) (Ev.seqPA (t1 := y47T13 v) (m1 := y47M14 v) (Ev.blockP (e := .nrm) (by kernel_rfl) (by kernel_rfl) (Ev.piecesA (k := 1) (t1 := y47T9 v) (m1 := y47M7 v) (Ev.condF (by kernel_rfl) (by kernel_rfl) (Ev.piecesA (k := 1) (t1 := y47T10 v) (m1 := y47M7 v) (Ev.condF (by kernel_rfl) (by kernel_rfl) (Ev.piecesA (k := 1) (t1 := y47T11 v) (m1 := y47M7 v) (Ev.condT (by kernel_rfl) (by kernel_rfl) (Ev.regA (EvO.opA (t2 := y47T12 v) (m1 := y47M7 v) (v := .i (v.p + v.q)) (k := 6) (t1 := (y47T12 v)) (symI (a := wrapF .i64 (addF v.p v.q)) (z := (v.p + v.q)) (by kernel_rfl) (sAdd (by have := H.b; omega))) EvO.opsA))))))))) (Ev.seqPA (t1 := y47T16 v) (m1 := y47M17 v) (Ev.regA (EvO.callA (t2 := y47T15 v) (m1 := y47M14 v) (ix := [2]) (k := 1) (t1 := (y47T15 v)) (args := [.w 2, .f 155 [] []]) (a := []) (cc := []) (y49_run v H) EvO.opsA)) Ev.codeA)))
abbrev y47Mm (v : PyV) : Mem := (y47M0 v)
theorem y47_run (v : PyV) (H : PyB v) : PRun Tryz.prog 110 (y47M0 v) [(czy1b6 v), .i 3, .i 0] fun x m => x = .t [.u (.l 3 [[.n 0, .n 1, .n (v.p + v.q)]]), .i 0] ∧ m = (y47Mm v) := Ev.runA eK2 Tryz.func110 (c := y47C1) (r := (.ret, (y47T18 v), (y47M17 v))) (Ev.piecesA (k := 3) (y47n25 v H))
def y46T4 (v : PyV) : Fr := puF (y46T3 v) [(6, .u (.l 3 [[.n 0, .n 1, .n (v.p + v.q)]])), (7, .i 0), (8, .t [.u (.l 3 [[.n 0, .n 1, .n (v.p + v.q)]]), .i 0]), (15, .t [.u (.l 3 [[.n 0, .n 1, .n (v.p + v.q)]]), .i 0]), (16, .u (.l 3 [[.n 0, .n 1, .n (v.p + v.q)]])), (17, .i 0)]
def y46T5 (v : PyV) : Fr := puF (y46T4 v) [(18, .i 0), (19, .u (.b true))]
noncomputable abbrev y46C7 : Code := cT (dropK 1 (cR (cL (dropK 1 y46C1))))
def y46T6 (v : PyV) : Fr := puF (y46T5 v) [(20, .r 0 0), (21, .r 0 0), (22, .r 0 8), (23, .r 3 0), (24, .r 13 0), (25, .r 13 0), (26, .i 1), (27, .u (.l 3 [[.n 0, .n 1, .n (v.p + v.q)]]))]
noncomputable abbrev y52ev := Ev Tryz.prog eK2 (List.range 600) 300 60 111
noncomputable abbrev y52evL := EvL Tryz.prog eK2 (List.range 600) 300 60 111
def y52M0 (v : PyV) : Mem := [.c [.w 1, .i 562],
  (czy1b1 v)]
noncomputable abbrev y52C1 : Code := bodyOf Tryz.f111
def y52T1 (v : PyV) : Fr := Fr.mk [.r 0 0, .i 1, .u (.l 3 [[.n 0, .n 1, .n (v.p + v.q)]]), .z, .z, .z, .i 0, .i 2097153, .i 0, .i (v.p + v.q), .z, .z, .z, .z, .z, .z, .z, .z, .t [.i 2097153, .i 0], .i 1, .t [.i 2097153, .i 0], .i 2097153, .i 0, .i 0, .u (.b false), .u (.b false), .r 0 0, .u (.b false), .u (.b false), .r 0 0, .i 1, .i (v.p + v.q)] 61 93
noncomputable abbrev y52C2 : Code := dropK 4 y52C1
def y52T2 (v : PyV) : Fr := puF (y52T1 v) [(32, .u (.l 3 [[.n 0, .n 1, .n (v.p + v.q)]])), (33, .i 1), (34, .i 0)]
noncomputable abbrev y52C6 : Code := cLp (cBd (dropK 1 (cL y52C2)))
def y52T3 (v : PyV) : Fr := puF (y52T2 v) [(35, .u (.b true))]
def y52T4 (v : PyV) : Fr := puF (y52T3 v) [(11, .r 2 0), (36, .q [.n 0, .n 1, .n (v.p + v.q)] 0), (37, .a [.i 0, .i 1, .i (v.p + v.q)])]
def y52M5 (v : PyV) : Mem := paM (y52M0 v) [] [.c [.i 0, .i 1, .i (v.p + v.q)]]
def y52T6 (v : PyV) : Fr := puF (y52T4 v) [(38, .r 2 0), (39, .i 0), (40, .u (.b false)), (41, .u (.b false)), (42, .r 2 2), (43, .i (v.p + v.q))]
def y52T7 (v : PyV) : Fr := puF (y52T6 v) [(44, .u (.b false)), (45, .u (.b false)), (46, .u (.b false)), (47, .r 2 2), (48, .i (v.p + v.q)), (49, .i (v.p + v.q))]
def y52T8 (v : PyV) : Fr := puF (y52T7 v) [(50, .u (.b false)), (51, .u (.b false))]
def y52T9 (v : PyV) : Fr := puF (y52T7 v) [(50, .u (.b false)), (51, .u (.b false))]
def y52T10 (v : PyV) : Fr := puF (y52T7 v) [(50, .u (.b false)), (51, .u (.b false)), (52, .i (v.p + v.q)), (53, .r 2 2), (54, .i (v.p + v.q))]
def y52T11 (v : PyV) : Fr := puF (y52T7 v) [(9, .i 0), (50, .u (.b false)), (51, .u (.b false)), (52, .i (v.p + v.q)), (53, .r 2 2), (54, .i (v.p + v.q)), (55, .i 0)]
def y52T12 (v : PyV) : Fr := puF (y52T7 v) [(9, .i 0), (34, .i 1), (50, .u (.b false)), (51, .u (.b false)), (52, .i (v.p + v.q)), (53, .r 2 2), (54, .i (v.p + v.q)), (55, .i 0), (56, .i 1)]
theorem y52n15 (v : PyV) (H : PyB v) : y52ev y52C6 (y52T2 v) (y52M0 v) [(.nrm, (y52T12 v), (y52M5 v))] := Ev.piecesA (k := 2) (t1 := y52T3 v) (m1 := y52M0 v) (Ev.seqPA (t1 := y52T11 v) (m1 := y52M5 v) (Ev.blockP (e := .nrm) (by kernel_rfl) (by kernel_rfl) (Ev.piecesA (k := 1) (t1 := y52T4 v) (m1 := y52M5 v) (Ev.seqPA (t1 := y52T9 v) (m1 := y52M5 v) (Ev.seqPA (t1 := y52T8 v) (m1 := y52M5 v) (Ev.regA (EvO.opA (t2 := y52T6 v) (m1 := y52M5 v) (v := .u (.b false)) (k := 6) (t1 := (y52T6 v)) (symE (b := ltF (v.p + v.q) 0) (by kernel_rfl) (sLtF (by have := H.b; omega))) (EvO.opA (t2 := y52T7 v) (m1 := y52M5 v) (v := .u (.b false)) (k := 5) (t1 := (y52T7 v)) (symE (b := ltF (v.p + v.q) (v.p + v.q)) (by kernel_rfl) (sLtF (by have := H.b; omega))) EvO.opsA))) Ev.codeA) (Ev.regA (EvO.opA (t2 := y52T10 v) (m1 := y52M5 v) (v := .i 0) (k := 3) (t1 := (y52T10 v)) (symI (a := wrapF .i64 (subF (v.p + v.q) (v.p + v.q))) (z := 0) (by kernel_rfl) (sSub (by have := H.b; omega))) EvO.opsA))))) Ev.codeA)
def y52T13 (v : PyV) : Fr := puF (y52T7 v) [(9, .i 0), (34, .i 1), (35, .u (.b false)), (50, .u (.b false)), (51, .u (.b false)), (52, .i (v.p + v.q)), (53, .r 2 2), (54, .i (v.p + v.q)), (55, .i 0), (56, .i 1)]
def y52T14 (v : PyV) : Fr := puF (y52T7 v) [(9, .i 0), (34, .i 1), (35, .u (.b false)), (50, .u (.b false)), (51, .u (.b false)), (52, .i (v.p + v.q)), (53, .r 2 2), (54, .i (v.p + v.q)), (55, .i 0), (56, .i 1)]
theorem y52n19 (v : PyV) (H : PyB v) : y52ev y52C6 (y52T12 v) (y52M5 v) [((.ext 0), (y52T14 v), (y52M5 v))] := Ev.seqPA (t1 := y52T13 v) (m1 := y52M5 v) Ev.codeA (Ev.seqE (by intro h; cases h) (by kernel_rfl) Ev.codeA)
theorem y52n20 (v : PyV) (H : PyB v) : y52evL 2 y52C6 299 (y52T12 v) (y52M5 v) [((.ext 0), (y52T14 v), (y52M5 v))] := EvL.last (by intro h; cases h) (y52n19 v H)
theorem y52n21 (v : PyV) (H : PyB v) : y52evL 2 y52C6 300 (y52T2 v) (y52M0 v) [((.ext 0), (y52T14 v), (y52M5 v))] := EvL.round (t2 := (y52T12 v)) (m2 := (y52M5 v)) (y52n15 v H) (by kernel_rfl) (y52n20 v H)
def y52T16 (v : PyV) : Fr := puF (y52T7 v) [(9, .i 0), (34, .i 1), (35, .u (.b false)), (50, .u (.b false)), (51, .u (.b false)), (52, .i (v.p + v.q)), (53, .r 2 2), (54, .i (v.p + v.q)), (55, .i 0), (56, .i 1), (57, .i 0), (58, .u (.b false))]
def y52T17 (v : PyV) : Fr := puF (y52T7 v) [(9, .i 0), (34, .i 1), (35, .u (.b false)), (50, .u (.b false)), (51, .u (.b false)), (52, .i (v.p + v.q)), (53, .r 2 2), (54, .i (v.p + v.q)), (55, .i 0), (56, .i 1), (57, .i 0), (58, .u (.b false))]
def y52T18 (v : PyV) : Fr := Fr.mk [.r 0 0, .i 1, .u (.l 3 [[.n 0, .n 1, .n (v.p + v.q)]]), .z, .z, .z, .i 0, .i 2097153, .i 0, .i 0, .z, .r 2 0, .z, .r 3 0, .i (60 - v.q), .i 0, .z, .z, .t [.i 2097153, .i 0], .i 1, .t [.i 2097153, .i 0], .i 2097153, .i 0, .i 0, .u (.b false), .u (.b false), .r 0 0, .u (.b false), .u (.b false), .r 0 0, .i 1, .i (v.p + v.q), .u (.l 3 [[.n 0, .n 1, .n (v.p + v.q)]]), .i 1, .i 1, .u (.b false), .q [.n 0, .n 1, .n (v.p + v.q)] 0, .a [.i 0, .i 1, .i (v.p + v.q)], .r 2 0, .i 0, .u (.b false), .u (.b false), .r 2 2, .i (v.p + v.q), .u (.b false), .u (.b false), .u (.b false), .r 2 2, .i (v.p + v.q), .i (v.p + v.q), .u (.b false), .u (.b false), .i (v.p + v.q), .r 2 2, .i (v.p + v.q), .i 0, .i 1, .i 0, .u (.b false), .u (.l 3 [[.n 0, .n 1, .n (v.p + v.q)]]), .i 1, .i 1, .u (.b false), .q [.n 0, .n 1, .n (v.p + v.q)] 0, .a [.i 0, .i 1, .i (v.p + v.q)], .t [.i (60 - v.q), .i 0], .r 0 0, .r 3 1, .i 1, .t [.i (60 - v.q), .i 0], .i (60 - v.q), .i 0, .i 0, .u (.b false), .z, .i 1] 17 93
def y52M19 (v : PyV) : Mem := paM (y52M5 v) [] [.c [.i 0, .i 1, .i (v.p + v.q)]]
def y52T20 (v : PyV) : Fr := puF (y52T18 v) [(76, .u (.l 3 [[.n 0, .n 1, .n (v.p + v.q)]])), (77, .i 1), (78, .i 0)]
noncomputable abbrev y52C28 : Code := cLp (cBd (dropK 1 (cL (dropK 1 (cR (cR y52C2))))))
def y52T21 (v : PyV) : Fr := puF (y52T20 v) [(79, .u (.b true))]
def y52T22 (v : PyV) : Fr := puF (y52T21 v) [(17, .r 4 0), (80, .q [.n 0, .n 1, .n (v.p + v.q)] 0), (81, .a [.i 0, .i 1, .i (v.p + v.q)])]
def y52M23 (v : PyV) : Mem := paM (y52M19 v) [] [.c [.i 0, .i 1, .i (v.p + v.q)]]
def y52T24 (v : PyV) : Fr := puF (y52T22 v) [(82, .r 4 2), (83, .i (v.p + v.q))]
def y52T25 (v : PyV) : Fr := puF (y52T24 v) [(84, .u (.b true))]
def y52T26 (v : PyV) : Fr := puF (y52T25 v) [(85, .r 0 0), (86, .i 2097153), (87, .r 4 1), (88, .i 1), (89, .r 4 2), (90, .i (v.p + v.q))]
def y53M0 (v : PyV) : Mem := [.c [.w 1, .i 562],
  (czy1b1 v)]
def y53T1 (v : PyV) : Fr := Fr.mk [.r 0 0, .i 2097153, .i 1, .i (v.p + v.q), .z, .z, .z, .z, .i 0, .z, .i 1, .i (60 - v.q), .i 0, .z, .i 2097153, .i 1, .w 2, .i 2, .i 2, .u (.b false), .e 2 1 1 0, .i 1, .t [.i (60 - v.q), .i 0], .r 0 0, .i 1, .t [.i (60 - v.q), .i 0], .i (60 - v.q), .i 0, .i 0, .u (.b false), .z, .i 2] 16 48
def y53M2 (v : PyV) : Mem := paM (y53M0 v) [] [.w 3 1 [[.n 2097153], [.n 1]]]
def y53T3 (v : PyV) : Fr := puF (y53T1 v) [(32, .r 0 0), (33, .i 2097153), (34, .i (v.p + v.q))]
def y54M0 (v : PyV) : Mem := [.c [.w 1, .i 562],
  (czy1b1 v)]
def y54T1 (v : PyV) : Fr := Fr.mk [.r 0 0, .i 2097153, .i (v.p + v.q), .z, .z, .z, .i 0, .i (v.p + v.q), .i 0, .t [.i (v.p + v.q), .i 0], .r 0 0, .i 2097153, .t [.i (v.p + v.q), .i 0], .i (v.p + v.q), .i 0] 11 26
def y54T2 (v : PyV) : Fr := puF (y54T1 v) [(15, .u (.b false)), (16, .i 0), (17, .u (.b false))]
def y54T3 (v : PyV) : Fr := puF (y54T2 v) [(20, .i (v.p + v.q))]
def y54T4 (v : PyV) : Fr := puF (y54T3 v) [(19, .u (.b false)), (21, .u (.b false))]
def y54T5 (v : PyV) : Fr := puF (y54T4 v) [(23, .i (v.p + v.q)), (24, .i (v.p + v.q))]
def y54T6 (v : PyV) : Fr := puF (y54T5 v) [(22, .u (.b false)), (25, .u (.b false))]
abbrev y54Mm (v : PyV) : Mem := (y54M0 v)
theorem y54_run (v : PyV) (H : PyB v) : PRun Tryz.prog 92 (y54M0 v) [.r 0 0, .i 2097153, .i (v.p + v.q)] fun x m => x = .i 0 ∧ m = (y54Mm v) := Ev.runA eK2 Tryz.func92 (c := (bodyOf Tryz.f92)) (r := (.ret, (y54T6 v), (y54M0 v))) (Ev.piecesA (k := 2) (t1 := y54T1 v) (m1 := y54M0 v) (Ev.seqPA (t1 := y54T6 v) (m1 := y54M0 v) (Ev.blockP (e := .nrm) (by kernel_rfl) (by kernel_rfl) (Ev.piecesA (k := 1) (t1 := y54T2 v) (m1 := y54M0 v) (Ev.condF (by kernel_rfl) (by kernel_rfl) (Ev.seqPA (t1 := y54T4 v) (m1 := y54M0 v) (Ev.regA (EvO.opA (t2 := y54T3 v) (m1 := y54M0 v) (v := .u (.b false)) (k := 1) (t1 := (y54T3 v)) (symE (b := ltF (v.p + v.q) 0) (by kernel_rfl) (sLtF (by have := H.b; omega))) EvO.opsA)) (Ev.condF (by kernel_rfl) (by kernel_rfl) (Ev.seqPA (t1 := y54T6 v) (m1 := y54M0 v) (Ev.regA (EvO.opA (t2 := y54T5 v) (m1 := y54M0 v) (v := .u (.b false)) (k := 2) (t1 := (y54T5 v)) (symE (b := ltF (v.p + v.q) (v.p + v.q)) (by kernel_rfl) (sLtF (by have := H.b; omega))) EvO.opsA)) Ev.codeA)))))) Ev.codeA))
def y53T4 (v : PyV) : Fr := puF (y53T3 v) [(13, .i 0), (35, .i 0)]
def y53T5 (v : PyV) : Fr := puF (y53T4 v) [(36, .i 0), (37, .u (.b true))]
def y53T6 (v : PyV) : Fr := puF (y53T5 v) [(38, .r 0 0), (39, .i 2097153), (40, .i (v.p + v.q))]
def y53T7 (v : PyV) : Fr := puF (y53T6 v) [(41, .i (0 - v.p - v.q))]
noncomputable abbrev y55evD := EvD Tryz.prog eK2 (List.range 600) 300 60
def y55M0 (v : PyV) : Mem := [.c [.w 1, .i 562],
  (czy1b1 v)]
noncomputable abbrev y55C1 : Code := bodyOf Tryz.f93
def y55T1 (v : PyV) : Fr := Fr.mk [.r 0 0, .i 2097153, .i (0 - v.p - v.q), .z, .z, .z, .i (v.p + v.q), .u (.b true), .t [.i (v.p + v.q), .u (.b true)], .r 0 0, .r 0 0, .r 0 0, .i 2097153, .a [.i 2097153, .i 0, .i 0, .i 0], .t [.i (v.p + v.q), .u (.b true)], .i (v.p + v.q), .u (.b true)] 17 34
noncomputable abbrev y55C3 : Code := cL (dropK 1 y55C1)
def y55T2 (v : PyV) : Fr := puF (y55T1 v) [(17, .r 0 0), (18, .r 0 0), (19, .r 0 0), (20, .i 2097153), (22, .i (v.p + v.q)), (23, .i (0 - v.p - v.q))]
def y55T3 (v : PyV) : Fr := puF (y55T2 v) [(21, .a [.i 2097153, .i 0, .i 0, .i 0]), (24, .i 0), (25, .u (.b false))]
def y55M4 (v : PyV) : Mem := [.c [.w 3, .i 562],
  (czy1b1 v),
  .c [.i 2097153, .i 0, .i 0, .i 0],
  (czy1b2 v)]
theorem y55n1 (v : PyV) (H : PyB v) : y55evD (cOp y55C3) (0, [8, 4, 7, 6, 5, 3, 2, 1, 0], [], (y55T3 v), (y55M4 v)) [((y55T3 v), (y55M4 v))] := EvD.codeA
theorem y55n2 (v : PyV) (H : PyB v) : y55evD (cOp y55C3) (2, [7, 6, 5, 3, 2, 1, 0], cond (pureOp (opAt (cOp y55C3) 7)) [] ((7, srcF (y55T2 v) (opAt (cOp y55C3) 7)) :: []), (cPut (opAt (cOp y55C3) 7).dst).p (y55T2 v) (.i 0), (y55M0 v)) [((y55T3 v), (y55M4 v))] := EvD.stepsA (j := 2) (y55n1 v H)
theorem y55n3 (v : PyV) (H : PyB v) : y55evD (cOp y55C3) (3, [6, 5, 3, 2, 1, 0], [], (y55T2 v), (y55M0 v)) [((y55T3 v), (y55M4 v))] := EvD.op (t2 := (y55T2 v)) (v := .i 0) 7 (by kernel_rfl) (by kernel_rfl) (by kernel_rfl) (symI1 (a := wrapF .i64 (addF (v.p + v.q) (0 - v.p - v.q))) (z := 0) (by kernel_rfl) (sAdd (by have := H.b; omega))) (y55n2 v H)
def y55M6 (v : PyV) : Mem := [.c [.w 2, .i 562],
  (czy1b1 v),
  (czy1b2 v)]
def y55T7 (v : PyV) : Fr := puF (y55T3 v) [(26, .r 0 0), (27, .r 0 0), (28, .r 0 1), (29, .i 562), (30, .i (0 - v.p - v.q))]
def y55T8 (v : PyV) : Fr := puF (y55T7 v) [(31, .i (562 - v.p - v.q)), (32, .r 0 0), (33, .r 0 1)]
def y55M9 (v : PyV) : Mem := paM (y55M6 v) [(0, .c [.w 2, .i (562 - v.p - v.q)])] []
abbrev y55Mm (v : PyV) : Mem := (y55M9 v)
theorem y55_run (v : PyV) (H : PyB v) : PRun Tryz.prog 93 (y55M0 v) [.r 0 0, .i 2097153, .i (0 - v.p - v.q)] fun x m => x = .t [] ∧ m = (y55Mm v) := Ev.runA eK2 Tryz.func93 (c := y55C1) (r := (.nrm, (y55T8 v), (y55M9 v))) (Ev.piecesA (k := 1) (t1 := y55T1 v) (m1 := y55M0 v) (Ev.seqPA (t1 := y55T3 v) (m1 := y55M6 v) (Ev.regD2 (outs := [((y55T3 v), (y55M4 v))]) (by kernel_rfl) (by kernel_rfl) (by kernel_rfl) (EvD.stepsA (j := 6) (y55n3 v H)) ⟨by kernel_rfl, trivial⟩) (Ev.regA (EvO.opA (t2 := y55T7 v) (m1 := y55M6 v) (v := .i (562 - v.p - v.q)) (k := 5) (t1 := (y55T7 v)) (symI (a := wrapF .i64 (addF 562 (0 - v.p - v.q))) (z := (562 - v.p - v.q)) (by kernel_rfl) (sAdd (by have := H.b; omega))) EvO.opsA))))
def y53T8 (v : PyV) : Fr := puF (y53T7 v) [(42, .t [])]
def y53M9 (v : PyV) : Mem := [.c [.w 3, .i (562 - v.p - v.q)],
  (czy1b1 v),
  .w 3 1 [[.n 2097153], [.n 1]],
  (czy1b2 v)]
def y53T10 (v : PyV) : Fr := puF (y53T7 v) [(42, .t []), (43, .r 0 0), (44, .i 1), (45, .i (v.p + v.q))]
noncomputable abbrev y56evD := EvD Tryz.prog eK2 (List.range 600) 300 60
def y56M0 (v : PyV) : Mem := [.c [.w 1, .i (562 - v.p - v.q)],
  (czy1b2 v)]
noncomputable abbrev y56C1 : Code := bodyOf Tryz.f93
def y56T1 (v : PyV) : Fr := Fr.mk [.r 0 0, .i 1, .i (v.p + v.q), .z, .z, .z, .i (60 - v.q), .u (.b true), .t [.i (60 - v.q), .u (.b true)], .r 0 0, .r 0 0, .r 0 0, .i 1, .a [.i 1, .i 0, .i 0, .i 0], .t [.i (60 - v.q), .u (.b true)], .i (60 - v.q), .u (.b true)] 17 34
noncomputable abbrev y56C3 : Code := cL (dropK 1 y56C1)
def y56T2 (v : PyV) : Fr := puF (y56T1 v) [(17, .r 0 0), (18, .r 0 0), (19, .r 0 0), (20, .i 1), (22, .i (60 - v.q)), (23, .i (v.p + v.q))]
def y56T3 (v : PyV) : Fr := puF (y56T2 v) [(21, .a [.i 1, .i 0, .i 0, .i 0]), (24, .i (60 + v.p)), (25, .u (.b false))]
def y56M4 (v : PyV) : Mem := [.c [.w 3, .i (562 - v.p - v.q)],
  (czy1b2 v),
  .c [.i 1, .i 0, .i 0, .i 0],
  (czy1b3 v)]
theorem y56n1 (v : PyV) (H : PyB v) : y56evD (cOp y56C3) (0, [8, 4, 7, 6, 5, 3, 2, 1, 0], [], (y56T3 v), (y56M4 v)) [((y56T3 v), (y56M4 v))] := EvD.codeA
theorem y56n2 (v : PyV) (H : PyB v) : y56evD (cOp y56C3) (2, [7, 6, 5, 3, 2, 1, 0], cond (pureOp (opAt (cOp y56C3) 7)) [] ((7, srcF (y56T2 v) (opAt (cOp y56C3) 7)) :: []), (cPut (opAt (cOp y56C3) 7).dst).p (y56T2 v) (.i (60 + v.p)), (y56M0 v)) [((y56T3 v), (y56M4 v))] := EvD.stepsA (j := 2) (y56n1 v H)
theorem y56n3 (v : PyV) (H : PyB v) : y56evD (cOp y56C3) (3, [6, 5, 3, 2, 1, 0], [], (y56T2 v), (y56M0 v)) [((y56T3 v), (y56M4 v))] := EvD.op (t2 := (y56T2 v)) (v := .i (60 + v.p)) 7 (by kernel_rfl) (by kernel_rfl) (by kernel_rfl) (symI1 (a := wrapF .i64 (addF (60 - v.q) (v.p + v.q))) (z := (60 + v.p)) (by kernel_rfl) (sAdd (by have := H.b; omega))) (y56n2 v H)
def y56M6 (v : PyV) : Mem := [.c [.w 2, .i (562 - v.p - v.q)],
  (czy1b2 v),
  (czy1b3 v)]
def y56T7 (v : PyV) : Fr := puF (y56T3 v) [(26, .r 0 0), (27, .r 0 0), (28, .r 0 1), (29, .i (562 - v.p - v.q)), (30, .i (v.p + v.q))]
def y56T8 (v : PyV) : Fr := puF (y56T7 v) [(31, .i 562), (32, .r 0 0), (33, .r 0 1)]
def y56M9 (v : PyV) : Mem := paM (y56M6 v) [(0, .c [.w 2, .i 562])] []
abbrev y56Mm (v : PyV) : Mem := (y56M9 v)
theorem y56_run (v : PyV) (H : PyB v) : PRun Tryz.prog 93 (y56M0 v) [.r 0 0, .i 1, .i (v.p + v.q)] fun x m => x = .t [] ∧ m = (y56Mm v) := Ev.runA eK2 Tryz.func93 (c := y56C1) (r := (.nrm, (y56T8 v), (y56M9 v))) (Ev.piecesA (k := 1) (t1 := y56T1 v) (m1 := y56M0 v) (Ev.seqPA (t1 := y56T3 v) (m1 := y56M6 v) (Ev.regD2 (outs := [((y56T3 v), (y56M4 v))]) (by kernel_rfl) (by kernel_rfl) (by kernel_rfl) (EvD.stepsA (j := 6) (y56n3 v H)) ⟨by kernel_rfl, trivial⟩) (Ev.regA (EvO.opA (t2 := y56T7 v) (m1 := y56M6 v) (v := .i 562) (k := 5) (t1 := (y56T7 v)) (symI (a := wrapF .i64 (addF (562 - v.p - v.q) (v.p + v.q))) (z := 562) (by kernel_rfl) (sAdd (by have := H.b; omega))) EvO.opsA))))
def y53T11 (v : PyV) : Fr := puF (y53T7 v) [(42, .t []), (43, .r 0 0), (44, .i 1), (45, .i (v.p + v.q)), (46, .t [])]
def y53M12 (v : PyV) : Mem := paM (y53M9 v) [(0, .c [.w 4, .i 562])] [(czy1b3 v)]
def y53T13 (v : PyV) : Fr := puF (y53T7 v) [(42, .t []), (43, .r 0 0), (44, .i 1), (45, .i (v.p + v.q)), (46, .t []), (47, .i 0)]
def y53M14 (v : PyV) : Mem := [.c [.w 2, .i 562],
  (czy1b1 v),
  (czy1b3 v)]
abbrev y53Mm (v : PyV) : Mem := (y53M14 v)
theorem y53_run (v : PyV) (H : PyB v) : PRun Tryz.prog 40 (y53M0 v) [.r 0 0, .i 2097153, .i 1, .i (v.p + v.q)] fun x m => x = .i 0 ∧ m = (y53Mm v) := Ev.runA eK2 Tryz.func40 (c := (bodyOf Tryz.f40)) (r := (.ret, (y53T13 v), (y53M12 v))) (Ev.piecesA (k := 2) (t1 := y53T1 v) (m1 := y53M2 v) (Ev.seqPA (t1 := y53T4 v) (m1 := y53M2 v) (Ev.regA (EvO.callA (t2 := y53T3 v) (m1 := y53M2 v) (ix := [0, 1]) (k := 3) (t1 := (y53T3 v)) (args := [.r 0 0, .i 2097153, .i (v.p + v.q)]) (a := []) (cc := []) (y54_run v H) EvO.opsA)) (Ev.seqPA (t1 := y53T11 v) (m1 := y53M12 v) (Ev.piecesA (k := 1) (t1 := y53T5 v) (m1 := y53M2 v) (Ev.condT (by kernel_rfl) (by kernel_rfl) (Ev.seqPA (t1 := y53T8 v) (m1 := y53M9 v) (Ev.regA (EvO.opA (t2 := y53T6 v) (m1 := y53M2 v) (v := .i (0 - v.p - v.q)) (k := 3) (t1 := (y53T6 v)) (symI (a := IntKind.wrap .i64 (0 - (v.p + v.q))) (z := (0 - v.p - v.q)) (by kernel_rfl) (sNeg (by have := H.b; omega))) (EvO.callA (t2 := y53T7 v) (m1 := y53M2 v) (ix := [0, 1]) (k := 0) (t1 := (y53T7 v)) (args := [.r 0 0, .i 2097153, .i (0 - v.p - v.q)]) (a := []) (cc := []) (y55_run v H) EvO.opsA))) (Ev.regA (EvO.callA (t2 := y53T10 v) (m1 := y53M9 v) (ix := [0, 3]) (k := 3) (t1 := (y53T10 v)) (args := [.r 0 0, .i 1, .i (v.p + v.q)]) (a := []) (cc := []) (y56_run v H) EvO.opsA))))) Ev.codeA)))
def y52T27 (v : PyV) : Fr := puF (y52T25 v) [(85, .r 0 0), (86, .i 2097153), (87, .r 4 1), (88, .i 1), (89, .r 4 2), (90, .i (v.p + v.q)), (91, .i 0)]
def y52M28 (v : PyV) : Mem := paM (y52M23 v) [(0, .c [.w 5, .i 562])] [(czy1b3 v)]
def y52T29 (v : PyV) : Fr := puF (y52T25 v) [(78, .i 1), (85, .r 0 0), (86, .i 2097153), (87, .r 4 1), (88, .i 1), (89, .r 4 2), (90, .i (v.p + v.q)), (91, .i 0), (92, .i 1)]
theorem y52n41 (v : PyV) (H : PyB v) : y52ev y52C28 (y52T20 v) (y52M19 v) [(.nrm, (y52T29 v), (y52M28 v))] := Ev.piecesA (k := 2) (t1 := y52T21 v) (m1 := y52M19 v) (Ev.seqPA (t1 := y52T27 v) (m1 := y52M28 v) (Ev.blockP (e := .nrm) (by kernel_rfl) (by kernel_rfl) (Ev.piecesA (k := 1) (t1 := y52T22 v) (m1 := y52M23 v) (Ev.seqPA (t1 := y52T25 v) (m1 := y52M23 v) (Ev.regA (EvO.opA (t2 := y52T24 v) (m1 := y52M23 v) (v := .u (.b true)) (k := 2) (t1 := (y52T24 v)) (symE (b := ltF 0 (v.p + v.q)) (by kernel_rfl) (sLtT (by have := H.b; omega))) EvO.opsA)) (Ev.condT (by kernel_rfl) (by kernel_rfl) (Ev.regA (EvO.callA (t2 := y52T26 v) (m1 := y52M23 v) (ix := [0, 1]) (k := 6) (t1 := (y52T26 v)) (args := [.r 0 0, .i 2097153, .i 1, .i (v.p + v.q)]) (a := []) (cc := []) (y53_run v H) EvO.opsA)))))) Ev.codeA)
def y52T30 (v : PyV) : Fr := puF (y52T25 v) [(78, .i 1), (79, .u (.b false)), (85, .r 0 0), (86, .i 2097153), (87, .r 4 1), (88, .i 1), (89, .r 4 2), (90, .i (v.p + v.q)), (91, .i 0), (92, .i 1)]
def y52T31 (v : PyV) : Fr := puF (y52T25 v) [(78, .i 1), (79, .u (.b false)), (85, .r 0 0), (86, .i 2097153), (87, .r 4 1), (88, .i 1), (89, .r 4 2), (90, .i (v.p + v.q)), (91, .i 0), (92, .i 1)]
theorem y52n45 (v : PyV) (H : PyB v) : y52ev y52C28 (y52T29 v) (y52M28 v) [((.ext 4), (y52T31 v), (y52M28 v))] := Ev.seqPA (t1 := y52T30 v) (m1 := y52M28 v) Ev.codeA (Ev.seqE (by intro h; cases h) (by kernel_rfl) Ev.codeA)
theorem y52n46 (v : PyV) (H : PyB v) : y52evL 4 y52C28 299 (y52T29 v) (y52M28 v) [((.ext 4), (y52T31 v), (y52M28 v))] := EvL.last (by intro h; cases h) (y52n45 v H)
theorem y52n47 (v : PyV) (H : PyB v) : y52evL 4 y52C28 300 (y52T20 v) (y52M19 v) [((.ext 4), (y52T31 v), (y52M28 v))] := EvL.round (t2 := (y52T29 v)) (m2 := (y52M28 v)) (y52n41 v H) (by kernel_rfl) (y52n46 v H)
def y52T32 (v : PyV) : Fr := puF (y52T25 v) [(78, .i 1), (79, .u (.b false)), (85, .r 0 0), (86, .i 2097153), (87, .r 4 1), (88, .i 1), (89, .r 4 2), (90, .i (v.p + v.q)), (91, .i 0), (92, .i 1)]
def y52M33 (v : PyV) : Mem := [.c [.w 2, .i 562],
  (czy1b1 v),
  (czy1b3 v)]
abbrev y52Mm (v : PyV) : Mem := (y52M33 v)
theorem y52_run (v : PyV) (H : PyB v) : PRun Tryz.prog 111 (y52M0 v) [.r 0 0, .i 1, .u (.l 3 [[.n 0, .n 1, .n (v.p + v.q)]])] fun x m => x = .i 0 ∧ m = (y52Mm v) := Ev.runA eK2 Tryz.func111 (c := y52C1) (r := (.ret, (y52T32 v), (y52M28 v))) (Ev.piecesA (k := 4) (t1 := y52T1 v) (m1 := y52M0 v) (Ev.seqPA (t1 := y52T14 v) (m1 := y52M5 v) (Ev.piecesA (k := 1) (t1 := y52T2 v) (m1 := y52M0 v) (Ev.blockP (e := .ext 0) (by kernel_rfl) (by kernel_rfl) (Ev.loopP (n0 := 2) (by kernel_rfl) (by kernel_rfl) (y52n21 v H)))) (Ev.seqPA (t1 := y52T17 v) (m1 := y52M5 v) (Ev.seqPA (t1 := y52T16 v) (m1 := y52M5 v) (Ev.regA EvO.opsA) Ev.codeA) (Ev.piecesA (k := 1) (t1 := y52T18 v) (m1 := y52M19 v) (Ev.seqPA (t1 := y52T31 v) (m1 := y52M28 v) (Ev.piecesA (k := 1) (t1 := y52T20 v) (m1 := y52M19 v) (Ev.blockP (e := .ext 4) (by kernel_rfl) (by kernel_rfl) (Ev.loopP (n0 := 4) (by kernel_rfl) (by kernel_rfl) (y52n47 v H)))) Ev.codeA)))))
def y46T7 (v : PyV) : Fr := puF (y46T6 v) [(28, .i 0)]
def y46M8 (v : PyV) : Mem := paM (y46M2 v) [(3, .c [.w 15, .i 562])] [(czy1b3 v)]
theorem y46n4 (v : PyV) (H : PyB v) : y46evD (cOp y46C7) (0, [8, 7, 6, 5, 4, 3, 2, 1, 0], [(6, [13]), (3, [0]), (0, [12])], (y46T7 v), (y46M8 v)) [((y46T7 v), (y46M8 v))] := EvD.codeA
theorem y46n5 (v : PyV) (H : PyB v) : y46evD (cOp y46C7) (0, [8, 7, 6, 5, 4, 3, 2, 1, 0], [(6, [13]), (3, [0]), (0, [12])], (cPut (opAt (cOp y46C7) 8).dst).p (y46T6 v) (renV (fK [3, 8] ((y46M2 v)).length) (.i 0)), backM (y46M2 v) [3, 8] ((y52Mm v))) [((y46T7 v), (y46M8 v))] := EvD.stepsA (j := 0) (y46n4 v H)
theorem y46n6 (v : PyV) (H : PyB v) : y46evD (cOp y46C7) (1, [7, 6, 5, 4, 3, 2, 1, 0], [(6, [13]), (3, [0]), (0, [12])], (y46T6 v), (y46M2 v)) [((y46T7 v), (y46M8 v))] := EvD.oneA 8 (EvE.callA (args := [.r 3 0, .i 1, .u (.l 3 [[.n 0, .n 1, .n (v.p + v.q)]])]) (a := []) (cc := []) 8 (y52_run v H) (y46n5 v H))
def y46T9 (v : PyV) : Fr := puF (y46T6 v) [(28, .i 0)]
def y46T10 (v : PyV) : Fr := puF (y46T6 v) [(28, .i 0), (29, .r 0 0), (30, .r 0 0), (31, .r 0 12), (32, .w 7), (33, .r 13 0), (34, .r 13 0), (35, .i 1), (36, .i 0), (37, (czy1b7 v)), (38, .e 7 19 0 0), (39, .r 0 0), (40, .r 13 0), (41, .r 13 0), (42, .i 1), (43, .f 112 [] [.r 12 0]), (44, .t []), (45, .r 0 0), (46, .r 0 0), (47, .r 0 11), (48, .r 6 0), (49, .r 13 20), (50, .i 1), (51, .r 13 0), (52, .r 13 0), (53, .i 1), (54, .r 13 19), (55, .i 3), (56, .a [.i 1, .i 2, .i 1, .i 3]), (57, .i 0)]
def y46M11 (v : PyV) : Mem := paM (y46M8 v) [(5, .c [.v 10 3 0 0 false, .m 11, .i 256, .i 3]), (6, .c [.w 16, .m 17]), (7, (czy1b5 v)), (11, .p .n 1 false [])] [.w 54 4 [[.n 1, .n 2, .n 1, .n 3]],
  .p (.a 2) 1 false [(.a [2, 1], [.n 0])]]
def y46M12 (v : PyV) : Mem := paM (y46M0 v) [(3, .c [.w 12, .i 562]), (5, .c [.v 10 3 0 0 false, .m 11, .i 256, .i 3]), (6, .c [.w 13, .m 14]), (7, (czy1b5 v)), (11, .p .n 1 false [])] [(czy1b3 v),
  .w 54 4 [[.n 1, .n 2, .n 1, .n 3]],
  .p (.a 2) 1 false [(.a [2, 1], [.n 0])]]
abbrev y46Mm (v : PyV) : Mem := (y46M12 v)
theorem y46_run (v : PyV) (H : PyB v) : PRun Tryz.prog 55 (y46M0 v) [.r 0 0, (czy1b4 v), (czy1b7 v)] fun x m => x = .t [] ∧ m = (y46Mm v) := Ev.runA eK2 Tryz.func55 (c := y46C1) (r := (.nrm, (y46T10 v), (y46M11 v))) (Ev.piecesA (k := 1) (t1 := y46T1 v) (m1 := y46M2 v) (Ev.seqPA (t1 := y46T9 v) (m1 := y46M8 v) (Ev.seqPA (t1 := y46T4 v) (m1 := y46M2 v) (Ev.regA (EvO.callA (t2 := y46T3 v) (m1 := y46M2 v) (ix := []) (k := 6) (t1 := (y46T3 v)) (args := [(czy1b6 v), .i 3, .i 0]) (a := []) (cc := []) (y47_run v H) EvO.opsA)) (Ev.piecesA (k := 1) (t1 := y46T5 v) (m1 := y46M2 v) (Ev.condT (by kernel_rfl) (by kernel_rfl) (Ev.regD2 (outs := [((y46T7 v), (y46M8 v))]) (by kernel_rfl) (by kernel_rfl) (by kernel_rfl) (EvD.stepsA (j := 8) (y46n6 v H)) ⟨by kernel_rfl, trivial⟩)))) Ev.codeA))
def y41T12 (v : PyV) : Fr := puF (y41T11 v) [(100, .t [])]
def y41M13 (v : PyV) : Mem := paM (y41M10 v) [(3, .c [.w 19, .i 562]), (5, .c [.v 10 3 0 0 false, .m 11, .i 256, .i 3]), (6, .c [.w 20, .m 21]), (7, (czy1b5 v)), (11, .p .n 1 false [])] [(czy1b3 v),
  .w 54 4 [[.n 1, .n 2, .n 1, .n 3]],
  .p (.a 2) 1 false [(.a [2, 1], [.n 0])]]
def y41T14 (v : PyV) : Fr := puF (y41T11 v) [(100, .t [])]
def y41M15 (v : PyV) : Mem := [.c [.i 4, .w 1, .i 2, .w 2, .i 3, .i 200, .i 1, .i 500, .r 3 0, .r 4 0, .r 5 0, .r 6 0, .w 7],
  czy1b8,
  czy1b11,
  .c [.w 12, .i 562],
  .c [.w 13, czy1b10],
  .c [.v 10 3 0 0 false, .m 11, .i 256, .i 3],
  .c [.w 14, .m 15],
  (czy1b5 v),
  (czy1b1 v),
  .w 191 5 [[.n 1, .n 0, .n 1, .n 1, .n 60], [.n 1, .n 0, .n 1, .n 2, .n 40], [.n 1, .n 0, .n 1, .n 3, .n 20], [.n 2, .n 0, .n 1, .n 1, .n 55], [.n 2, .n 0, .n 1, .n 2, .n 40], [.n 2, .n 0, .n 1, .n 3, .n 20], [.n 2097153, .n 0, .n 1, .n 1, .n 5]],
  .w 136 3 [[.n 20, .n 2, .n 3]],
  .p .n 1 false [],
  (czy1b3 v),
  czy1b0,
  .w 54 4 [[.n 1, .n 2, .n 1, .n 3]],
  .p (.a 2) 1 false [(.a [2, 1], [.n 0])]]
abbrev y41Mm (v : PyV) : Mem := (y41M15 v)
theorem y41_run (v : PyV) (H : PyB v) : PRun Tryz.prog 13 (y41M0 v) [.r 0 0, .i 1, .i 1, .i 3] fun x m => x = .i 0 ∧ m = (y41Mm v) := Ev.runA eK2 Tryz.func13 (c := y41C1) (r := (.ret, (y41T14 v), (y41M13 v))) (Ev.piecesA (k := 1) (t1 := y41T1 v) (m1 := y41M0 v) (Ev.seqPA (y41n3 v H) (Ev.piecesA (k := 1) (t1 := y41T5 v) (m1 := y41M4 v) (Ev.seqPA (y41n6 v H) (Ev.piecesA (k := 5) (t1 := y41T9 v) (m1 := y41M10 v) (Ev.seqPA (t1 := y41T12 v) (m1 := y41M13 v) (Ev.regA (EvO.callA (t2 := y41T11 v) (m1 := y41M10 v) (ix := [0, 1, 2, 3, 4, 5, 6, 7, 8, 18, 10, 11]) (k := 6) (t1 := (y41T11 v)) (args := [.r 0 0, (czy1b4 v), (czy1b7 v)]) (a := []) (cc := []) (y46_run v H) EvO.opsA)) Ev.codeA))))))
def pyA0T35 (v : PyV) : Fr := puF (pyA0T25 v) [(83, .i (500 - v.p)), (84, .r 19 12), (85, .i v.f), (86, .i (500 - v.p - v.f)), (87, .u (.b false)), (88, .u (.b false)), (89, .i 60), (90, .u (.b false)), (91, .u (.b false)), (92, .i v.e), (93, .i 0), (108, .u (.b true)), (109, .u (.b true)), (110, .r 10 0), (111, .r 0 0), (112, .i 1), (113, .i 0), (114, .u (.b false))]
def pyA0M36 (v : PyV) : Mem := paM (pyA0M24 v) [(3, .c [.w 20, .i 562]), (5, .c [.w 21, czy1b10]), (7, .c [.v 18 3 0 0 false, .m 8, .i 256, .i 3]), (8, .p .n 1 false []), (9, .c [.w 22, .m 23]), (13, (czy1b5 v))] [(czy1b3 v),
  czy1b0,
  .w 54 4 [[.n 1, .n 2, .n 1, .n 3]],
  .p (.a 2) 1 false [(.a [2, 1], [.n 0])]]
def pyA0T37 (v : PyV) : Fr := puF (pyA0T25 v) [(83, .i (500 - v.p)), (84, .r 19 12), (85, .i v.f), (86, .i (500 - v.p - v.f)), (87, .u (.b false)), (88, .u (.b false)), (89, .i 60), (90, .u (.b false)), (91, .u (.b false)), (92, .i v.e), (93, .i 0), (108, .u (.b true)), (109, .u (.b true)), (110, .r 10 0), (111, .r 0 0), (112, .i 1), (113, .i 0), (114, .u (.b false))]
def pyA0T38 (v : PyV) : Fr := puF (pyA0T25 v) [(83, .i (500 - v.p)), (84, .r 19 12), (85, .i v.f), (86, .i (500 - v.p - v.f)), (87, .u (.b false)), (88, .u (.b false)), (89, .i 60), (90, .u (.b false)), (91, .u (.b false)), (92, .i v.e), (93, .i 0), (108, .u (.b true)), (109, .u (.b true)), (110, .r 10 0), (111, .r 0 0), (112, .i 1), (113, .i 0), (114, .u (.b false)), (115, .i 60), (116, .r 12 8), (117, .i v.p)]
def pyA0T39 (v : PyV) : Fr := puF (pyA0T25 v) [(14, .i (60 + v.p)), (83, .i (500 - v.p)), (84, .r 19 12), (85, .i v.f), (86, .i (500 - v.p - v.f)), (87, .u (.b false)), (88, .u (.b false)), (89, .i 60), (90, .u (.b false)), (91, .u (.b false)), (92, .i v.e), (93, .i 0), (108, .u (.b true)), (109, .u (.b true)), (110, .r 10 0), (111, .r 0 0), (112, .i 1), (113, .i 0), (114, .u (.b false)), (115, .i 60), (116, .r 12 8), (117, .i v.p), (118, .i (60 + v.p))]
theorem pyA0n46 (v : PyV) (H : PyH v 0 false) : pyA0ev pyA0C23 (pyA0T29 v) (pyA0M24 v) [(.nrm, (pyA0T39 v), (pyA0M36 v))] := Ev.seqPA (pyA0n31 v H) (Ev.blockP (e := .nrm) (by kernel_rfl) (by kernel_rfl) (Ev.seqPA (pyA0n33 v H) (Ev.condT (by kernel_rfl) (by kernel_rfl) (Ev.seqPA (t1 := pyA0T37 v) (m1 := pyA0M36 v) (Ev.seqPA (t1 := pyA0T35 v) (m1 := pyA0M36 v) (Ev.regA (EvO.callA (t2 := pyA0T34 v) (m1 := pyA0M24 v) (ix := [0, 1, 2, 3, 5, 7, 9, 13, 17, 15, 18, 8]) (k := 3) (t1 := (pyA0T34 v)) (args := [.r 0 0, .i 1, .i 1, .i 3]) (a := []) (cc := []) (y41_run v H.toB) EvO.opsA)) Ev.codeA) (Ev.regA (EvO.opA (t2 := pyA0T38 v) (m1 := pyA0M36 v) (v := .i (60 + v.p)) (k := 3) (t1 := (pyA0T38 v)) (symI (a := wrapF .i64 (addF 60 v.p)) (z := (60 + v.p)) (by kernel_rfl) (sAdd (by have := H.toB.b; omega))) EvO.opsA))))))
def pyA0T40 (v : PyV) : Fr := puF (pyA0T25 v) [(14, .i (60 + v.p)), (18, .i (500 - v.p - v.f)), (19, .i 0), (20, .i (60 + v.p)), (21, .i 0), (83, .i (500 - v.p)), (84, .r 19 12), (85, .i v.f), (86, .i (500 - v.p - v.f)), (87, .u (.b false)), (88, .u (.b false)), (89, .i 60), (90, .u (.b false)), (91, .u (.b false)), (92, .i v.e), (93, .i 0), (108, .u (.b true)), (109, .u (.b true)), (110, .r 10 0), (111, .r 0 0), (112, .i 1), (113, .i 0), (114, .u (.b false)), (115, .i 60), (116, .r 12 8), (117, .i v.p), (118, .i (60 + v.p)), (137, .t [.i (500 - v.p - v.f), .i 0]), (138, .r 10 1), (139, .r 3 0), (140, .t [.i (500 - v.p - v.f), .i 0]), (141, .i (500 - v.p - v.f)), (142, .i 0), (143, .t [.i (60 + v.p), .i 0]), (144, .r 10 1), (145, .r 3 0), (146, .t [.i (60 + v.p), .i 0]), (147, .i (60 + v.p)), (148, .i 0)]
def pyA0T41 (v : PyV) : Fr := Fr.mk [.u (.i .u8 v.p), .u (.i .u8 v.r), .i v.e, .z, .z, .z, .u (.b false), .r 10 0, .u (.b true), .r 12 0, .i 1, .i 0, .i (500 - v.p - v.f), .i 0, .i (60 + v.p), .i 0, .r 19 0, .i 0, .i (500 - v.p - v.f), .i 0, .i (60 + v.p), .i 0, .z, .t [.a [.r 0 0, .r 3 0, .r 5 0, .r 7 0, .r 9 0], .u (.b true)], .t [.a [.r 0 0, .r 3 0, .r 5 0, .r 7 0, .r 9 0], .u (.b true)], .a [.r 0 0, .r 3 0, .r 5 0, .r 7 0, .r 9 0], .u (.b true), .u (.b true), .u (.b false), .a [.i 0, .i 1, .i 2, .i 0, .i 2, .i 0, .i 1, .i 2, .i 100, .i 50, .i 10, .i 20, .i 0, .w 11, .nl 2, .i 0, .i 0, .i 0, .i 0], .u (.i .u8 v.p), .i v.p, .r 12 8, .u (.i .u8 v.r), .i v.r, .i v.q, .r 12 9, .t [.i 1, .i 0], .r 10 0, .r 0 0, .a [.i 0, .i 1, .i 2, .i 0, .i 2, .i 0, .i 1, .i 2, .i v.p, .i v.q, .i 10, .i 20, .i 0, .w 11, .nl 2, .i 0, .i 0, .i 0, .i 0], .t [.i 1, .i 0], .i 1, .i 0, .t [.i (500 - v.p - v.f), .i 0], .r 10 1, .r 3 0, .t [.i (500 - v.p - v.f), .i 0], .i (500 - v.p - v.f), .i 0, .t [.i 60, .i 0], .r 10 1, .r 3 0, .t [.i 60, .i 0], .i 60, .i 0, .i 0, .u (.b false), .u (.b false), .i 0, .u (.b false), .u (.b false), .u (.b false), .i 0, .u (.b false), .u (.b false), .u (.b false), .r 10 0, .r 0 0, .i 1, .i 0, .u (.b false), .u (.b false), .t [(czy1b6 v), .i 0], .r 10 0, .r 0 0, .i 1, .t [(czy1b6 v), .i 0], (czy1b6 v), .i 0, .i (500 - v.p - v.f), .r 12 8, .i v.p, .i (500 - v.p), .r 19 12, .i v.f, .i (500 - v.p - v.f), .u (.b false), .u (.b false), .i 60, .u (.b false), .u (.b false), .i v.e, .i 0, .z, .z, .z, .z, .z, .z, .z, .z, .z, .z, .z, .z, .z, .z, .u (.b true), .u (.b true), .r 10 0, .r 0 0, .i 1, .i 0, .u (.b false), .i 60, .r 12 8, .i v.p, .i (60 + v.p), .z, .z, .z, .z, .z, .z, .z, .z, .z, .z, .z, .z, .z, .z, .z, .z, .z, .z, .t [.i (500 - v.p - v.f), .i 0], .r 10 1, .r 3 0, .t [.i (500 - v.p - v.f), .i 0], .i (500 - v.p - v.f), .i 0, .t [.i (60 + v.p), .i 0], .r 10 1, .r 3 0, .t [.i (60 + v.p), .i 0], .i (60 + v.p), .i 0, .r 10 0, .r 0 0, .i 1] 24 176
def y57T0 (v : PyV) : Fr := frameF Tryz.prog Tryz.f13 [.r 0 0, .i 30, .i 1, .i 4]
def y57M0 (v : PyV) : Mem := [.c [.i 4, .w 1, .i 2, .w 2, .i 3, .i 200, .i 1, .i 500, .r 3 0, .r 4 0, .r 5 0, .r 6 0, .w 7],
  czy1b8,
  czy1b11,
  .c [.w 8, .i 562],
  .c [.w 9, czy1b10],
  .c [.v 10 3 0 0 false, .m 11, .i 256, .i 3],
  .c [.w 12, .m 13],
  (czy1b5 v),
  (czy1b3 v),
  czy1b0,
  .w 136 3 [[.n 20, .n 2, .n 3]],
  .p .n 1 false [],
  .w 54 4 [[.n 1, .n 2, .n 1, .n 3]],
  .p (.a 2) 1 false [(.a [2, 1], [.n 0])]]
def y57T1 (v : PyV) : Fr := puF (y57T0 v) [(8, .i 0)]
def y57T2 (v : PyV) : Fr := puF (y41T2 v) [(1, .i 30), (3, .i 4)]
noncomputable abbrev y58evD := EvD Tryz.prog eK3 (List.range 600) 300 60
def y58M0 (v : PyV) : Mem := [.c [.i 4, .w 1, .i 2, .w 2, .i 3, .i 200, .i 1, .i 500, .r 3 0, .r 4 0, .r 5 0, .r 6 0, .w 7],
  czy1b8,
  czy1b11,
  .c [.w 8, .i 562],
  .c [.w 9, czy1b10],
  .c [.v 10 3 0 0 false, .m 11, .i 256, .i 3],
  .c [.w 12, .m 13],
  (czy1b5 v),
  (czy1b3 v),
  czy1b0,
  .w 136 3 [[.n 20, .n 2, .n 3]],
  .p .n 1 false [],
  .w 54 4 [[.n 1, .n 2, .n 1, .n 3]],
  .p (.a 2) 1 false [(.a [2, 1], [.n 0])]]
noncomputable abbrev y58C1 : Code := bodyOf Tryz.f12
def y58T1 (v : PyV) : Fr := puF (y40T1 v) [(4, .r 14 0), (6, .r 15 0), (32, .a [.i 1, .i 1, .i 2, .i 0, .i 2, .i 0, .i 1, .i 2, .i v.p, .i v.q, .i 10, .i 20, .i v.f, .u (.l 2 [[.n 1, .n 5]]), .u (.l 2 []), .i 3, .i 0, .i 1, .i 0])]
def y58M2 (v : PyV) : Mem := paM (y58M0 v) [] [.c [.i 0, .i 0, .i 0, .i 0, .i 0, .i 0, .i 0, .i 0, .i 0, .i 0, .i 0, .i 0, .i 0, .nl 2, .nl 2, .i 0, .i 0, .i 0, .i 0],
  .c [.i 1, .i 1, .i 2, .i 0, .i 2, .i 0, .i 1, .i 2, .i v.p, .i v.q, .i 10, .i 20, .i v.f, .u (.l 2 [[.n 1, .n 5]]), .u (.l 2 []), .i 3, .i 0, .i 1, .i 0]]
noncomputable abbrev y58C3 : Code := cL (dropK 3 y58C1)
def y58T3 (v : PyV) : Fr := puF (y58T1 v) [(33, .r 15 13), (34, .u (.l 2 [[.n 1, .n 5]])), (36, .r 15 14), (37, .u (.l 2 []))]
def y58T4 (v : PyV) : Fr := puF (y58T3 v) [(35, .u (.l 2 [[.n 1, .n 5]])), (39, .r 15 13)]
def y58T5 (v : PyV) : Fr := puF (y58T4 v) [(38, .c 2 []), (40, .r 15 14)]
def y58M6 (v : PyV) : Mem := paM (y58M2 v) [(15, .c [.i 1, .i 1, .i 2, .i 0, .i 2, .i 0, .i 1, .i 2, .i v.p, .i v.q, .i 10, .i 20, .i v.f, .u (.l 2 [[.n 1, .n 5]]), .c 2 [], .i 3, .i 0, .i 1, .i 0])] []
theorem y58n1 (v : PyV) (H : PyB v) : y58evD (cOp y58C3) (0, [9, 8, 7, 5, 6, 2, 4, 3, 1, 0], [(4, [15]), (1, [15])], (y58T5 v), (y58M6 v)) [((y58T5 v), (y58M6 v))] := EvD.codeA
theorem y58n2 (v : PyV) (H : PyB v) : y58evD (cOp y58C3) (3, [5, 6, 2, 4, 3, 1, 0], [(4, [15]), (1, [15])], (cPut (opAt (cOp y58C3) 5).dst).p (y58T4 v) (renV (fK [] ((y58M2 v)).length) (.c 2 [])), backM (y58M2 v) [] ([])) [((y58T5 v), (y58M6 v))] := EvD.stepsA (j := 3) (y58n1 v H)
theorem y58n3 (v : PyV) (H : PyB v) : y58evD (cOp y58C3) (4, [6, 2, 4, 3, 1, 0], [(4, [15]), (1, [15])], (y58T4 v), (y58M2 v)) [((y58T5 v), (y58M6 v))] := EvD.oneA 5 (EvE.callA (args := [.u (.l 2 [])]) (a := []) (cc := []) 5 clone0 (y58n2 v H))
theorem y58n4 (v : PyV) (H : PyB v) : y58evD (cOp y58C3) (5, [2, 4, 3, 1, 0], [(4, [15]), (1, [15])], (cPut (opAt (cOp y58C3) 2).dst).p (y58T3 v) (renV (fK [] ((y58M2 v)).length) (.u (.l 2 [[.n 1, .n 5]]))), backM (y58M2 v) [] ([])) [((y58T5 v), (y58M6 v))] := EvD.stepsA (j := 1) (y58n3 v H)
theorem y58n5 (v : PyV) (H : PyB v) : y58evD (cOp y58C3) (6, [4, 3, 1, 0], [(4, [15]), (1, [15])], (y58T3 v), (y58M2 v)) [((y58T5 v), (y58M6 v))] := EvD.oneA 2 (EvE.callA (args := [.u (.l 2 [[.n 1, .n 5]])]) (a := []) (cc := []) 2 clone1 (y58n4 v H))
def y58T8 (v : PyV) : Fr := puF (y58T5 v) [(41, (czy1b7 v))]
def y58M9 (v : PyV) : Mem := paM (y58M6 v) [(14, .c [.i 1, .i 1, .i 2, .i 0, .i 2, .i 0, .i 1, .i 2, .i v.p, .i v.q, .i 10, .i 20, .i v.f, .u (.l 2 [[.n 1, .n 5]]), .c 2 [], .i 3, .i 0, .i 1, .i 0])] []
abbrev y58Mm (v : PyV) : Mem := (y58M0 v)
theorem y58_run (v : PyV) (H : PyB v) : PRun Tryz.prog 12 (y58M0 v) [.r 0 0, .i 1] fun x m => x = .t [(czy1b7 v), .i 0] ∧ m = (y58Mm v) := Ev.runA eK3 Tryz.func12 (c := y58C1) (r := (.ret, (y58T8 v), (y58M9 v))) (Ev.piecesA (k := 3) (t1 := y58T1 v) (m1 := y58M2 v) (Ev.seqPA (t1 := y58T5 v) (m1 := y58M6 v) (Ev.regD2 (outs := [((y58T5 v), (y58M6 v))]) (by kernel_rfl) (by kernel_rfl) (by kernel_rfl) (EvD.stepsA (j := 4) (y58n5 v H)) ⟨by kernel_rfl, trivial⟩) Ev.codeA))
def y57T3 (v : PyV) : Fr := Fr.mk [.r 0 0, .i 30, .i 1, .i 4, .z, .z, .z, .z, .i 0, .r 14 0, .i 0, .z, .z, .z, .z, .z, .z, .t [(czy1b7 v), .i 0], .r 0 0, .i 1, .t [(czy1b7 v), .i 0], (czy1b7 v), .i 0] 78 101
def y57M4 (v : PyV) : Mem := paM (y57M0 v) [] [.c [.i 1, .i 1, .i 2, .i 0, .i 2, .i 0, .i 1, .i 2, .i v.p, .i v.q, .i 10, .i 20, .i v.f, .u (.l 2 [[.n 1, .n 5]]), .c 2 [], .i 3, .i 0, .i 1, .i 0]]
def y57T5 (v : PyV) : Fr := puF (y57T3 v) [(23, .u (.b false)), (24, .i 0), (25, .u (.b false)), (27, .u (.b false)), (28, .i 30), (29, .u (.b false)), (30, .u (.b false)), (31, .i 30), (32, .u (.b false)), (33, .u (.b false))]
def y57T6 (v : PyV) : Fr := puF (y57T5 v) [(35, (czy1b7 v)), (36, .i 4)]
def y59T0 (v : PyV) : Fr := frameF Tryz.prog Tryz.f57 [(czy1b7 v), .i 4]
def y59M0 (v : PyV) : Mem := []
def y59T1 (v : PyV) : Fr := puF (y59T0 v) [(2, .r 0 0), (4, .r 1 0), (5, .i 0)]
def y59M2 (v : PyV) : Mem := [.c [.i 1, .i 1, .i 2, .i 0, .i 2, .i 0, .i 1, .i 2, .i v.p, .i v.q, .i 10, .i 20, .i v.f, .u (.l 2 [[.n 1, .n 5]]), .c 2 [], .i 3, .i 0, .i 1, .i 0],
  .c [.i 0, .i 0, .i 0, .i 0, .i 0, .i 0, .i 0, .i 0, .i 0, .i 0, .i 0, .i 0, .i 0, .nl 2, .nl 2, .i 0, .i 0, .i 0, .i 0]]
def y59T3 (v : PyV) : Fr := Fr.mk [(czy1b7 v), .i 4, .r 0 0, .z, .r 1 0, .i 0, .z, (czy1b7 v)] 13 21
noncomputable abbrev y60ev := Ev Tryz.prog eK2 (List.range 600) 300 60 74
def y60T0 (v : PyV) : Fr := frameF Tryz.prog Tryz.f74 [(czy1b7 v)]
def y60M0 (v : PyV) : Mem := []
noncomputable abbrev y60C1 : Code := bodyOf Tryz.f74
def y60T1 (v : PyV) : Fr := puF (y60T0 v) [(1, .r 0 0), (2, .i 0)]
def y60M2 (v : PyV) : Mem := [.c [.i 1, .i 1, .i 2, .i 0, .i 2, .i 0, .i 1, .i 2, .i v.p, .i v.q, .i 10, .i 20, .i v.f, .u (.l 2 [[.n 1, .n 5]]), .c 2 [], .i 3, .i 0, .i 1, .i 0]]
noncomputable abbrev y60C2 : Code := dropK 1 y60C1
def y60T3 (v : PyV) : Fr := puF (y60T1 v) [(7, .r 0 0), (8, .i 1)]
def y60T4 (v : PyV) : Fr := puF (y60T3 v) [(9, .u (.b true)), (10, .u (.b true)), (11, .r 0 2), (12, .i 2)]
def y60T5 (v : PyV) : Fr := puF (y60T4 v) [(13, .u (.b true)), (14, .u (.b true)), (15, .u (.b true)), (16, .r 0 4), (17, .i 2)]
def y60T6 (v : PyV) : Fr := puF (y60T5 v) [(18, .u (.b true)), (19, .u (.b true)), (20, .u (.b true)), (21, .r 0 3), (22, .i 0)]
def y60T7 (v : PyV) : Fr := puF (y60T6 v) [(23, .u (.b true)), (24, .u (.b true)), (25, .u (.b true)), (26, .r 0 5), (27, .i 0)]
def y60T8 (v : PyV) : Fr := puF (y32T8 v) [(0, (czy1b7 v))]
theorem y60n7 (v : PyV) (H : PyB v) : y60ev (cL y60C2) (y60T1 v) (y60M2 v) [(.nrm, (y60T8 v), (y60M2 v))] := Ev.regA (EvO.callA (t2 := y60T3 v) (m1 := y60M2 v) (ix := []) (k := 2) (t1 := (y60T3 v)) (args := [.i 1, .i 1, .i 1099511627776]) (a := []) (cc := []) (y8_run v) (EvO.callA (t2 := y60T4 v) (m1 := y60M2 v) (ix := []) (k := 3) (t1 := (y60T4 v)) (args := [.i 2, .i 1, .i 1099511627776]) (a := []) (cc := []) (y9_run v) (EvO.callA (t2 := y60T5 v) (m1 := y60M2 v) (ix := []) (k := 4) (t1 := (y60T5 v)) (args := [.i 2, .i 1, .i 1099511627776]) (a := []) (cc := []) (y9_run v) (EvO.callA (t2 := y60T6 v) (m1 := y60M2 v) (ix := []) (k := 4) (t1 := (y60T6 v)) (args := [.i 0, .i 0, .i 4]) (a := []) (cc := []) (y10_run v) (EvO.callA (t2 := y60T7 v) (m1 := y60M2 v) (ix := []) (k := 4) (t1 := (y60T7 v)) (args := [.i 0, .i 0, .i 1099511627776]) (a := []) (cc := []) (y5_run v) EvO.opsA)))))
def y60T9 (v : PyV) : Fr := puF (y60T8 v) [(37, .r 0 6), (38, .i 1)]
def y60T10 (v : PyV) : Fr := puF (y60T9 v) [(39, .u (.b true)), (40, .u (.b true)), (41, .r 0 8), (42, .i v.p)]
def y60T11 (v : PyV) : Fr := puF (y60T10 v) [(43, .u (.b true)), (44, .u (.b true)), (45, .u (.b true)), (46, .r 0 12), (47, .i v.f)]
def y60T12 (v : PyV) : Fr := puF (y60T11 v) [(48, .u (.b true)), (49, .u (.b true)), (50, .u (.b true)), (51, .r 0 10), (52, .i 10)]
def y60T13 (v : PyV) : Fr := puF (y60T12 v) [(4, .u (.b true)), (53, .u (.b true)), (54, .u (.b true))]
def y60T14 (v : PyV) : Fr := puF (y43T19 v) [(0, (czy1b7 v)), (65, .z), (66, .z), (67, .z), (68, .z), (69, .z), (70, .z), (71, .z), (72, .z), (73, .z), (74, .z)]
def y60M15 (v : PyV) : Mem := paM (y60M2 v) [] [.c [.i 1, .i 5]]
def y60T16 (v : PyV) : Fr := puF (y60T14 v) [(65, .r 0 1), (66, .i 1)]
def y60T17 (v : PyV) : Fr := puF (y60T16 v) [(67, .u (.b true)), (68, .u (.b true))]
def y60T18 (v : PyV) : Fr := puF (y60T17 v) [(69, .r 0 7), (70, .i 2)]
def y60T19 (v : PyV) : Fr := puF (y60T17 v) [(69, .r 0 7), (70, .i 2), (71, .u (.b true)), (72, .u (.b true)), (73, .r 0 11), (74, .i 20)]
def y60T20 (v : PyV) : Fr := puF (y43T20 v) [(0, (czy1b7 v))]
def y60T21 (v : PyV) : Fr := puF (y32T21 v) [(0, (czy1b7 v))]
def y60T22 (v : PyV) : Fr := puF (y32T22 v) [(0, (czy1b7 v)), (126, (czy1b7 v))]
def y61M0 (v : PyV) : Mem := []
def y61T1 (v : PyV) : Fr := Fr.mk [(czy1b7 v), .r 0 0, .u (.b false), .u (.b true), .u (.b false), .z, .z, .z, .r 0 1, .i 1, .u (.b true), .r 0 17, .i 1, .u (.b false), .u (.b false), .t [], .t [], .t [], .u (.b false)] 71 90
def y61M2 (v : PyV) : Mem := [.c [.i 1, .i 1, .i 2, .i 0, .i 2, .i 0, .i 1, .i 2, .i v.p, .i v.q, .i 10, .i 20, .i v.f, .u (.l 2 [[.n 1, .n 5]]), .c 2 [], .i 3, .i 0, .i 1, .i 0]]
def y61T3 (v : PyV) : Fr := puF (y61T1 v) [(19, .r 0 17), (20, .i 1)]
def y61T4 (v : PyV) : Fr := puF (y44T4 v) [(0, (czy1b7 v))]
def y61T5 (v : PyV) : Fr := puF (y61T4 v) [(5, .u (.b true)), (32, .u (.b true)), (33, .u (.b true))]
def y61T6 (v : PyV) : Fr := puF (y61T5 v) [(34, .r 0 16), (35, .i 0)]
def y62M0 (v : PyV) : Mem := []
def y62T1 (v : PyV) : Fr := puF (y18T1 v) [(2, .i 2199023255552)]
abbrev y62Mm (v : PyV) : Mem := (y62M0 v)
theorem y62_run (v : PyV) : PRun Tryz.prog 101 (y62M0 v) [.i 0, .i 1, .i 2199023255552] fun x m => x = .u (.b false) ∧ m = (y62Mm v) := Ev.runA (speWhole whp) Tryz.func101 (c := (bodyOf Tryz.f101)) (r := (.ret, (y62T1 v), (y62M0 v))) Ev.codeA
def y61T7 (v : PyV) : Fr := puF (y61T6 v) [(6, .u (.b false)), (36, .u (.b false))]
def y61T8 (v : PyV) : Fr := puF (y61T6 v) [(2, .u (.b true)), (6, .u (.b false)), (7, .u (.b true)), (36, .u (.b false)), (37, .r 0 16), (38, .i 0), (39, .u (.b true)), (40, .r 0 15), (41, .i 3), (42, .u (.b false)), (43, .u (.b false)), (48, .u (.b false)), (49, .u (.b false)), (57, .u (.b true)), (58, .u (.b true)), (59, .u (.b true)), (60, .u (.b true)), (61, .u (.b true)), (62, .u (.b true))]
abbrev y61Mm (v : PyV) : Mem := (y61M0 v)
theorem y61_run (v : PyV) (H : PyB v) : PRun Tryz.prog 130 (y61M0 v) [(czy1b7 v)] fun x m => x = .u (.b true) ∧ m = (y61Mm v) := Ev.runA eK2 Tryz.func130 (c := (bodyOf Tryz.f130)) (r := (.ret, (y61T8 v), (y61M2 v))) (Ev.piecesA (k := 3) (t1 := y61T1 v) (m1 := y61M2 v) (Ev.seqPA (t1 := y61T5 v) (m1 := y61M2 v) (Ev.regA (EvO.callA (t2 := y61T3 v) (m1 := y61M2 v) (ix := []) (k := 2) (t1 := (y61T3 v)) (args := [.i 1, .i 1, .i 1099511627776]) (a := []) (cc := []) (y8_run v) (EvO.callA (t2 := y61T4 v) (m1 := y61M2 v) (ix := []) (k := 10) (t1 := (y61T4 v)) (args := [.i 0, .i 0, .i 4]) (a := []) (cc := []) (y10_run v) EvO.opsA))) (Ev.seqPA (t1 := y61T7 v) (m1 := y61M2 v) (Ev.regA (EvO.callA (t2 := y61T6 v) (m1 := y61M2 v) (ix := []) (k := 2) (t1 := (y61T6 v)) (args := [.i 0, .i 1, .i 2199023255552]) (a := []) (cc := []) (y62_run v) EvO.opsA)) Ev.codeA)))
def y60T23 (v : PyV) : Fr := puF (y60T22 v) [(127, .u (.b true)), (128, .u (.b true))]
theorem y60n32 (v : PyV) (H : PyB v) : y60ev y60C2 (y60T1 v) (y60M2 v) [(.ret, (y60T23 v), (y60M15 v))] := Ev.seqPA (y60n7 v H) (Ev.seqPA (t1 := y60T13 v) (m1 := y60M2 v) (Ev.regA (EvO.callA (t2 := y60T9 v) (m1 := y60M2 v) (ix := []) (k := 2) (t1 := (y60T9 v)) (args := [.i 1, .i 1, .i 8]) (a := []) (cc := []) (y11_run v) (EvO.callA (t2 := y60T10 v) (m1 := y60M2 v) (ix := []) (k := 3) (t1 := (y60T10 v)) (args := [.i v.p, .i 0, .i 1152921504606846976]) (a := []) (cc := []) (y12_run v H) (EvO.callA (t2 := y60T11 v) (m1 := y60M2 v) (ix := []) (k := 4) (t1 := (y60T11 v)) (args := [.i v.f, .i 0, .i 1152921504606846976]) (a := []) (cc := []) (y33_run v H) (EvO.callA (t2 := y60T12 v) (m1 := y60M2 v) (ix := []) (k := 4) (t1 := (y60T12 v)) (args := [.i 10, .i 1, .i 1048576]) (a := []) (cc := []) (y6_run v) EvO.opsA))))) (Ev.piecesA (k := 2) (t1 := y60T14 v) (m1 := y60M15 v) (Ev.seqPA (t1 := y60T21 v) (m1 := y60M15 v) (Ev.piecesA (k := 1) (t1 := y60T16 v) (m1 := y60M15 v) (Ev.blockP (e := .nrm) (by kernel_rfl) (by kernel_rfl) (Ev.piecesA (k := 1) (t1 := y60T17 v) (m1 := y60M15 v) (Ev.condT (by kernel_rfl) (by kernel_rfl) (Ev.regA (EvO.callA (t2 := y60T18 v) (m1 := y60M15 v) (ix := []) (k := 2) (t1 := (y60T18 v)) (args := [.i 2, .i 1, .i 8]) (a := []) (cc := []) (y14_run v) (EvO.callA (t2 := y60T19 v) (m1 := y60M15 v) (ix := []) (k := 3) (t1 := (y60T19 v)) (args := [.i 20, .i 1, .i 1048576]) (a := []) (cc := []) (y15_run v) (EvO.callA (t2 := y60T20 v) (m1 := y60M15 v) (ix := []) (k := 4) (t1 := (y60T20 v)) (args := [.i v.q, .i 0, .i 1152921504606846976]) (a := []) (cc := []) (y16_run v H) EvO.opsA)))))))) (Ev.seqE (by intro h; cases h) (by kernel_rfl) (Ev.seqPA (t1 := y60T23 v) (m1 := y60M15 v) (Ev.regA (EvO.callA (t2 := y60T22 v) (m1 := y60M15 v) (ix := []) (k := 12) (t1 := (y60T22 v)) (args := [(czy1b7 v)]) (a := []) (cc := []) (y61_run v H) EvO.opsA)) Ev.codeA)))))
abbrev y60Mm (v : PyV) : Mem := (y60M0 v)
theorem y60_run (v : PyV) (H : PyB v) : PRun Tryz.prog 74 (y60M0 v) [(czy1b7 v)] fun x m => x = .i 0 ∧ m = (y60Mm v) := Ev.runA eK2 Tryz.func74 (c := y60C1) (r := (.ret, (y60T23 v), (y60M15 v))) (Ev.piecesA (k := 1) (y60n32 v H))
def y59T4 (v : PyV) : Fr := puF (y59T3 v) [(6, .u (.b false)), (8, .i 0), (9, .u (.b false))]
def y59T5 (v : PyV) : Fr := Fr.mk [(czy1b7 v), .i 4, .r 0 0, .z, .r 1 0, .i 9, .u (.b false), (czy1b7 v), .i 0, .u (.b false), .z, .u (.b true), (czy1b7 v), .i 4, .u (.b false), .u (.b true), czy1b9] 4 21
def y59M6 (v : PyV) : Mem := paM (y59M2 v) [] [.c [.i 1, .i 1, .i 2, .i 0, .i 2, .i 0, .i 1, .i 2, .i v.p, .i v.q, .i 10, .i 20, .i v.f, .u (.l 2 [[.n 1, .n 5]]), .c 2 [], .i 3, .i 0, .i 1, .i 0]]
abbrev y59Mm (v : PyV) : Mem := (y59M0 v)
theorem y59_run (v : PyV) (H : PyB v) : PRun Tryz.prog 57 (y59M0 v) [(czy1b7 v), .i 4] fun x m => x = .t [czy1b9, .i 9] ∧ m = (y59Mm v) := Ev.runA eK2 Tryz.func57 (c := (bodyOf Tryz.f57)) (r := (.ret, (y59T5 v), (y59M6 v))) (Ev.piecesA (k := 1) (t1 := y59T1 v) (m1 := y59M2 v) (Ev.seqE (by intro h; cases h) (by kernel_rfl) (Ev.blockP (e := .ret) (by kernel_rfl) (by kernel_rfl) (Ev.seqPA (t1 := y59T4 v) (m1 := y59M2 v) (Ev.regA (EvO.callA (t2 := y59T3 v) (m1 := y59M2 v) (ix := []) (k := 1) (t1 := (y59T3 v)) (args := [(czy1b7 v)]) (a := []) (cc := []) (y60_run v H) EvO.opsA)) Ev.codeA))))
def y57T7 (v : PyV) : Fr := puF (y57T6 v) [(10, .i 9), (11, .r 15 0), (34, .t [czy1b9, .i 9]), (37, .t [czy1b9, .i 9]), (38, czy1b9), (39, .i 9)]
def y57M8 (v : PyV) : Mem := paM (y57M4 v) [] [.c [.i 0, .i 0, .i 0, .i 0, .i 0, .i 0, .i 0, .i 0, .i 0, .i 0, .i 0, .i 0, .i 0, .nl 2, .nl 2, .i 0, .i 0, .i 0, .i 0]]
def y57T9 (v : PyV) : Fr := puF (y57T7 v) [(8, .i 9), (40, .i 9), (41, .u (.b true)), (42, .i 9)]
abbrev y57Mm (v : PyV) : Mem := (y57M0 v)
theorem y57_run (v : PyV) (H : PyB v) : PRun Tryz.prog 13 (y57M0 v) [.r 0 0, .i 30, .i 1, .i 4] fun x m => x = .i 9 ∧ m = (y57Mm v) := Ev.runA eK2 Tryz.func13 (c := (bodyOf Tryz.f13)) (r := (.ret, (y57T9 v), (y57M8 v))) (Ev.piecesA (k := 1) (t1 := y57T1 v) (m1 := y57M0 v) (Ev.seqPA (t1 := y57T3 v) (m1 := y57M4 v) (Ev.regA (EvO.callA (t2 := y57T2 v) (m1 := y57M0 v) (ix := [0, 1, 2, 3, 4, 5, 6, 7, 8, 9, 10, 11, 12, 13]) (k := 2) (t1 := (y57T2 v)) (args := [.r 0 0, .i 1]) (a := []) (cc := []) (y58_run v H) EvO.opsA)) (Ev.piecesA (k := 1) (t1 := y57T5 v) (m1 := y57M4 v) (Ev.seqPA (t1 := y57T7 v) (m1 := y57M8 v) (Ev.regA (EvO.callA (t2 := y57T6 v) (m1 := y57M4 v) (ix := []) (k := 2) (t1 := (y57T6 v)) (args := [(czy1b7 v), .i 4]) (a := []) (cc := []) (y59_run v H) EvO.opsA)) (Ev.seqE (by intro h; cases h) (by kernel_rfl) Ev.codeA)))))
def pyA0T42 (v : PyV) : Fr := puF (pyA0T41 v) [(22, .i 9), (152, .i 9)]
def pyA0T43 (v : PyV) : Fr := puF (pyA0T42 v) [(153, .i (500 - v.p - v.f)), (154, .i (500 - v.p - v.f))]
def pyA0T44 (v : PyV) : Fr := puF (pyA0T43 v) [(155, .u (.b true)), (156, .u (.b true)), (157, .i (60 + v.p)), (158, .i (60 + v.p))]
def pyA0T45 (v : PyV) : Fr := puF (pyA0T44 v) [(159, .u (.b true)), (160, .u (.b true)), (161, .u (.b true)), (162, .i 0), (163, .u (.b true)), (164, .u (.b true)), (165, .u (.b true)), (166, .i 0), (167, .u (.b true)), (168, .u (.b true)), (169, .u (.b true)), (170, .i 9), (171, .u (.b true)), (172, .u (.b true)), (173, .u (.b true))]
def pyA0T46 (v : PyV) : Fr := puF (pyA0T45 v) [(6, .u (.b true)), (174, .u (.b true)), (175, .u (.b true))]
theorem py_A0 (v : PyV) (H : PyH v 0 false) : PRun Tryz.prog 3 [] [.u (.i .u8 v.p), .u (.i .u8 v.r), .i v.e] fun x m => x = .u (.b true) ∧ m = [] := Ev.runA eK1 Tryz.func3 (c := pyA0C1) (r := (.ret, (pyA0T46 v), (pyA0M36 v))) (Ev.piecesA (k := 1) (t1 := pyA0T1 v) (m1 := pyA0M0 v) (Ev.seqPA (pyA0n3 v H) (Ev.piecesA (k := 2) (t1 := pyA0T5 v) (m1 := pyA0M6 v) (Ev.seqPA (pyA0n6 v H) (Ev.seqPA (pyA0n10 v H) (Ev.seqPA (pyA0n13 v H) (Ev.piecesA (k := 2) (t1 := pyA0T17 v) (m1 := pyA0M16 v) (Ev.seqPA (pyA0n18 v H) (Ev.seqPA (pyA0n21 v H) (Ev.seqPA (pyA0n28 v H) (Ev.seqPA (pyA0n46 v H) (Ev.piecesA (k := 2) (t1 := pyA0T40 v) (m1 := pyA0M36 v) (Ev.seqPA (t1 := pyA0T42 v) (m1 := pyA0M36 v) (Ev.regA (EvO.callA (t2 := pyA0T41 v) (m1 := pyA0M36 v) (ix := [0, 1, 2, 3, 5, 7, 9, 13, 20, 21, 18, 8, 22, 23]) (k := 3) (t1 := (pyA0T41 v)) (args := [.r 0 0, .i 30, .i 1, .i 4]) (a := []) (cc := []) (y57_run v H.toB) EvO.opsA)) (Ev.seqPA (t1 := pyA0T46 v) (m1 := pyA0M36 v) (Ev.regA (EvO.opA (t2 := pyA0T43 v) (m1 := pyA0M36 v) (v := .u (.b true)) (k := 2) (t1 := (pyA0T43 v)) (symE (b := eqF (500 - v.p - v.f) (500 - v.p - v.f)) (by kernel_rfl) (sEqT (by have := H.toB.b; omega))) (EvO.opA (t2 := pyA0T44 v) (m1 := pyA0M36 v) (v := .u (.b true)) (k := 3) (t1 := (pyA0T44 v)) (symE (b := eqF (60 + v.p) (60 + v.p)) (by kernel_rfl) (sEqT (by have := H.toB.b; omega))) (EvO.callA (t2 := pyA0T45 v) (m1 := pyA0M36 v) (ix := []) (k := 14) (t1 := (pyA0T45 v)) (args := []) (a := []) (cc := []) aw15_run EvO.opsA)))) Ev.codeA))))))))))))))
end
end Go.Proofs.YtalglagdgabafaaGreat

/- A run, piece by piece: printed by program (ez2.py). -/
set_option linter.unusedVariables false
set_option maxRecDepth 1000000
namespace Go.Proofs.YtalglagdgabafaaGreat
open Go Go.Proofs
noncomputable section
abbrev czy20  : AB := .w 191 5 [[.n 1, .n 0, .n 1, .n 1, .n 60], [.n 1, .n 0, .n 1, .n 2, .n 40], [.n 1, .n 0, .n 1, .n 3, .n 20], [.n 2, .n 0, .n 1, .n 1, .n 55], [.n 2, .n 0, .n 1, .n 2, .n 40], [.n 2, .n 0, .n 1, .n 3, .n 20], [.n 2097153, .n 0, .n 1, .n 1, .n 5]]
abbrev czy21 (v : PyV) : AB := .w 191 5 [[.n 0, .n 0, .n 0, .n 0, .n v.f], [.n 1, .n 0, .n 0, .n 0, .n (60 - v.q)], [.n 2, .n 0, .n 0, .n 0, .n (500 - v.p - v.f)], [.n 3, .n 0, .n 0, .n 0, .n 2], [.n 2097153, .n 0, .n 0, .n 0, .n (v.p + v.q)]]
abbrev czy22  : AB := .w 191 5 [[.n 1, .n 0, .n 1, .n 1, .n 60], [.n 1, .n 0, .n 1, .n 2, .n 40], [.n 1, .n 0, .n 1, .n 3, .n 20], [.n 2, .n 0, .n 1, .n 1, .n 60], [.n 2, .n 0, .n 1, .n 2, .n 40], [.n 2, .n 0, .n 1, .n 3, .n 20]]
abbrev czy23  : AB := .w 191 5 [[.n 1, .n 0, .n 1, .n 1, .n 65], [.n 1, .n 0, .n 1, .n 2, .n 40], [.n 1, .n 0, .n 1, .n 3, .n 20], [.n 2, .n 0, .n 1, .n 1, .n 55], [.n 2, .n 0, .n 1, .n 2, .n 40], [.n 2, .n 0, .n 1, .n 3, .n 20]]
abbrev czy24 (v : PyV) : AB := .w 191 5 [[.n 0, .n 0, .n 0, .n 0, .n v.f], [.n 1, .n 0, .n 0, .n 0, .n (60 - v.q)], [.n 2, .n 0, .n 0, .n 0, .n (500 - v.p - v.f)], [.n 3, .n 0, .n 0, .n 0, .n 2], [.n 2097153, .n 0, .n 0, .n 0, .n 0]]
abbrev czy25 (v : PyV) : AB := .w 191 5 [[.n 0, .n 0, .n 0, .n 0, .n v.f], [.n 1, .n 0, .n 0, .n 0, .n (60 - v.q)], [.n 2, .n 0, .n 0, .n 0, .n (500 + v.q - v.f)], [.n 3, .n 0, .n 0, .n 0, .n 2], [.n 2097153, .n 0, .n 0, .n 0, .n 0]]
abbrev czy26 (v : PyV) : V := .a [.i 1, .i 1, .i 2, .i 0, .i 2, .i 0, .i 1, .i 2, .i v.p, .i v.q, .i 10, .i 20, .i v.f, .u (.l 2 [[.n 1, .n 5]]), .c 2 [], .i 2, .i 20, .i 1, .i 0, .i 4, .i 20, .i 0]
abbrev czy27 (v : PyV) : V := .a [.i 1, .i 1, .i 2, .i 0, .i 2, .i 0, .i 1, .i 2, .i v.p, .i v.q, .i 10, .i 20, .i v.f, .u (.l 2 [[.n 1, .n 5]]), .c 2 [], .i 2, .i 20, .i 1, .i 0, .i 4, .i 1, .i 0]
abbrev czy28 (v : PyV) : AB := .w 33 19 [[.n 1, .n 1, .n 2, .n 0, .n 2, .n 0, .n 1, .n 2, .n v.p, .n v.q, .n 10, .n 20, .n v.f, .l 2 [[.n 1, .n 5]], .l 2 [], .n 2, .n 20, .n 1, .n 0]]
abbrev czy29 (v : PyV) : AB := .w 33 19 [[.n 1, .n 1, .n 2, .n 0, .n 2, .n 0, .n 1, .n 2, .n v.p, .n v.q, .n 10, .n 20, .n v.f, .l 2 [[.n 1, .n 5]], .l 2 [], .n 4, .n 0, .n 1, .n 0]]
abbrev czy210 (v : PyV) : V := .a [.i 1, .i 1, .i 2, .i 0, .i 2, .i 0, .i 1, .i 2, .i v.p, .i v.q, .i 10, .i 20, .i v.f, .u (.l 2 [[.n 1, .n 5]]), .c 2 [], .i 2, .i 20, .i 1, .i 0]
abbrev czy211 (v : PyV) : V := .a [.i 1, .i 1, .i 2, .i 0, .i 2, .i 0, .i 1, .i 2, .i v.p, .i v.q, .i 10, .i 20, .i v.f, .u (.l 2 [[.n 1, .n 5]]), .c 2 [], .i 4, .i 0, .i 1, .i 0]
abbrev czy212  : V := .a [.i 0, .i 0, .i 20, .i 0, .i 0, .i 0, .i 0, .i 0, .i 0, .i 0, .i 0, .i 0, .i 0, .i 0, .i 0, .i 0, .i 0, .nl 2, .nl 2, .i 0, .i 0, .i 0, .i 0]
abbrev czy213  : AB := .w 146 7 [[.n 3, .n 2, .n 10, .l 2 [[.n 1, .n 3], [.n 2, .n 1]], .n 2, .n 3, .n 5], [.n 4, .n 1, .n 7, .l 2 [[.n 3, .n 2]], .n 0, .n 0, .n 3]]
abbrev czy214  : AB := .w 191 5 [[.n 0, .n 0, .n 0, .n 0, .n 0], [.n 1, .n 0, .n 0, .n 0, .n 60], [.n 2, .n 0, .n 0, .n 0, .n 500], [.n 3, .n 0, .n 0, .n 0, .n 2]]
abbrev czy215 (v : PyV) : V := .a [.i 0, .i 1, .i 2, .i 0, .i 2, .i 0, .i 1, .i 2, .i v.p, .i v.q, .i 10, .i 20, .i 0, .w 11, .nl 2, .i 0, .i 0, .i 0, .i 0]
abbrev czy216  : V := .a [.i 0, .i 0, .i 0, .i 0, .i 0, .i 0, .i 0, .i 0, .i 0, .i 0, .i 0, .i 0, .i 0, .nl 2, .nl 2, .i 0, .i 0, .i 0, .i 0]
abbrev czy217  : V := .n .i64 33 [0, 120, 80, 40, 0, 0, 0, 0, 0, 0, 0, 0, 0, 0, 0, 0, 0, 0, 0, 0, 0, 0, 0, 0, 0, 0, 0, 0, 0, 0, 0, 0, 0]
abbrev czy218  : AB := .w 152 4 [[.n 1, .n 1, .n 1, .n 1000], [.n 1, .n 1, .n 0, .n 0]]
noncomputable abbrev pyA1ev := Ev Tryz.prog eK1 (List.range 600) 300 60 3
def pyA1M0 (v : PyV) : Mem := []
noncomputable abbrev pyA1C1 : Code := bodyOf Tryz.f3
noncomputable abbrev pyA1C2 : Code := dropK 1 pyA1C1
def pyA1M4 (v : PyV) : Mem := [.c [.i 4, .w 1, .i 2, .w 2, .i 3, .i 200, .i 1, .i 500, .r 3 0, .r 5 0, .r 7 0, .r 9 0, .nl 19],
  czy213,
  czy218,
  .c [.w 4, .i 562],
  czy214,
  .c [.w 6, czy217],
  czy22,
  .c [.nl 3, .m 8, .i 256, .i 1],
  .p .n 1 false [],
  .c [.nl 4, .nm],
  .c [.r 0 0, .r 3 0, .r 5 0, .r 7 0, .r 9 0]]
def pyA1M6 (v : PyV) : Mem := paM (pyA1M4 v) [] [.w 106 2 [[.n 1, .n 5]],
  .c [.i 0, .i 1, .i 2, .i 0, .i 2, .i 0, .i 1, .i 2, .i 100, .i 50, .i 10, .i 20, .i 0, .w 11, .nl 2, .i 0, .i 0, .i 0, .i 0]]
def pyA1M9 (v : PyV) : Mem := paM (pyA1M6 v) [(12, .c [.i 0, .i 1, .i 2, .i 0, .i 2, .i 0, .i 1, .i 2, .i v.p, .i 50, .i 10, .i 20, .i 0, .w 11, .nl 2, .i 0, .i 0, .i 0, .i 0])] []
def pyA1T12 (v : PyV) : Fr := puF (pyA0T11 v) [(35, .i v.q), (36, .r 12 9)]
def pyA1M13 (v : PyV) : Mem := paM (pyA1M6 v) [(12, .c [.i 0, .i 1, .i 2, .i 0, .i 2, .i 0, .i 1, .i 2, .i v.p, .i v.q, .i 10, .i 20, .i 0, .w 11, .nl 2, .i 0, .i 0, .i 0, .i 0])] []
def pyA1T14 (v : PyV) : Fr := puF (pyA0T11 v) [(35, .i v.q), (36, .r 12 9), (38, .r 10 0), (39, .r 0 0), (40, (czy215 v))]
def pyA1T15 (v : PyV) : Fr := puF (pyA0T17 v) [(12, .z), (13, .z), (14, .z), (15, .z), (44, .z), (45, .z), (46, .z), (47, .z), (48, .z), (49, .z), (50, .z), (51, .z), (52, .z), (53, .z), (54, .z), (55, .z)]
def pyA1M16 (v : PyV) : Mem := [.c [.i 4, .w 1, .i 2, .w 2, .i 3, .i 200, .i 1, .i 500, .r 3 0, .r 5 0, .r 7 0, .r 9 0, .w 13],
  czy213,
  czy218,
  .c [.w 14, .i 562],
  czy214,
  .c [.w 15, czy217],
  czy22,
  .c [.w 16, .m 8, .i 256, .i 2],
  .p .n 1 false [(.n 1, [.n 0])],
  .c [.nl 4, .nm],
  .c [.r 0 0, .r 3 0, .r 5 0, .r 7 0, .r 9 0],
  .w 106 2 [[.n 1, .n 5]],
  .c [.i 0, .i 1, .i 2, .i 0, .i 2, .i 0, .i 1, .i 2, .i v.p, .i v.q, .i 10, .i 20, .i 0, .w 11, .nl 2, .i 0, .i 0, .i 0, .i 0],
  .w 33 19 [[.n 1, .n 1, .n 2, .n 0, .n 2, .n 0, .n 1, .n 2, .n v.p, .n v.q, .n 10, .n 20, .n v.f, .l 2 [[.n 1, .n 5]], .l 2 [], .n 1, .n 10, .n 0, .n 0]],
  .w 191 5 [[.n 0, .n 0, .n 0, .n 0, .n v.f], [.n 1, .n 0, .n 0, .n 0, .n 60], [.n 2, .n 0, .n 0, .n 0, .n (500 - v.p - v.f)], [.n 3, .n 0, .n 0, .n 0, .n 2], [.n 2097153, .n 0, .n 0, .n 0, .n v.p]],
  czy20,
  .w 136 3 [[.n 10, .n 1, .n 3]]]
def pyA1M20 (v : PyV) : Mem := paM (pyA1M16 v) [(3, .c [.w 17, .i 562]), (7, .c [.w 18, .m 8, .i 256, .i 3]), (8, .p .n 1 false [(.n 2, [.n 0])]), (13, (czy28 v)), (16, .x)] [(czy21 v),
  .w 136 3 [[.n 20, .n 2, .n 3]]]
noncomputable abbrev pyA1C16 : Code := cR (dropK 2 (cR (cR (cR (dropK 2 (cR pyA1C2))))))
def pyA1M24 (v : PyV) : Mem := paM (pyA1M20 v) [] [.c [.i 1, .i 1, .i 2, .i 0, .i 2, .i 0, .i 1, .i 2, .i v.p, .i v.q, .i 10, .i 20, .i v.f, .u (.l 2 [[.n 1, .n 5]]), .c 2 [], .i 2, .i 20, .i 1, .i 0]]
def pyA1T26 (v : PyV) : Fr := puF (pyA0T25 v) [(83, .i (500 - v.p)), (84, .r 19 12), (85, .i v.f)]
def pyA1T27 (v : PyV) : Fr := puF (pyA0T25 v) [(83, .i (500 - v.p)), (84, .r 19 12), (85, .i v.f), (86, .i (500 - v.p - v.f))]
def pyA1T28 (v : PyV) : Fr := puF (pyA0T25 v) [(83, .i (500 - v.p)), (84, .r 19 12), (85, .i v.f), (86, .i (500 - v.p - v.f)), (87, .u (.b false)), (88, .u (.b false)), (89, .i 60), (90, .u (.b false)), (91, .u (.b false))]
def pyA1T29 (v : PyV) : Fr := puF (pyA0T25 v) [(83, .i (500 - v.p)), (84, .r 19 12), (85, .i v.f), (86, .i (500 - v.p - v.f)), (87, .u (.b false)), (88, .u (.b false)), (89, .i 60), (90, .u (.b false)), (91, .u (.b false))]
noncomputable abbrev pyA1C23 : Code := cL (cR (cR pyA1C16))
def pyA1T30 (v : PyV) : Fr := puF (pyA0T25 v) [(83, .i (500 - v.p)), (84, .r 19 12), (85, .i v.f), (86, .i (500 - v.p - v.f)), (87, .u (.b false)), (88, .u (.b false)), (89, .i 60), (90, .u (.b false)), (91, .u (.b false)), (92, .i v.e)]
def pyA1T31 (v : PyV) : Fr := puF (pyA0T25 v) [(83, .i (500 - v.p)), (84, .r 19 12), (85, .i v.f), (86, .i (500 - v.p - v.f)), (87, .u (.b false)), (88, .u (.b false)), (89, .i 60), (90, .u (.b false)), (91, .u (.b false)), (92, .i v.e), (93, .i 1)]
theorem pyA1n31 (v : PyV) (H : PyH v 1 false) : pyA1ev (cL pyA1C23) (pyA1T29 v) (pyA1M24 v) [(.nrm, (pyA1T31 v), (pyA1M24 v))] := Ev.regA (EvO.opA (t2 := pyA1T30 v) (m1 := pyA1M24 v) (v := .i 1) (k := 1) (t1 := (pyA1T30 v)) (symI (a := IntKind.wrap .i64 ((BitVec.ofInt 64 v.e &&& BitVec.ofInt 64 3).toNat : Int)) (z := 1) (by kernel_rfl) H.he) EvO.opsA)
def pyA1T33 (v : PyV) : Fr := puF (pyA0T25 v) [(83, .i (500 - v.p)), (84, .r 19 12), (85, .i v.f), (86, .i (500 - v.p - v.f)), (87, .u (.b false)), (88, .u (.b false)), (89, .i 60), (90, .u (.b false)), (91, .u (.b false)), (92, .i v.e), (93, .i 1), (108, .u (.b false)), (109, .u (.b false))]
def pyA1T35 (v : PyV) : Fr := puF (pyA0T25 v) [(83, .i (500 - v.p)), (84, .r 19 12), (85, .i v.f), (86, .i (500 - v.p - v.f)), (87, .u (.b false)), (88, .u (.b false)), (89, .i 60), (90, .u (.b false)), (91, .u (.b false)), (92, .i v.e), (93, .i 1), (108, .u (.b false)), (109, .u (.b false)), (119, .u (.b true)), (120, .u (.b true))]
def pyA1T36 (v : PyV) : Fr := puF (pyA0T25 v) [(83, .i (500 - v.p)), (84, .r 19 12), (85, .i v.f), (86, .i (500 - v.p - v.f)), (87, .u (.b false)), (88, .u (.b false)), (89, .i 60), (90, .u (.b false)), (91, .u (.b false)), (92, .i v.e), (93, .i 1), (108, .u (.b false)), (109, .u (.b false)), (119, .u (.b true)), (120, .u (.b true)), (121, .r 10 0), (122, .r 0 0), (123, .i 1)]
def y63T0 (v : PyV) : Fr := frameF Tryz.prog Tryz.f13 [.r 0 0, .i 1, .i 1, .i 4]
def y63M0 (v : PyV) : Mem := [.c [.i 4, .w 1, .i 2, .w 2, .i 3, .i 200, .i 1, .i 500, .r 3 0, .r 4 0, .r 5 0, .r 6 0, .w 7],
  czy213,
  czy218,
  .c [.w 8, .i 562],
  .c [.w 9, czy217],
  .c [.w 10, .m 11, .i 256, .i 3],
  .c [.nl 4, .nm],
  (czy28 v),
  (czy21 v),
  czy20,
  .w 136 3 [[.n 20, .n 2, .n 3]],
  .p .n 1 false [(.n 2, [.n 0])]]
def y63T1 (v : PyV) : Fr := puF (y63T0 v) [(8, .i 0)]
def y63T2 (v : PyV) : Fr := puF (y41T2 v) [(3, .i 4)]
def y63T3 (v : PyV) : Fr := puF (y41T3 v) [(3, .i 4)]
def y63M4 (v : PyV) : Mem := paM (y63M0 v) [] [.c [.i 1, .i 1, .i 2, .i 0, .i 2, .i 0, .i 1, .i 2, .i v.p, .i v.q, .i 10, .i 20, .i v.f, .u (.l 2 [[.n 1, .n 5]]), .c 2 [], .i 2, .i 20, .i 1, .i 0]]
def y63T5 (v : PyV) : Fr := puF (y41T5 v) [(3, .i 4)]
def y63T6 (v : PyV) : Fr := puF (y41T6 v) [(3, .i 4), (36, .i 4)]
def y64M0 (v : PyV) : Mem := []
def y64T1 (v : PyV) : Fr := puF (y42T1 v) [(1, .i 4)]
def y64M2 (v : PyV) : Mem := [.c [.i 1, .i 1, .i 2, .i 0, .i 2, .i 0, .i 1, .i 2, .i v.p, .i v.q, .i 10, .i 20, .i v.f, .u (.l 2 [[.n 1, .n 5]]), .c 2 [], .i 2, .i 20, .i 1, .i 0],
  .c [.i 0, .i 0, .i 0, .i 0, .i 0, .i 0, .i 0, .i 0, .i 0, .i 0, .i 0, .i 0, .i 0, .nl 2, .nl 2, .i 0, .i 0, .i 0, .i 0]]
def y64T3 (v : PyV) : Fr := puF (y42T3 v) [(1, .i 4)]
def y64T4 (v : PyV) : Fr := puF (y42T4 v) [(1, .i 4)]
def y64T5 (v : PyV) : Fr := puF (y42T5 v) [(1, .i 4), (13, .i 4)]
def y64M6 (v : PyV) : Mem := paM (y64M2 v) [] [.c [.i 1, .i 1, .i 2, .i 0, .i 2, .i 0, .i 1, .i 2, .i v.p, .i v.q, .i 10, .i 20, .i v.f, .u (.l 2 [[.n 1, .n 5]]), .c 2 [], .i 2, .i 20, .i 1, .i 0]]
def y64T7 (v : PyV) : Fr := puF (y42T7 v) [(1, .i 4), (13, .i 4), (17, .i 4), (20, (czy211 v))]
def y64M8 (v : PyV) : Mem := [.c [.i 1, .i 1, .i 2, .i 0, .i 2, .i 0, .i 1, .i 2, .i v.p, .i v.q, .i 10, .i 20, .i v.f, .u (.l 2 [[.n 1, .n 5]]), .c 2 [], .i 4, .i 0, .i 1, .i 0],
  .c [.i 1, .i 1, .i 2, .i 0, .i 2, .i 0, .i 1, .i 2, .i v.p, .i v.q, .i 10, .i 20, .i v.f, .u (.l 2 [[.n 1, .n 5]]), .c 2 [], .i 4, .i 0, .i 1, .i 0],
  .c [.i 1, .i 1, .i 2, .i 0, .i 2, .i 0, .i 1, .i 2, .i v.p, .i v.q, .i 10, .i 20, .i v.f, .u (.l 2 [[.n 1, .n 5]]), .c 2 [], .i 2, .i 20, .i 1, .i 0]]
abbrev y64Mm (v : PyV) : Mem := (y64M0 v)
theorem y64_run (v : PyV) (H : PyB v) : PRun Tryz.prog 57 (y64M0 v) [(czy210 v), .i 4] fun x m => x = .t [(czy211 v), .i 0] ∧ m = (y64Mm v) := Ev.runA eK2 Tryz.func57 (c := (bodyOf Tryz.f57)) (r := (.ret, (y64T7 v), (y64M8 v))) (Ev.piecesA (k := 1) (t1 := y64T1 v) (m1 := y64M2 v) (Ev.seqPA (t1 := y64T5 v) (m1 := y64M6 v) (Ev.blockP (e := .nrm) (by kernel_rfl) (by kernel_rfl) (Ev.seqPA (t1 := y64T4 v) (m1 := y64M2 v) (Ev.regA (EvO.callA (t2 := y64T3 v) (m1 := y64M2 v) (ix := []) (k := 1) (t1 := (y64T3 v)) (args := [(czy210 v)]) (a := []) (cc := []) (y43_run v H) EvO.opsA)) Ev.codeA)) Ev.codeA))
def y63T7 (v : PyV) : Fr := puF (y41T7 v) [(3, .i 4), (34, .t [(czy211 v), .i 0]), (36, .i 4), (37, .t [(czy211 v), .i 0]), (38, (czy211 v))]
def y63M8 (v : PyV) : Mem := paM (y63M4 v) [] [.c [.i 1, .i 1, .i 2, .i 0, .i 2, .i 0, .i 1, .i 2, .i v.p, .i v.q, .i 10, .i 20, .i v.f, .u (.l 2 [[.n 1, .n 5]]), .c 2 [], .i 4, .i 0, .i 1, .i 0]]
def y63T9 (v : PyV) : Fr := puF (y63T7 v) [(12, .r 15 0), (13, .w 17), (14, .i 0), (16, .r 18 0), (40, .i 0), (41, .u (.b false)), (43, .r 12 2), (44, .i 2), (45, .r 12 3), (46, .i 0), (47, .r 12 6), (48, .i 1), (49, .a [.i 2, .i 0, .i 1, .i 1]), (50, .i 4), (51, .u (.b false)), (52, .u (.b false)), (56, .u (.b true)), (57, .u (.b true)), (58, .r 12 17), (59, .i 1), (60, .r 12 18), (61, .i 0), (62, .r 12 6), (63, .i 1), (64, .a [.i 1, .i 0, .i 1, .i 1]), (65, .t [.w 17, .i 0]), (66, .r 0 0), (67, .r 0 0), (68, .r 0 9), (69, .r 4 0), (70, .i 1), (71, .r 12 6), (72, .i 1), (73, .t [.w 17, .i 0]), (74, .w 17), (75, .i 0), (76, .w 17), (77, .i 1), (78, .i 1), (79, .u (.b false)), (80, .e 17 2 0 0), (81, .a [.i 1, .i 5]), (82, .r 18 0), (83, .i 1), (84, .r 15 3), (85, .r 0 0), (86, .r 0 0), (87, .r 0 9), (88, .r 4 0), (89, .a [.i 1, .i 0, .i 1, .i 1]), (90, .r 18 1), (91, .i 5), (92, .i 0), (93, .i 1)]
def y63M10 (v : PyV) : Mem := paM (y63M8 v) [(4, .c [.w 19, czy217])] [.c [.i 2, .i 0, .i 1, .i 1],
  .c [.i 1, .i 0, .i 1, .i 1],
  .c [.i 1, .i 0, .i 1, .i 1],
  .w 106 2 [[.n 1, .n 5]],
  .c [.i 1, .i 5],
  czy23]
def y63T11 (v : PyV) : Fr := puF (y63T9 v) [(94, .r 0 0), (95, (czy210 v)), (96, .i 4), (97, .i 1), (98, (czy27 v)), (99, (czy211 v))]
noncomputable abbrev y65evD := EvD Tryz.prog eK2 (List.range 600) 300 60
def y65T0 (v : PyV) : Fr := frameF Tryz.prog Tryz.f55 [.r 0 0, (czy27 v), (czy211 v)]
def y65M0 (v : PyV) : Mem := [.c [.i 4, .w 1, .i 2, .w 2, .i 3, .i 200, .i 1, .i 500, .r 3 0, .r 4 0, .r 5 0, .r 6 0, .w 7],
  czy213,
  czy218,
  .c [.w 8, .i 562],
  .c [.w 9, czy217],
  .c [.w 10, .m 11, .i 256, .i 3],
  .c [.nl 4, .nm],
  (czy28 v),
  (czy21 v),
  czy23,
  .w 136 3 [[.n 20, .n 2, .n 3]],
  .p .n 1 false [(.n 2, [.n 0])]]
noncomputable abbrev y65C1 : Code := bodyOf Tryz.f55
def y65T1 (v : PyV) : Fr := puF (y65T0 v) [(3, .r 12 0), (4, .r 13 0), (5, .r 14 0)]
def y65M2 (v : PyV) : Mem := paM (y65M0 v) [] [.c [.r 0 0],
  .c [.i 1, .i 1, .i 2, .i 0, .i 2, .i 0, .i 1, .i 2, .i v.p, .i v.q, .i 10, .i 20, .i v.f, .u (.l 2 [[.n 1, .n 5]]), .c 2 [], .i 2, .i 20, .i 1, .i 0, .i 4, .i 1, .i 0],
  .c [.i 1, .i 1, .i 2, .i 0, .i 2, .i 0, .i 1, .i 2, .i v.p, .i v.q, .i 10, .i 20, .i v.f, .u (.l 2 [[.n 1, .n 5]]), .c 2 [], .i 4, .i 0, .i 1, .i 0]]
def y65T3 (v : PyV) : Fr := puF (y65T1 v) [(9, .r 13 0), (10, (czy210 v)), (11, .r 13 19), (12, .i 4), (13, .r 13 21), (14, .i 0)]
noncomputable abbrev y66ev := Ev Tryz.prog eK2 (List.range 600) 300 60 110
def y66M0 (v : PyV) : Mem := []
noncomputable abbrev y66C1 : Code := bodyOf Tryz.f110
def y66T1 (v : PyV) : Fr := puF (y47T1 v) [(1, .i 4)]
def y66M2 (v : PyV) : Mem := [.c [.i 1, .i 1, .i 2, .i 0, .i 2, .i 0, .i 1, .i 2, .i v.p, .i v.q, .i 10, .i 20, .i v.f, .u (.l 2 [[.n 1, .n 5]]), .c 2 [], .i 2, .i 20, .i 1, .i 0]]
def y66T3 (v : PyV) : Fr := puF (y47T3 v) [(1, .i 4)]
def y66T4 (v : PyV) : Fr := puF (y47T4 v) [(1, .i 4)]
def y66T5 (v : PyV) : Fr := puF (y47T5 v) [(1, .i 4)]
def y66T6 (v : PyV) : Fr := puF (y47T6 v) [(1, .i 4), (48, .i 4)]
def y66M7 (v : PyV) : Mem := [.c [.i 1, .i 1, .i 2, .i 0, .i 2, .i 0, .i 1, .i 2, .i v.p, .i v.q, .i 10, .i 20, .i v.f, .u (.l 2 [[.n 1, .n 5]]), .c 2 [], .i 2, .i 20, .i 1, .i 0],
  .c [.i 1, .i 1, .i 2, .i 0, .i 2, .i 0, .i 1, .i 2, .i v.p, .i v.q, .i 10, .i 20, .i v.f, .u (.l 2 [[.n 1, .n 5]]), .c 2 [], .i 2, .i 20, .i 1, .i 0]]
theorem y66n7 (v : PyV) (H : PyB v) : y66ev (cL (dropK 3 y66C1)) (y66T1 v) (y66M2 v) [(.nrm, (y66T6 v), (y66M7 v))] := Ev.blockP (e := .nrm) (by kernel_rfl) (by kernel_rfl) (Ev.seqPA (t1 := y66T5 v) (m1 := y66M2 v) (Ev.regA (EvO.callA (t2 := y66T3 v) (m1 := y66M2 v) (ix := []) (k := 1) (t1 := (y66T3 v)) (args := [(czy210 v)]) (a := []) (cc := []) (y43_run v H) (EvO.callA (t2 := y66T4 v) (m1 := y66M2 v) (ix := []) (k := 5) (t1 := (y66T4 v)) (args := [.i 0, .i 0, .i v.p]) (a := []) (cc := []) (y48_run v H) EvO.opsA))) Ev.codeA)
def y66T8 (v : PyV) : Fr := puF (y66T6 v) [(10, .nl 0)]
def y66T9 (v : PyV) : Fr := puF (y66T6 v) [(10, .nl 0), (58, .u (.b false)), (59, .u (.b false))]
def y66T10 (v : PyV) : Fr := puF (y66T6 v) [(10, .nl 0), (58, .u (.b false)), (59, .u (.b false)), (70, .u (.b false)), (71, .u (.b false))]
def y66T11 (v : PyV) : Fr := puF (y66T6 v) [(10, .nl 0), (58, .u (.b false)), (59, .u (.b false)), (70, .u (.b false)), (71, .u (.b false)), (72, .u (.b false)), (73, .i 4), (74, .u (.b false))]
def y66T12 (v : PyV) : Fr := puF (y66T6 v) [(10, .nl 0), (58, .u (.b false)), (59, .u (.b false)), (70, .u (.b false)), (71, .u (.b false)), (72, .u (.b false)), (73, .i 4), (74, .u (.b false)), (84, .u (.b true)), (85, .i 4), (86, .u (.b true))]
def y66T13 (v : PyV) : Fr := puF (y66T6 v) [(10, .nl 0), (58, .u (.b false)), (59, .u (.b false)), (70, .u (.b false)), (71, .u (.b false)), (72, .u (.b false)), (73, .i 4), (74, .u (.b false)), (84, .u (.b true)), (85, .i 4), (86, .u (.b true)), (87, .r 0 2), (88, .i 2), (89, .r 0 8), (90, .i v.p), (91, .r 0 9), (92, .i v.q)]
def y66T14 (v : PyV) : Fr := puF (y66T6 v) [(10, .w 2), (58, .u (.b false)), (59, .u (.b false)), (70, .u (.b false)), (71, .u (.b false)), (72, .u (.b false)), (73, .i 4), (74, .u (.b false)), (84, .u (.b true)), (85, .i 4), (86, .u (.b true)), (87, .r 0 2), (88, .i 2), (89, .r 0 8), (90, .i v.p), (91, .r 0 9), (92, .i v.q), (93, .i (v.p + v.q)), (94, .a [.i 0, .i 2, .i (v.p + v.q)]), (95, .w 2)]
def y66M15 (v : PyV) : Mem := paM (y66M7 v) [] [.w 234 3 [[.n 0, .n 2, .n (v.p + v.q)]]]
def y66T16 (v : PyV) : Fr := puF (y66T6 v) [(10, .w 2), (58, .u (.b false)), (59, .u (.b false)), (70, .u (.b false)), (71, .u (.b false)), (72, .u (.b false)), (73, .i 4), (74, .u (.b false)), (84, .u (.b true)), (85, .i 4), (86, .u (.b true)), (87, .r 0 2), (88, .i 2), (89, .r 0 8), (90, .i v.p), (91, .r 0 9), (92, .i v.q), (93, .i (v.p + v.q)), (94, .a [.i 0, .i 2, .i (v.p + v.q)]), (95, .w 2), (96, .w 2)]
def y67M0 (v : PyV) : Mem := [.w 234 3 [[.n 0, .n 2, .n (v.p + v.q)]]]
def y67T1 (v : PyV) : Fr := Fr.mk [.w 0, .f 155 [] [], .z, .z, .nl 0] 37 42
noncomputable abbrev y68ev := Ev Tryz.prog eK2 (List.range 600) 300 60 182
noncomputable abbrev y68evL := EvL Tryz.prog eK2 (List.range 600) 300 60 182
def y68M0 (v : PyV) : Mem := [.w 234 3 [[.n 0, .n 2, .n (v.p + v.q)]]]
noncomputable abbrev y68C1 : Code := bodyOf Tryz.f182
def y68T1 (v : PyV) : Fr := Fr.mk [.w 0, .f 155 [] [], .z, .z, .i 0] 14 19
noncomputable abbrev y68C6 : Code := cLp (cBd (dropK 1 (cL (dropK 1 y68C1))))
def y68T5 (v : PyV) : Fr := puF (y50T5 v) [(15, .a [.i 0, .i 2, .i (v.p + v.q)])]
def y69M0 (v : PyV) : Mem := []
def y69T1 (v : PyV) : Fr := Fr.mk [.a [.i 0, .i 2, .i (v.p + v.q)], .r 0 0, .u (.b false)] 3 6
def y69M2 (v : PyV) : Mem := [.c [.i 0, .i 2, .i (v.p + v.q)]]
def y69T3 (v : PyV) : Fr := Fr.mk [.a [.i 0, .i 2, .i (v.p + v.q)], .r 0 0, .u (.b false), .r 0 2, .i (v.p + v.q)] 1 6
def y69T4 (v : PyV) : Fr := Fr.mk [.a [.i 0, .i 2, .i (v.p + v.q)], .r 0 0, .u (.b false), .r 0 2, .i (v.p + v.q), .u (.b false)] 0 6
abbrev y69Mm (v : PyV) : Mem := (y69M0 v)
theorem y69_run (v : PyV) (H : PyB v) : PRun Tryz.prog 155 (y69M0 v) [.a [.i 0, .i 2, .i (v.p + v.q)]] fun x m => x = .u (.b false) ∧ m = (y69Mm v) := Ev.runA eK2 Tryz.func155 (c := (bodyOf Tryz.f155)) (r := (.ret, (y69T4 v), (y69M2 v))) (Ev.piecesA (k := 1) (t1 := y69T1 v) (m1 := y69M2 v) (Ev.seqPA (t1 := y69T4 v) (m1 := y69M2 v) (Ev.regA (EvO.opA (t2 := y69T3 v) (m1 := y69M2 v) (v := .u (.b false)) (k := 2) (t1 := (y69T3 v)) (symE (b := eqF (v.p + v.q) 0) (by kernel_rfl) (sEqF (by have := H.b; omega))) EvO.opsA)) Ev.codeA))
def y68T6 (v : PyV) : Fr := puF (y68T5 v) [(16, .u (.b false))]
def y68T8 (v : PyV) : Fr := puF (y68T6 v) [(8, .i 1), (18, .i 1)]
theorem y68n10 (v : PyV) (H : PyB v) : y68ev y68C6 (y50T2 v) (y68M0 v) [(.nrm, (y68T8 v), (y68M0 v))] := Ev.piecesA (k := 2) (t1 := y50T3 v) (m1 := y68M0 v) (Ev.seqPA (t1 := y68T6 v) (m1 := y68M0 v) (Ev.blockP (e := .nrm) (by kernel_rfl) (by kernel_rfl) (Ev.piecesA (k := 1) (t1 := y50T4 v) (m1 := y68M0 v) (Ev.seqPA (t1 := y68T6 v) (m1 := y68M0 v) (Ev.regA (EvO.callA (t2 := y68T5 v) (m1 := y68M0 v) (ix := []) (k := 5) (t1 := (y68T5 v)) (args := [.a [.i 0, .i 2, .i (v.p + v.q)]]) (a := []) (cc := []) (y69_run v H) EvO.opsA)) Ev.codeA))) Ev.codeA)
def y68T9 (v : PyV) : Fr := puF (y68T8 v) [(9, .u (.b false))]
theorem y68n14 (v : PyV) (H : PyB v) : y68ev y68C6 (y68T8 v) (y68M0 v) [((.ext 0), (y68T9 v), (y68M0 v))] := Ev.seqPA (t1 := y68T9 v) (m1 := y68M0 v) Ev.codeA (Ev.seqE (by intro h; cases h) (by kernel_rfl) Ev.codeA)
theorem y68n15 (v : PyV) (H : PyB v) : y68evL 1 y68C6 299 (y68T8 v) (y68M0 v) [((.ext 0), (y68T9 v), (y68M0 v))] := EvL.last (by intro h; cases h) (y68n14 v H)
theorem y68n16 (v : PyV) (H : PyB v) : y68evL 1 y68C6 300 (y50T2 v) (y68M0 v) [((.ext 0), (y68T9 v), (y68M0 v))] := EvL.round (t2 := (y68T8 v)) (m2 := (y68M0 v)) (y68n10 v H) (by kernel_rfl) (y68n15 v H)
def y68T11 (v : PyV) : Fr := puF (y68T9 v) [(4, .i (-1))]
abbrev y68Mm (v : PyV) : Mem := (y68M0 v)
theorem y68_run (v : PyV) (H : PyB v) : PRun Tryz.prog 182 (y68M0 v) [.w 0, .f 155 [] []] fun x m => x = .i (-1) ∧ m = (y68Mm v) := Ev.runA eK2 Tryz.func182 (c := y68C1) (r := (.ret, (y68T11 v), (y68M0 v))) (Ev.piecesA (k := 1) (t1 := y68T1 v) (m1 := y68M0 v) (Ev.seqPA (t1 := y68T9 v) (m1 := y68M0 v) (Ev.piecesA (k := 1) (t1 := y50T2 v) (m1 := y68M0 v) (Ev.blockP (e := .ext 0) (by kernel_rfl) (by kernel_rfl) (Ev.loopP (n0 := 1) (by kernel_rfl) (by kernel_rfl) (y68n16 v H)))) Ev.codeA))
def y67M5 (v : PyV) : Mem := [.x]
abbrev y67Mm (v : PyV) : Mem := (y67M5 v)
theorem y67_run (v : PyV) (H : PyB v) : PRun Tryz.prog 154 (y67M0 v) [.w 0, .f 155 [] []] fun x m => x = .u (.l 3 [[.n 0, .n 2, .n (v.p + v.q)]]) ∧ m = (y67Mm v) := Ev.runA eK2 Tryz.func154 (c := (bodyOf Tryz.f154)) (r := (.ret, (y49T4 v), (y67M0 v))) (Ev.piecesA (k := 1) (t1 := y67T1 v) (m1 := y67M0 v) (Ev.seqPA (t1 := y49T3 v) (m1 := y67M0 v) (Ev.regA (EvO.callA (t2 := y49T2 v) (m1 := y67M0 v) (ix := [0]) (k := 2) (t1 := (y49T2 v)) (args := [.w 0, .f 155 [] []]) (a := []) (cc := []) (y68_run v H) EvO.opsA)) Ev.codeA))
def y66T17 (v : PyV) : Fr := puF (y66T6 v) [(6, .u (.l 3 [[.n 0, .n 2, .n (v.p + v.q)]])), (10, .w 2), (58, .u (.b false)), (59, .u (.b false)), (70, .u (.b false)), (71, .u (.b false)), (72, .u (.b false)), (73, .i 4), (74, .u (.b false)), (84, .u (.b true)), (85, .i 4), (86, .u (.b true)), (87, .r 0 2), (88, .i 2), (89, .r 0 8), (90, .i v.p), (91, .r 0 9), (92, .i v.q), (93, .i (v.p + v.q)), (94, .a [.i 0, .i 2, .i (v.p + v.q)]), (95, .w 2), (96, .w 2), (97, .u (.l 3 [[.n 0, .n 2, .n (v.p + v.q)]]))]
def y66M18 (v : PyV) : Mem := paM (y66M7 v) [] [.x]
def y66T19 (v : PyV) : Fr := puF (y66T6 v) [(6, .u (.l 3 [[.n 0, .n 2, .n (v.p + v.q)]])), (10, .w 2), (58, .u (.b false)), (59, .u (.b false)), (70, .u (.b false)), (71, .u (.b false)), (72, .u (.b false)), (73, .i 4), (74, .u (.b false)), (84, .u (.b true)), (85, .i 4), (86, .u (.b true)), (87, .r 0 2), (88, .i 2), (89, .r 0 8), (90, .i v.p), (91, .r 0 9), (92, .i v.q), (93, .i (v.p + v.q)), (94, .a [.i 0, .i 2, .i (v.p + v.q)]), (95, .w 2), (96, .w 2), (97, .u (.l 3 [[.n 0, .n 2, .n (v.p + v.q)]]))]
abbrev y66Mm (v : PyV) : Mem := (y66M0 v)
theorem y66_run (v : PyV) (H : PyB v) : PRun Tryz.prog 110 (y66M0 v) [(czy210 v), .i 4, .i 0] fun x m => x = .t [.u (.l 3 [[.n 0, .n 2, .n (v.p + v.q)]]), .i 0] ∧ m = (y66Mm v) := Ev.runA eK2 Tryz.func110 (c := y66C1) (r := (.ret, (y66T19 v), (y66M18 v))) (Ev.piecesA (k := 3) (t1 := y66T1 v) (m1 := y66M2 v) (Ev.seqPA (y66n7 v H) (Ev.piecesA (k := 1) (t1 := y66T8 v) (m1 := y66M7 v) (Ev.seqPA (t1 := y66T14 v) (m1 := y66M15 v) (Ev.blockP (e := .nrm) (by kernel_rfl) (by kernel_rfl) (Ev.piecesA (k := 1) (t1 := y66T9 v) (m1 := y66M7 v) (Ev.condF (by kernel_rfl) (by kernel_rfl) (Ev.piecesA (k := 1) (t1 := y66T10 v) (m1 := y66M7 v) (Ev.condF (by kernel_rfl) (by kernel_rfl) (Ev.piecesA (k := 1) (t1 := y66T11 v) (m1 := y66M7 v) (Ev.condF (by kernel_rfl) (by kernel_rfl) (Ev.piecesA (k := 1) (t1 := y66T12 v) (m1 := y66M7 v) (Ev.condT (by kernel_rfl) (by kernel_rfl) (Ev.regA (EvO.opA (t2 := y66T13 v) (m1 := y66M7 v) (v := .i (v.p + v.q)) (k := 6) (t1 := (y66T13 v)) (symI (a := wrapF .i64 (addF v.p v.q)) (z := (v.p + v.q)) (by kernel_rfl) (sAdd (by have := H.b; omega))) EvO.opsA))))))))))) (Ev.seqPA (t1 := y66T17 v) (m1 := y66M18 v) (Ev.regA (EvO.callA (t2 := y66T16 v) (m1 := y66M15 v) (ix := [2]) (k := 1) (t1 := (y66T16 v)) (args := [.w 2, .f 155 [] []]) (a := []) (cc := []) (y67_run v H) EvO.opsA)) Ev.codeA)))))
def y65T4 (v : PyV) : Fr := puF (y65T3 v) [(6, .u (.l 3 [[.n 0, .n 2, .n (v.p + v.q)]])), (7, .i 0), (8, .t [.u (.l 3 [[.n 0, .n 2, .n (v.p + v.q)]]), .i 0]), (15, .t [.u (.l 3 [[.n 0, .n 2, .n (v.p + v.q)]]), .i 0]), (16, .u (.l 3 [[.n 0, .n 2, .n (v.p + v.q)]])), (17, .i 0)]
def y65T5 (v : PyV) : Fr := puF (y65T4 v) [(18, .i 0), (19, .u (.b true))]
noncomputable abbrev y65C7 : Code := cT (dropK 1 (cR (cL (dropK 1 y65C1))))
def y65T6 (v : PyV) : Fr := puF (y65T5 v) [(20, .r 0 0), (21, .r 0 0), (22, .r 0 8), (23, .r 3 0), (24, .r 13 0), (25, .r 13 0), (26, .i 1), (27, .u (.l 3 [[.n 0, .n 2, .n (v.p + v.q)]]))]
noncomputable abbrev y70ev := Ev Tryz.prog eK2 (List.range 600) 300 60 111
noncomputable abbrev y70evL := EvL Tryz.prog eK2 (List.range 600) 300 60 111
def y70M0 (v : PyV) : Mem := [.c [.w 1, .i 562],
  (czy21 v)]
noncomputable abbrev y70C1 : Code := bodyOf Tryz.f111
def y70T1 (v : PyV) : Fr := puF (y52T1 v) [(2, .u (.l 3 [[.n 0, .n 2, .n (v.p + v.q)]]))]
noncomputable abbrev y70C2 : Code := dropK 4 y70C1
def y70T2 (v : PyV) : Fr := puF (y70T1 v) [(32, .u (.l 3 [[.n 0, .n 2, .n (v.p + v.q)]])), (33, .i 1), (34, .i 0)]
noncomputable abbrev y70C6 : Code := cLp (cBd (dropK 1 (cL y70C2)))
def y70T3 (v : PyV) : Fr := puF (y70T2 v) [(35, .u (.b true))]
def y70T4 (v : PyV) : Fr := puF (y70T3 v) [(11, .r 2 0), (36, .q [.n 0, .n 2, .n (v.p + v.q)] 0), (37, .a [.i 0, .i 2, .i (v.p + v.q)])]
def y70M5 (v : PyV) : Mem := paM (y70M0 v) [] [.c [.i 0, .i 2, .i (v.p + v.q)]]
def y70T6 (v : PyV) : Fr := puF (y70T4 v) [(38, .r 2 0), (39, .i 0), (40, .u (.b false)), (41, .u (.b false)), (42, .r 2 2), (43, .i (v.p + v.q))]
def y70T7 (v : PyV) : Fr := puF (y70T6 v) [(44, .u (.b false)), (45, .u (.b false)), (46, .u (.b false)), (47, .r 2 2), (48, .i (v.p + v.q)), (49, .i (v.p + v.q))]
def y70T8 (v : PyV) : Fr := puF (y70T6 v) [(44, .u (.b false)), (45, .u (.b false)), (46, .u (.b false)), (47, .r 2 2), (48, .i (v.p + v.q)), (49, .i (v.p + v.q)), (50, .u (.b false)), (51, .u (.b false))]
def y70T9 (v : PyV) : Fr := puF (y70T6 v) [(44, .u (.b false)), (45, .u (.b false)), (46, .u (.b false)), (47, .r 2 2), (48, .i (v.p + v.q)), (49, .i (v.p + v.q)), (50, .u (.b false)), (51, .u (.b false))]
def y70T10 (v : PyV) : Fr := puF (y70T6 v) [(44, .u (.b false)), (45, .u (.b false)), (46, .u (.b false)), (47, .r 2 2), (48, .i (v.p + v.q)), (49, .i (v.p + v.q)), (50, .u (.b false)), (51, .u (.b false)), (52, .i (v.p + v.q)), (53, .r 2 2), (54, .i (v.p + v.q))]
def y70T11 (v : PyV) : Fr := puF (y70T6 v) [(9, .i 0), (44, .u (.b false)), (45, .u (.b false)), (46, .u (.b false)), (47, .r 2 2), (48, .i (v.p + v.q)), (49, .i (v.p + v.q)), (50, .u (.b false)), (51, .u (.b false)), (52, .i (v.p + v.q)), (53, .r 2 2), (54, .i (v.p + v.q)), (55, .i 0)]
def y70T12 (v : PyV) : Fr := puF (y70T6 v) [(9, .i 0), (34, .i 1), (44, .u (.b false)), (45, .u (.b false)), (46, .u (.b false)), (47, .r 2 2), (48, .i (v.p + v.q)), (49, .i (v.p + v.q)), (50, .u (.b false)), (51, .u (.b false)), (52, .i (v.p + v.q)), (53, .r 2 2), (54, .i (v.p + v.q)), (55, .i 0), (56, .i 1)]
theorem y70n15 (v : PyV) (H : PyB v) : y70ev y70C6 (y70T2 v) (y70M0 v) [(.nrm, (y70T12 v), (y70M5 v))] := Ev.piecesA (k := 2) (t1 := y70T3 v) (m1 := y70M0 v) (Ev.seqPA (t1 := y70T11 v) (m1 := y70M5 v) (Ev.blockP (e := .nrm) (by kernel_rfl) (by kernel_rfl) (Ev.piecesA (k := 1) (t1 := y70T4 v) (m1 := y70M5 v) (Ev.seqPA (t1 := y70T9 v) (m1 := y70M5 v) (Ev.seqPA (t1 := y70T8 v) (m1 := y70M5 v) (Ev.regA (EvO.opA (t2 := y70T6 v) (m1 := y70M5 v) (v := .u (.b false)) (k := 6) (t1 := (y70T6 v)) (symE (b := ltF (v.p + v.q) 0) (by kernel_rfl) (sLtF (by have := H.b; omega))) (EvO.opA (t2 := y70T7 v) (m1 := y70M5 v) (v := .u (.b false)) (k := 5) (t1 := (y70T7 v)) (symE (b := ltF (v.p + v.q) (v.p + v.q)) (by kernel_rfl) (sLtF (by have := H.b; omega))) EvO.opsA))) Ev.codeA) (Ev.regA (EvO.opA (t2 := y70T10 v) (m1 := y70M5 v) (v := .i 0) (k := 3) (t1 := (y70T10 v)) (symI (a := wrapF .i64 (subF (v.p + v.q) (v.p + v.q))) (z := 0) (by kernel_rfl) (sSub (by have := H.b; omega))) EvO.opsA))))) Ev.codeA)
def y70T13 (v : PyV) : Fr := puF (y70T6 v) [(9, .i 0), (34, .i 1), (35, .u (.b false)), (44, .u (.b false)), (45, .u (.b false)), (46, .u (.b false)), (47, .r 2 2), (48, .i (v.p + v.q)), (49, .i (v.p + v.q)), (50, .u (.b false)), (51, .u (.b false)), (52, .i (v.p + v.q)), (53, .r 2 2), (54, .i (v.p + v.q)), (55, .i 0), (56, .i 1)]
def y70T14 (v : PyV) : Fr := puF (y70T6 v) [(9, .i 0), (34, .i 1), (35, .u (.b false)), (44, .u (.b false)), (45, .u (.b false)), (46, .u (.b false)), (47, .r 2 2), (48, .i (v.p + v.q)), (49, .i (v.p + v.q)), (50, .u (.b false)), (51, .u (.b false)), (52, .i (v.p + v.q)), (53, .r 2 2), (54, .i (v.p + v.q)), (55, .i 0), (56, .i 1)]
theorem y70n19 (v : PyV) (H : PyB v) : y70ev y70C6 (y70T12 v) (y70M5 v) [((.ext 0), (y70T14 v), (y70M5 v))] := Ev.seqPA (t1 := y70T13 v) (m1 := y70M5 v) Ev.codeA (Ev.seqE (by intro h; cases h) (by kernel_rfl) Ev.codeA)
theorem y70n20 (v : PyV) (H : PyB v) : y70evL 2 y70C6 299 (y70T12 v) (y70M5 v) [((.ext 0), (y70T14 v), (y70M5 v))] := EvL.last (by intro h; cases h) (y70n19 v H)
theorem y70n21 (v : PyV) (H : PyB v) : y70evL 2 y70C6 300 (y70T2 v) (y70M0 v) [((.ext 0), (y70T14 v), (y70M5 v))] := EvL.round (t2 := (y70T12 v)) (m2 := (y70M5 v)) (y70n15 v H) (by kernel_rfl) (y70n20 v H)
def y70T16 (v : PyV) : Fr := puF (y70T6 v) [(9, .i 0), (34, .i 1), (35, .u (.b false)), (44, .u (.b false)), (45, .u (.b false)), (46, .u (.b false)), (47, .r 2 2), (48, .i (v.p + v.q)), (49, .i (v.p + v.q)), (50, .u (.b false)), (51, .u (.b false)), (52, .i (v.p + v.q)), (53, .r 2 2), (54, .i (v.p + v.q)), (55, .i 0), (56, .i 1), (57, .i 0), (58, .u (.b false))]
def y70T17 (v : PyV) : Fr := puF (y70T6 v) [(9, .i 0), (34, .i 1), (35, .u (.b false)), (44, .u (.b false)), (45, .u (.b false)), (46, .u (.b false)), (47, .r 2 2), (48, .i (v.p + v.q)), (49, .i (v.p + v.q)), (50, .u (.b false)), (51, .u (.b false)), (52, .i (v.p + v.q)), (53, .r 2 2), (54, .i (v.p + v.q)), (55, .i 0), (56, .i 1), (57, .i 0), (58, .u (.b false))]
def y70T18 (v : PyV) : Fr := puF (y52T18 v) [(2, .u (.l 3 [[.n 0, .n 2, .n (v.p + v.q)]])), (14, .i (500 - v.p - v.f)), (32, .u (.l 3 [[.n 0, .n 2, .n (v.p + v.q)]])), (36, .q [.n 0, .n 2, .n (v.p + v.q)] 0), (37, .a [.i 0, .i 2, .i (v.p + v.q)]), (59, .u (.l 3 [[.n 0, .n 2, .n (v.p + v.q)]])), (63, .q [.n 0, .n 2, .n (v.p + v.q)] 0), (64, .a [.i 0, .i 2, .i (v.p + v.q)]), (65, .t [.i (500 - v.p - v.f), .i 0]), (68, .i 2), (69, .t [.i (500 - v.p - v.f), .i 0]), (70, .i (500 - v.p - v.f))]
def y70M19 (v : PyV) : Mem := paM (y70M5 v) [] [.c [.i 0, .i 2, .i (v.p + v.q)]]
def y70T20 (v : PyV) : Fr := puF (y70T18 v) [(76, .u (.l 3 [[.n 0, .n 2, .n (v.p + v.q)]])), (77, .i 1), (78, .i 0)]
noncomputable abbrev y70C28 : Code := cLp (cBd (dropK 1 (cL (dropK 1 (cR (cR y70C2))))))
def y70T21 (v : PyV) : Fr := puF (y70T20 v) [(79, .u (.b true))]
def y70T22 (v : PyV) : Fr := puF (y70T21 v) [(17, .r 4 0), (80, .q [.n 0, .n 2, .n (v.p + v.q)] 0), (81, .a [.i 0, .i 2, .i (v.p + v.q)])]
def y70M23 (v : PyV) : Mem := paM (y70M19 v) [] [.c [.i 0, .i 2, .i (v.p + v.q)]]
def y70T24 (v : PyV) : Fr := puF (y70T22 v) [(82, .r 4 2), (83, .i (v.p + v.q))]
def y70T25 (v : PyV) : Fr := puF (y70T24 v) [(84, .u (.b true))]
def y70T26 (v : PyV) : Fr := puF (y70T24 v) [(84, .u (.b true)), (85, .r 0 0), (86, .i 2097153), (87, .r 4 1), (88, .i 2), (89, .r 4 2), (90, .i (v.p + v.q))]
def y71M0 (v : PyV) : Mem := [.c [.w 1, .i 562],
  (czy21 v)]
def y71T1 (v : PyV) : Fr := Fr.mk [.r 0 0, .i 2097153, .i 2, .i (v.p + v.q), .z, .z, .z, .z, .i 0, .z, .i 2, .i (500 - v.p - v.f), .i 0, .z, .i 2097153, .i 2, .w 2, .i 2, .i 2, .u (.b false), .e 2 1 1 0, .i 2, .t [.i (500 - v.p - v.f), .i 0], .r 0 0, .i 2, .t [.i (500 - v.p - v.f), .i 0], .i (500 - v.p - v.f), .i 0, .i 0, .u (.b false), .z, .i 2] 16 48
def y71M2 (v : PyV) : Mem := paM (y71M0 v) [] [.w 3 1 [[.n 2097153], [.n 2]]]
def y71T3 (v : PyV) : Fr := puF (y71T1 v) [(32, .r 0 0), (33, .i 2097153), (34, .i (v.p + v.q))]
def y71T4 (v : PyV) : Fr := puF (y71T3 v) [(13, .i 0), (35, .i 0)]
def y71T5 (v : PyV) : Fr := puF (y71T4 v) [(36, .i 0), (37, .u (.b true))]
def y71T6 (v : PyV) : Fr := puF (y71T5 v) [(38, .r 0 0), (39, .i 2097153), (40, .i (v.p + v.q))]
def y71T7 (v : PyV) : Fr := puF (y71T6 v) [(41, .i (0 - v.p - v.q))]
def y71T8 (v : PyV) : Fr := puF (y71T7 v) [(42, .t [])]
def y71M9 (v : PyV) : Mem := [.c [.w 3, .i (562 - v.p - v.q)],
  (czy21 v),
  .w 3 1 [[.n 2097153], [.n 2]],
  (czy24 v)]
def y71T10 (v : PyV) : Fr := puF (y71T7 v) [(42, .t []), (43, .r 0 0), (44, .i 2), (45, .i (v.p + v.q))]
noncomputable abbrev y72evD := EvD Tryz.prog eK2 (List.range 600) 300 60
def y72M0 (v : PyV) : Mem := [.c [.w 1, .i (562 - v.p - v.q)],
  (czy24 v)]
noncomputable abbrev y72C1 : Code := bodyOf Tryz.f93
def y72T1 (v : PyV) : Fr := Fr.mk [.r 0 0, .i 2, .i (v.p + v.q), .z, .z, .z, .i (500 - v.p - v.f), .u (.b true), .t [.i (500 - v.p - v.f), .u (.b true)], .r 0 0, .r 0 0, .r 0 0, .i 2, .a [.i 2, .i 0, .i 0, .i 0], .t [.i (500 - v.p - v.f), .u (.b true)], .i (500 - v.p - v.f), .u (.b true)] 17 34
noncomputable abbrev y72C3 : Code := cL (dropK 1 y72C1)
def y72T2 (v : PyV) : Fr := puF (y72T1 v) [(17, .r 0 0), (18, .r 0 0), (19, .r 0 0), (20, .i 2), (22, .i (500 - v.p - v.f)), (23, .i (v.p + v.q))]
def y72T3 (v : PyV) : Fr := puF (y72T2 v) [(21, .a [.i 2, .i 0, .i 0, .i 0]), (24, .i (500 + v.q - v.f)), (25, .u (.b false))]
def y72M4 (v : PyV) : Mem := [.c [.w 3, .i (562 - v.p - v.q)],
  (czy24 v),
  .c [.i 2, .i 0, .i 0, .i 0],
  (czy25 v)]
theorem y72n1 (v : PyV) (H : PyB v) : y72evD (cOp y72C3) (0, [8, 4, 7, 6, 5, 3, 2, 1, 0], [], (y72T3 v), (y72M4 v)) [((y72T3 v), (y72M4 v))] := EvD.codeA
theorem y72n2 (v : PyV) (H : PyB v) : y72evD (cOp y72C3) (2, [7, 6, 5, 3, 2, 1, 0], cond (pureOp (opAt (cOp y72C3) 7)) [] ((7, srcF (y72T2 v) (opAt (cOp y72C3) 7)) :: []), (cPut (opAt (cOp y72C3) 7).dst).p (y72T2 v) (.i (500 + v.q - v.f)), (y72M0 v)) [((y72T3 v), (y72M4 v))] := EvD.stepsA (j := 2) (y72n1 v H)
theorem y72n3 (v : PyV) (H : PyB v) : y72evD (cOp y72C3) (3, [6, 5, 3, 2, 1, 0], [], (y72T2 v), (y72M0 v)) [((y72T3 v), (y72M4 v))] := EvD.op (t2 := (y72T2 v)) (v := .i (500 + v.q - v.f)) 7 (by kernel_rfl) (by kernel_rfl) (by kernel_rfl) (symI1 (a := wrapF .i64 (addF (500 - v.p - v.f) (v.p + v.q))) (z := (500 + v.q - v.f)) (by kernel_rfl) (sAdd (by have := H.b; omega))) (y72n2 v H)
def y72M6 (v : PyV) : Mem := [.c [.w 2, .i (562 - v.p - v.q)],
  (czy24 v),
  (czy25 v)]
def y72T7 (v : PyV) : Fr := puF (y72T3 v) [(26, .r 0 0), (27, .r 0 0), (28, .r 0 1), (29, .i (562 - v.p - v.q)), (30, .i (v.p + v.q))]
def y72T8 (v : PyV) : Fr := puF (y72T7 v) [(31, .i 562), (32, .r 0 0), (33, .r 0 1)]
def y72M9 (v : PyV) : Mem := paM (y72M6 v) [(0, .c [.w 2, .i 562])] []
abbrev y72Mm (v : PyV) : Mem := (y72M9 v)
theorem y72_run (v : PyV) (H : PyB v) : PRun Tryz.prog 93 (y72M0 v) [.r 0 0, .i 2, .i (v.p + v.q)] fun x m => x = .t [] ∧ m = (y72Mm v) := Ev.runA eK2 Tryz.func93 (c := y72C1) (r := (.nrm, (y72T8 v), (y72M9 v))) (Ev.piecesA (k := 1) (t1 := y72T1 v) (m1 := y72M0 v) (Ev.seqPA (t1 := y72T3 v) (m1 := y72M6 v) (Ev.regD2 (outs := [((y72T3 v), (y72M4 v))]) (by kernel_rfl) (by kernel_rfl) (by kernel_rfl) (EvD.stepsA (j := 6) (y72n3 v H)) ⟨by kernel_rfl, trivial⟩) (Ev.regA (EvO.opA (t2 := y72T7 v) (m1 := y72M6 v) (v := .i 562) (k := 5) (t1 := (y72T7 v)) (symI (a := wrapF .i64 (addF (562 - v.p - v.q) (v.p + v.q))) (z := 562) (by kernel_rfl) (sAdd (by have := H.b; omega))) EvO.opsA))))
def y71T11 (v : PyV) : Fr := puF (y71T7 v) [(42, .t []), (43, .r 0 0), (44, .i 2), (45, .i (v.p + v.q)), (46, .t [])]
def y71M12 (v : PyV) : Mem := paM (y71M9 v) [(0, .c [.w 4, .i 562])] [(czy25 v)]
def y71T13 (v : PyV) : Fr := puF (y71T7 v) [(42, .t []), (43, .r 0 0), (44, .i 2), (45, .i (v.p + v.q)), (46, .t []), (47, .i 0)]
def y71M14 (v : PyV) : Mem := [.c [.w 2, .i 562],
  (czy21 v),
  (czy25 v)]
abbrev y71Mm (v : PyV) : Mem := (y71M14 v)
theorem y71_run (v : PyV) (H : PyB v) : PRun Tryz.prog 40 (y71M0 v) [.r 0 0, .i 2097153, .i 2, .i (v.p + v.q)] fun x m => x = .i 0 ∧ m = (y71Mm v) := Ev.runA eK2 Tryz.func40 (c := (bodyOf Tryz.f40)) (r := (.ret, (y71T13 v), (y71M12 v))) (Ev.piecesA (k := 2) (t1 := y71T1 v) (m1 := y71M2 v) (Ev.seqPA (t1 := y71T4 v) (m1 := y71M2 v) (Ev.regA (EvO.callA (t2 := y71T3 v) (m1 := y71M2 v) (ix := [0, 1]) (k := 3) (t1 := (y71T3 v)) (args := [.r 0 0, .i 2097153, .i (v.p + v.q)]) (a := []) (cc := []) (y54_run v H) EvO.opsA)) (Ev.seqPA (t1 := y71T11 v) (m1 := y71M12 v) (Ev.piecesA (k := 1) (t1 := y71T5 v) (m1 := y71M2 v) (Ev.condT (by kernel_rfl) (by kernel_rfl) (Ev.seqPA (t1 := y71T8 v) (m1 := y71M9 v) (Ev.regA (EvO.opA (t2 := y71T6 v) (m1 := y71M2 v) (v := .i (0 - v.p - v.q)) (k := 3) (t1 := (y71T6 v)) (symI (a := IntKind.wrap .i64 (0 - (v.p + v.q))) (z := (0 - v.p - v.q)) (by kernel_rfl) (sNeg (by have := H.b; omega))) (EvO.callA (t2 := y71T7 v) (m1 := y71M2 v) (ix := [0, 1]) (k := 0) (t1 := (y71T7 v)) (args := [.r 0 0, .i 2097153, .i (0 - v.p - v.q)]) (a := []) (cc := []) (y55_run v H) EvO.opsA))) (Ev.regA (EvO.callA (t2 := y71T10 v) (m1 := y71M9 v) (ix := [0, 3]) (k := 3) (t1 := (y71T10 v)) (args := [.r 0 0, .i 2, .i (v.p + v.q)]) (a := []) (cc := []) (y72_run v H) EvO.opsA))))) Ev.codeA)))
def y70T27 (v : PyV) : Fr := puF (y70T24 v) [(84, .u (.b true)), (85, .r 0 0), (86, .i 2097153), (87, .r 4 1), (88, .i 2), (89, .r 4 2), (90, .i (v.p + v.q)), (91, .i 0)]
def y70M28 (v : PyV) : Mem := paM (y70M23 v) [(0, .c [.w 5, .i 562])] [(czy25 v)]
def y70T29 (v : PyV) : Fr := puF (y70T24 v) [(78, .i 1), (84, .u (.b true)), (85, .r 0 0), (86, .i 2097153), (87, .r 4 1), (88, .i 2), (89, .r 4 2), (90, .i (v.p + v.q)), (91, .i 0), (92, .i 1)]
theorem y70n41 (v : PyV) (H : PyB v) : y70ev y70C28 (y70T20 v) (y70M19 v) [(.nrm, (y70T29 v), (y70M28 v))] := Ev.piecesA (k := 2) (t1 := y70T21 v) (m1 := y70M19 v) (Ev.seqPA (t1 := y70T27 v) (m1 := y70M28 v) (Ev.blockP (e := .nrm) (by kernel_rfl) (by kernel_rfl) (Ev.piecesA (k := 1) (t1 := y70T22 v) (m1 := y70M23 v) (Ev.seqPA (t1 := y70T25 v) (m1 := y70M23 v) (Ev.regA (EvO.opA (t2 := y70T24 v) (m1 := y70M23 v) (v := .u (.b true)) (k := 2) (t1 := (y70T24 v)) (symE (b := ltF 0 (v.p + v.q)) (by kernel_rfl) (sLtT (by have := H.b; omega))) EvO.opsA)) (Ev.condT (by kernel_rfl) (by kernel_rfl) (Ev.regA (EvO.callA (t2 := y70T26 v) (m1 := y70M23 v) (ix := [0, 1]) (k := 6) (t1 := (y70T26 v)) (args := [.r 0 0, .i 2097153, .i 2, .i (v.p + v.q)]) (a := []) (cc := []) (y71_run v H) EvO.opsA)))))) Ev.codeA)
def y70T30 (v : PyV) : Fr := puF (y70T24 v) [(78, .i 1), (79, .u (.b false)), (84, .u (.b true)), (85, .r 0 0), (86, .i 2097153), (87, .r 4 1), (88, .i 2), (89, .r 4 2), (90, .i (v.p + v.q)), (91, .i 0), (92, .i 1)]
def y70T31 (v : PyV) : Fr := puF (y70T24 v) [(78, .i 1), (79, .u (.b false)), (84, .u (.b true)), (85, .r 0 0), (86, .i 2097153), (87, .r 4 1), (88, .i 2), (89, .r 4 2), (90, .i (v.p + v.q)), (91, .i 0), (92, .i 1)]
theorem y70n45 (v : PyV) (H : PyB v) : y70ev y70C28 (y70T29 v) (y70M28 v) [((.ext 4), (y70T31 v), (y70M28 v))] := Ev.seqPA (t1 := y70T30 v) (m1 := y70M28 v) Ev.codeA (Ev.seqE (by intro h; cases h) (by kernel_rfl) Ev.codeA)
theorem y70n46 (v : PyV) (H : PyB v) : y70evL 4 y70C28 299 (y70T29 v) (y70M28 v) [((.ext 4), (y70T31 v), (y70M28 v))] := EvL.last (by intro h; cases h) (y70n45 v H)
theorem y70n47 (v : PyV) (H : PyB v) : y70evL 4 y70C28 300 (y70T20 v) (y70M19 v) [((.ext 4), (y70T31 v), (y70M28 v))] := EvL.round (t2 := (y70T29 v)) (m2 := (y70M28 v)) (y70n41 v H) (by kernel_rfl) (y70n46 v H)
def y70T32 (v : PyV) : Fr := puF (y70T24 v) [(78, .i 1), (79, .u (.b false)), (84, .u (.b true)), (85, .r 0 0), (86, .i 2097153), (87, .r 4 1), (88, .i 2), (89, .r 4 2), (90, .i (v.p + v.q)), (91, .i 0), (92, .i 1)]
def y70M33 (v : PyV) : Mem := [.c [.w 2, .i 562],
  (czy21 v),
  (czy25 v)]
abbrev y70Mm (v : PyV) : Mem := (y70M33 v)
theorem y70_run (v : PyV) (H : PyB v) : PRun Tryz.prog 111 (y70M0 v) [.r 0 0, .i 1, .u (.l 3 [[.n 0, .n 2, .n (v.p + v.q)]])] fun x m => x = .i 0 ∧ m = (y70Mm v) := Ev.runA eK2 Tryz.func111 (c := y70C1) (r := (.ret, (y70T32 v), (y70M28 v))) (Ev.piecesA (k := 4) (t1 := y70T1 v) (m1 := y70M0 v) (Ev.seqPA (t1 := y70T14 v) (m1 := y70M5 v) (Ev.piecesA (k := 1) (t1 := y70T2 v) (m1 := y70M0 v) (Ev.blockP (e := .ext 0) (by kernel_rfl) (by kernel_rfl) (Ev.loopP (n0 := 2) (by kernel_rfl) (by kernel_rfl) (y70n21 v H)))) (Ev.seqPA (t1 := y70T17 v) (m1 := y70M5 v) (Ev.seqPA (t1 := y70T16 v) (m1 := y70M5 v) (Ev.regA EvO.opsA) Ev.codeA) (Ev.piecesA (k := 1) (t1 := y70T18 v) (m1 := y70M19 v) (Ev.seqPA (t1 := y70T31 v) (m1 := y70M28 v) (Ev.piecesA (k := 1) (t1 := y70T20 v) (m1 := y70M19 v) (Ev.blockP (e := .ext 4) (by kernel_rfl) (by kernel_rfl) (Ev.loopP (n0 := 4) (by kernel_rfl) (by kernel_rfl) (y70n47 v H)))) Ev.codeA)))))
def y65T7 (v : PyV) : Fr := puF (y65T6 v) [(28, .i 0)]
def y65M8 (v : PyV) : Mem := paM (y65M2 v) [(3, .c [.w 15, .i 562])] [(czy25 v)]
theorem y65n4 (v : PyV) (H : PyB v) : y65evD (cOp y65C7) (0, [8, 7, 6, 5, 4, 3, 2, 1, 0], [(6, [13]), (3, [0]), (0, [12])], (y65T7 v), (y65M8 v)) [((y65T7 v), (y65M8 v))] := EvD.codeA
theorem y65n5 (v : PyV) (H : PyB v) : y65evD (cOp y65C7) (0, [8, 7, 6, 5, 4, 3, 2, 1, 0], [(6, [13]), (3, [0]), (0, [12])], (cPut (opAt (cOp y65C7) 8).dst).p (y65T6 v) (renV (fK [3, 8] ((y65M2 v)).length) (.i 0)), backM (y65M2 v) [3, 8] ((y70Mm v))) [((y65T7 v), (y65M8 v))] := EvD.stepsA (j := 0) (y65n4 v H)
theorem y65n6 (v : PyV) (H : PyB v) : y65evD (cOp y65C7) (1, [7, 6, 5, 4, 3, 2, 1, 0], [(6, [13]), (3, [0]), (0, [12])], (y65T6 v), (y65M2 v)) [((y65T7 v), (y65M8 v))] := EvD.oneA 8 (EvE.callA (args := [.r 3 0, .i 1, .u (.l 3 [[.n 0, .n 2, .n (v.p + v.q)]])]) (a := []) (cc := []) 8 (y70_run v H) (y65n5 v H))
def y65T9 (v : PyV) : Fr := puF (y65T6 v) [(28, .i 0)]
def y65T10 (v : PyV) : Fr := puF (y65T6 v) [(28, .i 0), (29, .r 0 0), (30, .r 0 0), (31, .r 0 12), (32, .w 7), (33, .r 13 0), (34, .r 13 0), (35, .i 1), (36, .i 0), (37, (czy211 v)), (38, .e 7 19 0 0), (39, .r 0 0), (40, .r 13 0), (41, .r 13 0), (42, .i 1), (43, .f 112 [] [.r 12 0]), (44, .t []), (45, .r 0 0), (46, .r 0 0), (47, .r 0 11), (48, .r 6 0), (49, .r 13 20), (50, .i 1), (51, .r 13 0), (52, .r 13 0), (53, .i 1), (54, .r 13 19), (55, .i 4), (56, .a [.i 1, .i 2, .i 1, .i 4]), (57, .i 0)]
def y65M11 (v : PyV) : Mem := paM (y65M8 v) [(5, .c [.v 10 3 0 0 false, .m 11, .i 256, .i 3]), (6, .c [.w 16, .m 17]), (7, (czy29 v)), (11, .p .n 1 false [])] [.w 54 4 [[.n 1, .n 2, .n 1, .n 4]],
  .p (.a 2) 1 false [(.a [2, 1], [.n 0])]]
def y65M12 (v : PyV) : Mem := paM (y65M0 v) [(3, .c [.w 12, .i 562]), (5, .c [.v 10 3 0 0 false, .m 11, .i 256, .i 3]), (6, .c [.w 13, .m 14]), (7, (czy29 v)), (11, .p .n 1 false [])] [(czy25 v),
  .w 54 4 [[.n 1, .n 2, .n 1, .n 4]],
  .p (.a 2) 1 false [(.a [2, 1], [.n 0])]]
abbrev y65Mm (v : PyV) : Mem := (y65M12 v)
theorem y65_run (v : PyV) (H : PyB v) : PRun Tryz.prog 55 (y65M0 v) [.r 0 0, (czy27 v), (czy211 v)] fun x m => x = .t [] ∧ m = (y65Mm v) := Ev.runA eK2 Tryz.func55 (c := y65C1) (r := (.nrm, (y65T10 v), (y65M11 v))) (Ev.piecesA (k := 1) (t1 := y65T1 v) (m1 := y65M2 v) (Ev.seqPA (t1 := y65T9 v) (m1 := y65M8 v) (Ev.seqPA (t1 := y65T4 v) (m1 := y65M2 v) (Ev.regA (EvO.callA (t2 := y65T3 v) (m1 := y65M2 v) (ix := []) (k := 6) (t1 := (y65T3 v)) (args := [(czy210 v), .i 4, .i 0]) (a := []) (cc := []) (y66_run v H) EvO.opsA)) (Ev.piecesA (k := 1) (t1 := y65T5 v) (m1 := y65M2 v) (Ev.condT (by kernel_rfl) (by kernel_rfl) (Ev.regD2 (outs := [((y65T7 v), (y65M8 v))]) (by kernel_rfl) (by kernel_rfl) (by kernel_rfl) (EvD.stepsA (j := 8) (y65n6 v H)) ⟨by kernel_rfl, trivial⟩)))) Ev.codeA))
def y63T12 (v : PyV) : Fr := puF (y63T9 v) [(94, .r 0 0), (95, (czy210 v)), (96, .i 4), (97, .i 1), (98, (czy27 v)), (99, (czy211 v)), (100, .t [])]
def y63M13 (v : PyV) : Mem := paM (y63M10 v) [(3, .c [.w 20, .i 562]), (5, .c [.v 10 3 0 0 false, .m 11, .i 256, .i 3]), (6, .c [.w 21, .m 22]), (7, (czy29 v)), (11, .p .n 1 false [])] [(czy25 v),
  .w 54 4 [[.n 1, .n 2, .n 1, .n 4]],
  .p (.a 2) 1 false [(.a [2, 1], [.n 0])]]
def y63T14 (v : PyV) : Fr := puF (y63T9 v) [(94, .r 0 0), (95, (czy210 v)), (96, .i 4), (97, .i 1), (98, (czy27 v)), (99, (czy211 v)), (100, .t [])]
def y63M15 (v : PyV) : Mem := [.c [.i 4, .w 1, .i 2, .w 2, .i 3, .i 200, .i 1, .i 500, .r 3 0, .r 4 0, .r 5 0, .r 6 0, .w 7],
  czy213,
  czy218,
  .c [.w 12, .i 562],
  .c [.w 13, czy217],
  .c [.v 10 3 0 0 false, .m 11, .i 256, .i 3],
  .c [.w 14, .m 15],
  (czy29 v),
  (czy21 v),
  czy20,
  .w 136 3 [[.n 20, .n 2, .n 3]],
  .p .n 1 false [],
  (czy25 v),
  czy23,
  .w 54 4 [[.n 1, .n 2, .n 1, .n 4]],
  .p (.a 2) 1 false [(.a [2, 1], [.n 0])]]
abbrev y63Mm (v : PyV) : Mem := (y63M15 v)
theorem y63_run (v : PyV) (H : PyB v) : PRun Tryz.prog 13 (y63M0 v) [.r 0 0, .i 1, .i 1, .i 4] fun x m => x = .i 0 ∧ m = (y63Mm v) := Ev.runA eK2 Tryz.func13 (c := (bodyOf Tryz.f13)) (r := (.ret, (y63T14 v), (y63M13 v))) (Ev.piecesA (k := 1) (t1 := y63T1 v) (m1 := y63M0 v) (Ev.seqPA (t1 := y63T3 v) (m1 := y63M4 v) (Ev.regA (EvO.callA (t2 := y63T2 v) (m1 := y63M0 v) (ix := [0, 1, 2, 3, 4, 5, 6, 7, 8, 9, 10, 11]) (k := 2) (t1 := (y63T2 v)) (args := [.r 0 0, .i 1]) (a := []) (cc := []) (y40_run v H) EvO.opsA)) (Ev.piecesA (k := 1) (t1 := y63T5 v) (m1 := y63M4 v) (Ev.seqPA (t1 := y63T7 v) (m1 := y63M8 v) (Ev.regA (EvO.callA (t2 := y63T6 v) (m1 := y63M4 v) (ix := []) (k := 2) (t1 := (y63T6 v)) (args := [(czy210 v), .i 4]) (a := []) (cc := []) (y64_run v H) EvO.opsA)) (Ev.piecesA (k := 5) (t1 := y63T9 v) (m1 := y63M10 v) (Ev.seqPA (t1 := y63T12 v) (m1 := y63M13 v) (Ev.regA (EvO.callA (t2 := y63T11 v) (m1 := y63M10 v) (ix := [0, 1, 2, 3, 4, 5, 6, 7, 8, 19, 10, 11]) (k := 6) (t1 := (y63T11 v)) (args := [.r 0 0, (czy27 v), (czy211 v)]) (a := []) (cc := []) (y65_run v H) EvO.opsA)) Ev.codeA))))))
def pyA1T37 (v : PyV) : Fr := puF (pyA0T25 v) [(83, .i (500 - v.p)), (84, .r 19 12), (85, .i v.f), (86, .i (500 - v.p - v.f)), (87, .u (.b false)), (88, .u (.b false)), (89, .i 60), (90, .u (.b false)), (91, .u (.b false)), (92, .i v.e), (93, .i 1), (108, .u (.b false)), (109, .u (.b false)), (119, .u (.b true)), (120, .u (.b true)), (121, .r 10 0), (122, .r 0 0), (123, .i 1), (124, .i 0), (125, .u (.b false))]
def pyA1M38 (v : PyV) : Mem := paM (pyA1M24 v) [(3, .c [.w 20, .i 562]), (5, .c [.w 21, czy217]), (7, .c [.v 18 3 0 0 false, .m 8, .i 256, .i 3]), (8, .p .n 1 false []), (9, .c [.w 22, .m 23]), (13, (czy29 v))] [(czy25 v),
  czy23,
  .w 54 4 [[.n 1, .n 2, .n 1, .n 4]],
  .p (.a 2) 1 false [(.a [2, 1], [.n 0])]]
def pyA1T39 (v : PyV) : Fr := puF (pyA0T25 v) [(83, .i (500 - v.p)), (84, .r 19 12), (85, .i v.f), (86, .i (500 - v.p - v.f)), (87, .u (.b false)), (88, .u (.b false)), (89, .i 60), (90, .u (.b false)), (91, .u (.b false)), (92, .i v.e), (93, .i 1), (108, .u (.b false)), (109, .u (.b false)), (119, .u (.b true)), (120, .u (.b true)), (121, .r 10 0), (122, .r 0 0), (123, .i 1), (124, .i 0), (125, .u (.b false))]
def pyA1T40 (v : PyV) : Fr := puF (pyA0T25 v) [(83, .i (500 - v.p)), (84, .r 19 12), (85, .i v.f), (86, .i (500 - v.p - v.f)), (87, .u (.b false)), (88, .u (.b false)), (89, .i 60), (90, .u (.b false)), (91, .u (.b false)), (92, .i v.e), (93, .i 1), (108, .u (.b false)), (109, .u (.b false)), (119, .u (.b true)), (120, .u (.b true)), (121, .r 10 0), (122, .r 0 0), (123, .i 1), (124, .i 0), (125, .u (.b false)), (126, .i (500 - v.p - v.f)), (127, .r 12 8), (128, .i v.p)]
def pyA1T41 (v : PyV) : Fr := puF (pyA0T25 v) [(83, .i (500 - v.p)), (84, .r 19 12), (85, .i v.f), (86, .i (500 - v.p - v.f)), (87, .u (.b false)), (88, .u (.b false)), (89, .i 60), (90, .u (.b false)), (91, .u (.b false)), (92, .i v.e), (93, .i 1), (108, .u (.b false)), (109, .u (.b false)), (119, .u (.b true)), (120, .u (.b true)), (121, .r 10 0), (122, .r 0 0), (123, .i 1), (124, .i 0), (125, .u (.b false)), (126, .i (500 - v.p - v.f)), (127, .r 12 8), (128, .i v.p), (129, .i (500 - v.f)), (130, .r 12 9), (131, .i v.q)]
def pyA1T42 (v : PyV) : Fr := puF (pyA0T25 v) [(12, .i (500 + v.q - v.f)), (83, .i (500 - v.p)), (84, .r 19 12), (85, .i v.f), (86, .i (500 - v.p - v.f)), (87, .u (.b false)), (88, .u (.b false)), (89, .i 60), (90, .u (.b false)), (91, .u (.b false)), (92, .i v.e), (93, .i 1), (108, .u (.b false)), (109, .u (.b false)), (119, .u (.b true)), (120, .u (.b true)), (121, .r 10 0), (122, .r 0 0), (123, .i 1), (124, .i 0), (125, .u (.b false)), (126, .i (500 - v.p - v.f)), (127, .r 12 8), (128, .i v.p), (129, .i (500 - v.f)), (130, .r 12 9), (131, .i v.q), (132, .i (500 + v.q - v.f))]
def pyA1T43 (v : PyV) : Fr := puF (pyA0T25 v) [(12, .i (500 + v.q - v.f)), (83, .i (500 - v.p)), (84, .r 19 12), (85, .i v.f), (86, .i (500 - v.p - v.f)), (87, .u (.b false)), (88, .u (.b false)), (89, .i 60), (90, .u (.b false)), (91, .u (.b false)), (92, .i v.e), (93, .i 1), (108, .u (.b false)), (109, .u (.b false)), (119, .u (.b true)), (120, .u (.b true)), (121, .r 10 0), (122, .r 0 0), (123, .i 1), (124, .i 0), (125, .u (.b false)), (126, .i (500 - v.p - v.f)), (127, .r 12 8), (128, .i v.p), (129, .i (500 - v.f)), (130, .r 12 9), (131, .i v.q), (132, .i (500 + v.q - v.f)), (133, .i 60), (134, .r 12 9), (135, .i v.q)]
def pyA1T44 (v : PyV) : Fr := puF (pyA0T25 v) [(12, .i (500 + v.q - v.f)), (14, .i (60 - v.q)), (83, .i (500 - v.p)), (84, .r 19 12), (85, .i v.f), (86, .i (500 - v.p - v.f)), (87, .u (.b false)), (88, .u (.b false)), (89, .i 60), (90, .u (.b false)), (91, .u (.b false)), (92, .i v.e), (93, .i 1), (108, .u (.b false)), (109, .u (.b false)), (119, .u (.b true)), (120, .u (.b true)), (121, .r 10 0), (122, .r 0 0), (123, .i 1), (124, .i 0), (125, .u (.b false)), (126, .i (500 - v.p - v.f)), (127, .r 12 8), (128, .i v.p), (129, .i (500 - v.f)), (130, .r 12 9), (131, .i v.q), (132, .i (500 + v.q - v.f)), (133, .i 60), (134, .r 12 9), (135, .i v.q), (136, .i (60 - v.q))]
theorem pyA1n55 (v : PyV) (H : PyH v 1 false) : pyA1ev pyA1C23 (pyA1T29 v) (pyA1M24 v) [(.nrm, (pyA1T44 v), (pyA1M38 v))] := Ev.seqPA (pyA1n31 v H) (Ev.blockP (e := .nrm) (by kernel_rfl) (by kernel_rfl) (Ev.seqPA (t1 := pyA1T33 v) (m1 := pyA1M24 v) (Ev.regA EvO.opsA) (Ev.condF (by kernel_rfl) (by kernel_rfl) (Ev.seqPA (t1 := pyA1T35 v) (m1 := pyA1M24 v) (Ev.regA EvO.opsA) (Ev.condT (by kernel_rfl) (by kernel_rfl) (Ev.seqPA (t1 := pyA1T39 v) (m1 := pyA1M38 v) (Ev.seqPA (t1 := pyA1T37 v) (m1 := pyA1M38 v) (Ev.regA (EvO.callA (t2 := pyA1T36 v) (m1 := pyA1M24 v) (ix := [0, 1, 2, 3, 5, 7, 9, 13, 17, 15, 18, 8]) (k := 3) (t1 := (pyA1T36 v)) (args := [.r 0 0, .i 1, .i 1, .i 4]) (a := []) (cc := []) (y63_run v H.toB) EvO.opsA)) Ev.codeA) (Ev.seqPA (t1 := pyA1T42 v) (m1 := pyA1M38 v) (Ev.regA (EvO.opA (t2 := pyA1T40 v) (m1 := pyA1M38 v) (v := .i (500 - v.f)) (k := 3) (t1 := (pyA1T40 v)) (symI (a := wrapF .i64 (addF (500 - v.p - v.f) v.p)) (z := (500 - v.f)) (by kernel_rfl) (sAdd (by have := H.toB.b; omega))) (EvO.opA (t2 := pyA1T41 v) (m1 := pyA1M38 v) (v := .i (500 + v.q - v.f)) (k := 2) (t1 := (pyA1T41 v)) (symI (a := wrapF .i64 (addF (500 - v.f) v.q)) (z := (500 + v.q - v.f)) (by kernel_rfl) (sAdd (by have := H.toB.b; omega))) EvO.opsA))) (Ev.regA (EvO.opA (t2 := pyA1T43 v) (m1 := pyA1M38 v) (v := .i (60 - v.q)) (k := 3) (t1 := (pyA1T43 v)) (symI (a := wrapF .i64 (subF 60 v.q)) (z := (60 - v.q)) (by kernel_rfl) (sSub (by have := H.toB.b; omega))) EvO.opsA)))))))))
def pyA1T45 (v : PyV) : Fr := puF (pyA0T41 v) [(12, .i (500 + v.q - v.f)), (14, .i (60 - v.q)), (18, .i (500 + v.q - v.f)), (20, .i (60 - v.q)), (93, .i 1), (108, .u (.b false)), (109, .u (.b false)), (110, .z), (111, .z), (112, .z), (113, .z), (114, .z), (115, .z), (116, .z), (117, .z), (118, .z), (119, .u (.b true)), (120, .u (.b true)), (121, .r 10 0), (122, .r 0 0), (123, .i 1), (124, .i 0), (125, .u (.b false)), (126, .i (500 - v.p - v.f)), (127, .r 12 8), (128, .i v.p), (129, .i (500 - v.f)), (130, .r 12 9), (131, .i v.q), (132, .i (500 + v.q - v.f)), (133, .i 60), (134, .r 12 9), (135, .i v.q), (136, .i (60 - v.q)), (137, .t [.i (500 + v.q - v.f), .i 0]), (140, .t [.i (500 + v.q - v.f), .i 0]), (141, .i (500 + v.q - v.f)), (143, .t [.i (60 - v.q), .i 0]), (146, .t [.i (60 - v.q), .i 0]), (147, .i (60 - v.q)), (149, .z), (150, .z), (151, .z)]
def pyA1T46 (v : PyV) : Fr := puF (pyA1T45 v) [(149, .r 10 0), (150, .r 0 0), (151, .i 1)]
def y73M0 (v : PyV) : Mem := [.c [.i 4, .w 1, .i 2, .w 2, .i 3, .i 200, .i 1, .i 500, .r 3 0, .r 4 0, .r 5 0, .r 6 0, .w 7],
  czy213,
  czy218,
  .c [.w 8, .i 562],
  .c [.w 9, czy217],
  .c [.v 10 3 0 0 false, .m 11, .i 256, .i 3],
  .c [.w 12, .m 13],
  (czy29 v),
  (czy25 v),
  czy23,
  .w 136 3 [[.n 20, .n 2, .n 3]],
  .p .n 1 false [],
  .w 54 4 [[.n 1, .n 2, .n 1, .n 4]],
  .p (.a 2) 1 false [(.a [2, 1], [.n 0])]]
noncomputable abbrev y74evD := EvD Tryz.prog eK3 (List.range 600) 300 60
def y74M0 (v : PyV) : Mem := [.c [.i 4, .w 1, .i 2, .w 2, .i 3, .i 200, .i 1, .i 500, .r 3 0, .r 4 0, .r 5 0, .r 6 0, .w 7],
  czy213,
  czy218,
  .c [.w 8, .i 562],
  .c [.w 9, czy217],
  .c [.v 10 3 0 0 false, .m 11, .i 256, .i 3],
  .c [.w 12, .m 13],
  (czy29 v),
  (czy25 v),
  czy23,
  .w 136 3 [[.n 20, .n 2, .n 3]],
  .p .n 1 false [],
  .w 54 4 [[.n 1, .n 2, .n 1, .n 4]],
  .p (.a 2) 1 false [(.a [2, 1], [.n 0])]]
noncomputable abbrev y74C1 : Code := bodyOf Tryz.f12
def y74T1 (v : PyV) : Fr := puF (y58T1 v) [(32, .a [.i 1, .i 1, .i 2, .i 0, .i 2, .i 0, .i 1, .i 2, .i v.p, .i v.q, .i 10, .i 20, .i v.f, .u (.l 2 [[.n 1, .n 5]]), .u (.l 2 []), .i 4, .i 0, .i 1, .i 0])]
def y74M2 (v : PyV) : Mem := paM (y74M0 v) [] [.c [.i 0, .i 0, .i 0, .i 0, .i 0, .i 0, .i 0, .i 0, .i 0, .i 0, .i 0, .i 0, .i 0, .nl 2, .nl 2, .i 0, .i 0, .i 0, .i 0],
  .c [.i 1, .i 1, .i 2, .i 0, .i 2, .i 0, .i 1, .i 2, .i v.p, .i v.q, .i 10, .i 20, .i v.f, .u (.l 2 [[.n 1, .n 5]]), .u (.l 2 []), .i 4, .i 0, .i 1, .i 0]]
noncomputable abbrev y74C3 : Code := cL (dropK 3 y74C1)
def y74T3 (v : PyV) : Fr := puF (y74T1 v) [(33, .r 15 13), (34, .u (.l 2 [[.n 1, .n 5]])), (36, .r 15 14), (37, .u (.l 2 []))]
def y74T4 (v : PyV) : Fr := puF (y74T3 v) [(35, .u (.l 2 [[.n 1, .n 5]])), (39, .r 15 13)]
def y74T5 (v : PyV) : Fr := puF (y74T4 v) [(38, .c 2 []), (40, .r 15 14)]
def y74M6 (v : PyV) : Mem := paM (y74M2 v) [(15, .c [.i 1, .i 1, .i 2, .i 0, .i 2, .i 0, .i 1, .i 2, .i v.p, .i v.q, .i 10, .i 20, .i v.f, .u (.l 2 [[.n 1, .n 5]]), .c 2 [], .i 4, .i 0, .i 1, .i 0])] []
theorem y74n1 (v : PyV) (H : PyB v) : y74evD (cOp y74C3) (0, [9, 8, 7, 5, 6, 2, 4, 3, 1, 0], [(4, [15]), (1, [15])], (y74T5 v), (y74M6 v)) [((y74T5 v), (y74M6 v))] := EvD.codeA
theorem y74n2 (v : PyV) (H : PyB v) : y74evD (cOp y74C3) (3, [5, 6, 2, 4, 3, 1, 0], [(4, [15]), (1, [15])], (cPut (opAt (cOp y74C3) 5).dst).p (y74T4 v) (renV (fK [] ((y74M2 v)).length) (.c 2 [])), backM (y74M2 v) [] ([])) [((y74T5 v), (y74M6 v))] := EvD.stepsA (j := 3) (y74n1 v H)
theorem y74n3 (v : PyV) (H : PyB v) : y74evD (cOp y74C3) (4, [6, 2, 4, 3, 1, 0], [(4, [15]), (1, [15])], (y74T4 v), (y74M2 v)) [((y74T5 v), (y74M6 v))] := EvD.oneA 5 (EvE.callA (args := [.u (.l 2 [])]) (a := []) (cc := []) 5 clone0 (y74n2 v H))
theorem y74n4 (v : PyV) (H : PyB v) : y74evD (cOp y74C3) (5, [2, 4, 3, 1, 0], [(4, [15]), (1, [15])], (cPut (opAt (cOp y74C3) 2).dst).p (y74T3 v) (renV (fK [] ((y74M2 v)).length) (.u (.l 2 [[.n 1, .n 5]]))), backM (y74M2 v) [] ([])) [((y74T5 v), (y74M6 v))] := EvD.stepsA (j := 1) (y74n3 v H)
theorem y74n5 (v : PyV) (H : PyB v) : y74evD (cOp y74C3) (6, [4, 3, 1, 0], [(4, [15]), (1, [15])], (y74T3 v), (y74M2 v)) [((y74T5 v), (y74M6 v))] := EvD.oneA 2 (EvE.callA (args := [.u (.l 2 [[.n 1, .n 5]])]) (a := []) (cc := []) 2 clone1 (y74n4 v H))
def y74T7 (v : PyV) : Fr := puF (y74T4 v) [(38, .c 2 []), (40, .r 15 14)]
def y74T8 (v : PyV) : Fr := puF (y74T4 v) [(38, .c 2 []), (40, .r 15 14), (41, (czy211 v))]
def y74M9 (v : PyV) : Mem := paM (y74M6 v) [(14, .c [.i 1, .i 1, .i 2, .i 0, .i 2, .i 0, .i 1, .i 2, .i v.p, .i v.q, .i 10, .i 20, .i v.f, .u (.l 2 [[.n 1, .n 5]]), .c 2 [], .i 4, .i 0, .i 1, .i 0])] []
abbrev y74Mm (v : PyV) : Mem := (y74M0 v)
theorem y74_run (v : PyV) (H : PyB v) : PRun Tryz.prog 12 (y74M0 v) [.r 0 0, .i 1] fun x m => x = .t [(czy211 v), .i 0] ∧ m = (y74Mm v) := Ev.runA eK3 Tryz.func12 (c := y74C1) (r := (.ret, (y74T8 v), (y74M9 v))) (Ev.piecesA (k := 3) (t1 := y74T1 v) (m1 := y74M2 v) (Ev.seqPA (t1 := y74T7 v) (m1 := y74M6 v) (Ev.regD2 (outs := [((y74T5 v), (y74M6 v))]) (by kernel_rfl) (by kernel_rfl) (by kernel_rfl) (EvD.stepsA (j := 4) (y74n5 v H)) ⟨by kernel_rfl, trivial⟩) Ev.codeA))
def y73T3 (v : PyV) : Fr := Fr.mk [.r 0 0, .i 30, .i 1, .i 4, .z, .z, .z, .z, .i 0, .r 14 0, .i 0, .z, .z, .z, .z, .z, .z, .t [(czy211 v), .i 0], .r 0 0, .i 1, .t [(czy211 v), .i 0], (czy211 v), .i 0] 78 101
def y73M4 (v : PyV) : Mem := paM (y73M0 v) [] [.c [.i 1, .i 1, .i 2, .i 0, .i 2, .i 0, .i 1, .i 2, .i v.p, .i v.q, .i 10, .i 20, .i v.f, .u (.l 2 [[.n 1, .n 5]]), .c 2 [], .i 4, .i 0, .i 1, .i 0]]
def y73T5 (v : PyV) : Fr := puF (y73T3 v) [(23, .u (.b false)), (24, .i 0), (25, .u (.b false)), (27, .u (.b false)), (28, .i 30), (29, .u (.b false)), (30, .u (.b false)), (31, .i 30), (32, .u (.b false)), (33, .u (.b false))]
def y73T6 (v : PyV) : Fr := puF (y73T5 v) [(35, (czy211 v)), (36, .i 4)]
def y75T0 (v : PyV) : Fr := frameF Tryz.prog Tryz.f57 [(czy211 v), .i 4]
def y75M0 (v : PyV) : Mem := []
def y75T1 (v : PyV) : Fr := puF (y75T0 v) [(2, .r 0 0), (4, .r 1 0), (5, .i 0)]
def y75M2 (v : PyV) : Mem := [.c [.i 1, .i 1, .i 2, .i 0, .i 2, .i 0, .i 1, .i 2, .i v.p, .i v.q, .i 10, .i 20, .i v.f, .u (.l 2 [[.n 1, .n 5]]), .c 2 [], .i 4, .i 0, .i 1, .i 0],
  .c [.i 0, .i 0, .i 0, .i 0, .i 0, .i 0, .i 0, .i 0, .i 0, .i 0, .i 0, .i 0, .i 0, .nl 2, .nl 2, .i 0, .i 0, .i 0, .i 0]]
def y75T3 (v : PyV) : Fr := Fr.mk [(czy211 v), .i 4, .r 0 0, .z, .r 1 0, .i 0, .z, (czy211 v)] 13 21
noncomputable abbrev y76ev := Ev Tryz.prog eK2 (List.range 600) 300 60 74
def y76T0 (v : PyV) : Fr := frameF Tryz.prog Tryz.f74 [(czy211 v)]
def y76M0 (v : PyV) : Mem := []
noncomputable abbrev y76C1 : Code := bodyOf Tryz.f74
def y76T1 (v : PyV) : Fr := puF (y76T0 v) [(1, .r 0 0), (2, .i 0)]
def y76M2 (v : PyV) : Mem := [.c [.i 1, .i 1, .i 2, .i 0, .i 2, .i 0, .i 1, .i 2, .i v.p, .i v.q, .i 10, .i 20, .i v.f, .u (.l 2 [[.n 1, .n 5]]), .c 2 [], .i 4, .i 0, .i 1, .i 0]]
noncomputable abbrev y76C2 : Code := dropK 1 y76C1
def y76T3 (v : PyV) : Fr := puF (y76T1 v) [(7, .r 0 0), (8, .i 1)]
def y76T4 (v : PyV) : Fr := puF (y76T3 v) [(9, .u (.b true)), (10, .u (.b true)), (11, .r 0 2), (12, .i 2)]
def y76T5 (v : PyV) : Fr := puF (y76T4 v) [(13, .u (.b true)), (14, .u (.b true)), (15, .u (.b true)), (16, .r 0 4), (17, .i 2)]
def y76T6 (v : PyV) : Fr := puF (y76T5 v) [(18, .u (.b true)), (19, .u (.b true)), (20, .u (.b true)), (21, .r 0 3), (22, .i 0)]
def y76T7 (v : PyV) : Fr := puF (y76T6 v) [(23, .u (.b true)), (24, .u (.b true)), (25, .u (.b true)), (26, .r 0 5), (27, .i 0)]
def y76T8 (v : PyV) : Fr := puF (y32T8 v) [(0, (czy211 v))]
theorem y76n7 (v : PyV) (H : PyB v) : y76ev (cL y76C2) (y76T1 v) (y76M2 v) [(.nrm, (y76T8 v), (y76M2 v))] := Ev.regA (EvO.callA (t2 := y76T3 v) (m1 := y76M2 v) (ix := []) (k := 2) (t1 := (y76T3 v)) (args := [.i 1, .i 1, .i 1099511627776]) (a := []) (cc := []) (y8_run v) (EvO.callA (t2 := y76T4 v) (m1 := y76M2 v) (ix := []) (k := 3) (t1 := (y76T4 v)) (args := [.i 2, .i 1, .i 1099511627776]) (a := []) (cc := []) (y9_run v) (EvO.callA (t2 := y76T5 v) (m1 := y76M2 v) (ix := []) (k := 4) (t1 := (y76T5 v)) (args := [.i 2, .i 1, .i 1099511627776]) (a := []) (cc := []) (y9_run v) (EvO.callA (t2 := y76T6 v) (m1 := y76M2 v) (ix := []) (k := 4) (t1 := (y76T6 v)) (args := [.i 0, .i 0, .i 4]) (a := []) (cc := []) (y10_run v) (EvO.callA (t2 := y76T7 v) (m1 := y76M2 v) (ix := []) (k := 4) (t1 := (y76T7 v)) (args := [.i 0, .i 0, .i 1099511627776]) (a := []) (cc := []) (y5_run v) EvO.opsA)))))
def y76T9 (v : PyV) : Fr := puF (y76T8 v) [(37, .r 0 6), (38, .i 1)]
def y76T10 (v : PyV) : Fr := puF (y76T9 v) [(39, .u (.b true)), (40, .u (.b true)), (41, .r 0 8), (42, .i v.p)]
def y76T11 (v : PyV) : Fr := puF (y76T10 v) [(43, .u (.b true)), (44, .u (.b true)), (45, .u (.b true)), (46, .r 0 12), (47, .i v.f)]
def y76T12 (v : PyV) : Fr := puF (y76T11 v) [(48, .u (.b true)), (49, .u (.b true)), (50, .u (.b true)), (51, .r 0 10), (52, .i 10)]
def y76T13 (v : PyV) : Fr := puF (y76T12 v) [(4, .u (.b true)), (53, .u (.b true)), (54, .u (.b true))]
def y76T14 (v : PyV) : Fr := puF (y60T14 v) [(0, (czy211 v))]
def y76M15 (v : PyV) : Mem := paM (y76M2 v) [] [.c [.i 1, .i 5]]
def y76T16 (v : PyV) : Fr := puF (y76T14 v) [(65, .r 0 1), (66, .i 1)]
def y76T17 (v : PyV) : Fr := puF (y76T16 v) [(67, .u (.b true)), (68, .u (.b true))]
def y76T18 (v : PyV) : Fr := puF (y76T16 v) [(67, .u (.b true)), (68, .u (.b true)), (69, .r 0 7), (70, .i 2)]
def y76T19 (v : PyV) : Fr := puF (y76T16 v) [(67, .u (.b true)), (68, .u (.b true)), (69, .r 0 7), (70, .i 2), (71, .u (.b true)), (72, .u (.b true)), (73, .r 0 11), (74, .i 20)]
def y76T20 (v : PyV) : Fr := puF (y43T20 v) [(0, (czy211 v))]
def y76T21 (v : PyV) : Fr := puF (y32T21 v) [(0, (czy211 v))]
def y76T22 (v : PyV) : Fr := puF (y32T22 v) [(0, (czy211 v)), (126, (czy211 v))]
def y77M0 (v : PyV) : Mem := []
def y77T1 (v : PyV) : Fr := Fr.mk [(czy211 v), .r 0 0, .u (.b false), .u (.b true), .u (.b false), .z, .z, .z, .r 0 1, .i 1, .u (.b true), .r 0 17, .i 1, .u (.b false), .u (.b false), .t [], .t [], .t [], .u (.b false)] 71 90
def y77M2 (v : PyV) : Mem := [.c [.i 1, .i 1, .i 2, .i 0, .i 2, .i 0, .i 1, .i 2, .i v.p, .i v.q, .i 10, .i 20, .i v.f, .u (.l 2 [[.n 1, .n 5]]), .c 2 [], .i 4, .i 0, .i 1, .i 0]]
def y77T3 (v : PyV) : Fr := puF (y77T1 v) [(19, .r 0 17), (20, .i 1)]
def y77T4 (v : PyV) : Fr := puF (y44T4 v) [(0, (czy211 v))]
def y77T5 (v : PyV) : Fr := puF (y77T4 v) [(5, .u (.b true)), (32, .u (.b true)), (33, .u (.b true))]
def y77T6 (v : PyV) : Fr := puF (y77T5 v) [(34, .r 0 16), (35, .i 0)]
def y77T7 (v : PyV) : Fr := puF (y77T6 v) [(6, .u (.b false)), (36, .u (.b false))]
def y77T8 (v : PyV) : Fr := Fr.mk [(czy211 v), .r 0 0, .u (.b true), .u (.b true), .u (.b false), .u (.b true), .u (.b false), .u (.b true), .r 0 1, .i 1, .u (.b true), .r 0 17, .i 1, .u (.b false), .u (.b false), .t [], .t [], .t [], .u (.b false), .r 0 17, .i 1, .u (.b true), .u (.b true), .r 0 17, .i 1, .r 0 2, .i 2, .u (.b true), .u (.b true), .u (.b true), .r 0 18, .i 0, .u (.b true), .u (.b true), .r 0 16, .i 0, .u (.b false), .r 0 16, .i 0, .u (.b true), .r 0 15, .i 4, .u (.b false), .u (.b false), .z, .z, .z, .z, .u (.b false), .u (.b false), .z, .z, .z, .z, .z, .z, .z, .u (.b false), .u (.b false), .z, .z, .z, .z, .u (.b true), .u (.b true), .u (.b true), .u (.b true), .u (.b true), .u (.b true), .u (.b true), .u (.b true), .u (.b true)] 18 90
abbrev y77Mm (v : PyV) : Mem := (y77M0 v)
theorem y77_run (v : PyV) (H : PyB v) : PRun Tryz.prog 130 (y77M0 v) [(czy211 v)] fun x m => x = .u (.b true) ∧ m = (y77Mm v) := Ev.runA eK2 Tryz.func130 (c := (bodyOf Tryz.f130)) (r := (.ret, (y77T8 v), (y77M2 v))) (Ev.piecesA (k := 3) (t1 := y77T1 v) (m1 := y77M2 v) (Ev.seqPA (t1 := y77T5 v) (m1 := y77M2 v) (Ev.regA (EvO.callA (t2 := y77T3 v) (m1 := y77M2 v) (ix := []) (k := 2) (t1 := (y77T3 v)) (args := [.i 1, .i 1, .i 1099511627776]) (a := []) (cc := []) (y8_run v) (EvO.callA (t2 := y77T4 v) (m1 := y77M2 v) (ix := []) (k := 10) (t1 := (y77T4 v)) (args := [.i 0, .i 0, .i 4]) (a := []) (cc := []) (y10_run v) EvO.opsA))) (Ev.seqPA (t1 := y77T7 v) (m1 := y77M2 v) (Ev.regA (EvO.callA (t2 := y77T6 v) (m1 := y77M2 v) (ix := []) (k := 2) (t1 := (y77T6 v)) (args := [.i 0, .i 1, .i 2199023255552]) (a := []) (cc := []) (y62_run v) EvO.opsA)) Ev.codeA)))
def y76T23 (v : PyV) : Fr := puF (y76T22 v) [(127, .u (.b true)), (128, .u (.b true))]
theorem y76n32 (v : PyV) (H : PyB v) : y76ev y76C2 (y76T1 v) (y76M2 v) [(.ret, (y76T23 v), (y76M15 v))] := Ev.seqPA (y76n7 v H) (Ev.seqPA (t1 := y76T13 v) (m1 := y76M2 v) (Ev.regA (EvO.callA (t2 := y76T9 v) (m1 := y76M2 v) (ix := []) (k := 2) (t1 := (y76T9 v)) (args := [.i 1, .i 1, .i 8]) (a := []) (cc := []) (y11_run v) (EvO.callA (t2 := y76T10 v) (m1 := y76M2 v) (ix := []) (k := 3) (t1 := (y76T10 v)) (args := [.i v.p, .i 0, .i 1152921504606846976]) (a := []) (cc := []) (y12_run v H) (EvO.callA (t2 := y76T11 v) (m1 := y76M2 v) (ix := []) (k := 4) (t1 := (y76T11 v)) (args := [.i v.f, .i 0, .i 1152921504606846976]) (a := []) (cc := []) (y33_run v H) (EvO.callA (t2 := y76T12 v) (m1 := y76M2 v) (ix := []) (k := 4) (t1 := (y76T12 v)) (args := [.i 10, .i 1, .i 1048576]) (a := []) (cc := []) (y6_run v) EvO.opsA))))) (Ev.piecesA (k := 2) (t1 := y76T14 v) (m1 := y76M15 v) (Ev.seqPA (t1 := y76T21 v) (m1 := y76M15 v) (Ev.piecesA (k := 1) (t1 := y76T16 v) (m1 := y76M15 v) (Ev.blockP (e := .nrm) (by kernel_rfl) (by kernel_rfl) (Ev.piecesA (k := 1) (t1 := y76T17 v) (m1 := y76M15 v) (Ev.condT (by kernel_rfl) (by kernel_rfl) (Ev.regA (EvO.callA (t2 := y76T18 v) (m1 := y76M15 v) (ix := []) (k := 2) (t1 := (y76T18 v)) (args := [.i 2, .i 1, .i 8]) (a := []) (cc := []) (y14_run v) (EvO.callA (t2 := y76T19 v) (m1 := y76M15 v) (ix := []) (k := 3) (t1 := (y76T19 v)) (args := [.i 20, .i 1, .i 1048576]) (a := []) (cc := []) (y15_run v) (EvO.callA (t2 := y76T20 v) (m1 := y76M15 v) (ix := []) (k := 4) (t1 := (y76T20 v)) (args := [.i v.q, .i 0, .i 1152921504606846976]) (a := []) (cc := []) (y16_run v H) EvO.opsA)))))))) (Ev.seqE (by intro h; cases h) (by kernel_rfl) (Ev.seqPA (t1 := y76T23 v) (m1 := y76M15 v) (Ev.regA (EvO.callA (t2 := y76T22 v) (m1 := y76M15 v) (ix := []) (k := 12) (t1 := (y76T22 v)) (args := [(czy211 v)]) (a := []) (cc := []) (y77_run v H) EvO.opsA)) Ev.codeA)))))
abbrev y76Mm (v : PyV) : Mem := (y76M0 v)
theorem y76_run (v : PyV) (H : PyB v) : PRun Tryz.prog 74 (y76M0 v) [(czy211 v)] fun x m => x = .i 0 ∧ m = (y76Mm v) := Ev.runA eK2 Tryz.func74 (c := y76C1) (r := (.ret, (y76T23 v), (y76M15 v))) (Ev.piecesA (k := 1) (y76n32 v H))
def y75T4 (v : PyV) : Fr := puF (y75T3 v) [(6, .u (.b false)), (8, .i 0), (9, .u (.b false))]
def y75T5 (v : PyV) : Fr := Fr.mk [(czy211 v), .i 4, .r 0 0, .z, .r 1 0, .i 9, .u (.b false), (czy211 v), .i 0, .u (.b false), .z, .u (.b true), (czy211 v), .i 4, .u (.b false), .u (.b true), czy216] 4 21
def y75M6 (v : PyV) : Mem := paM (y75M2 v) [] [.c [.i 1, .i 1, .i 2, .i 0, .i 2, .i 0, .i 1, .i 2, .i v.p, .i v.q, .i 10, .i 20, .i v.f, .u (.l 2 [[.n 1, .n 5]]), .c 2 [], .i 4, .i 0, .i 1, .i 0]]
abbrev y75Mm (v : PyV) : Mem := (y75M0 v)
theorem y75_run (v : PyV) (H : PyB v) : PRun Tryz.prog 57 (y75M0 v) [(czy211 v), .i 4] fun x m => x = .t [czy216, .i 9] ∧ m = (y75Mm v) := Ev.runA eK2 Tryz.func57 (c := (bodyOf Tryz.f57)) (r := (.ret, (y75T5 v), (y75M6 v))) (Ev.piecesA (k := 1) (t1 := y75T1 v) (m1 := y75M2 v) (Ev.seqE (by intro h; cases h) (by kernel_rfl) (Ev.blockP (e := .ret) (by kernel_rfl) (by kernel_rfl) (Ev.seqPA (t1 := y75T4 v) (m1 := y75M2 v) (Ev.regA (EvO.callA (t2 := y75T3 v) (m1 := y75M2 v) (ix := []) (k := 1) (t1 := (y75T3 v)) (args := [(czy211 v)]) (a := []) (cc := []) (y76_run v H) EvO.opsA)) Ev.codeA))))
def y73T7 (v : PyV) : Fr := puF (y73T6 v) [(10, .i 9), (11, .r 15 0), (34, .t [czy216, .i 9]), (37, .t [czy216, .i 9]), (38, czy216), (39, .i 9)]
def y73M8 (v : PyV) : Mem := paM (y73M4 v) [] [.c [.i 0, .i 0, .i 0, .i 0, .i 0, .i 0, .i 0, .i 0, .i 0, .i 0, .i 0, .i 0, .i 0, .nl 2, .nl 2, .i 0, .i 0, .i 0, .i 0]]
def y73T9 (v : PyV) : Fr := puF (y73T7 v) [(8, .i 9), (40, .i 9), (41, .u (.b true)), (42, .i 9)]
abbrev y73Mm (v : PyV) : Mem := (y73M0 v)
theorem y73_run (v : PyV) (H : PyB v) : PRun Tryz.prog 13 (y73M0 v) [.r 0 0, .i 30, .i 1, .i 4] fun x m => x = .i 9 ∧ m = (y73Mm v) := Ev.runA eK2 Tryz.func13 (c := (bodyOf Tryz.f13)) (r := (.ret, (y73T9 v), (y73M8 v))) (Ev.piecesA (k := 1) (t1 := y57T1 v) (m1 := y73M0 v) (Ev.seqPA (t1 := y73T3 v) (m1 := y73M4 v) (Ev.regA (EvO.callA (t2 := y57T2 v) (m1 := y73M0 v) (ix := [0, 1, 2, 3, 4, 5, 6, 7, 8, 9, 10, 11, 12, 13]) (k := 2) (t1 := (y57T2 v)) (args := [.r 0 0, .i 1]) (a := []) (cc := []) (y74_run v H) EvO.opsA)) (Ev.piecesA (k := 1) (t1 := y73T5 v) (m1 := y73M4 v) (Ev.seqPA (t1 := y73T7 v) (m1 := y73M8 v) (Ev.regA (EvO.callA (t2 := y73T6 v) (m1 := y73M4 v) (ix := []) (k := 2) (t1 := (y73T6 v)) (args := [(czy211 v), .i 4]) (a := []) (cc := []) (y75_run v H) EvO.opsA)) (Ev.seqE (by intro h; cases h) (by kernel_rfl) Ev.codeA)))))
def pyA1T47 (v : PyV) : Fr := puF (pyA1T46 v) [(22, .i 9), (152, .i 9)]
def pyA1T48 (v : PyV) : Fr := puF (pyA1T47 v) [(153, .i (500 + v.q - v.f)), (154, .i (500 + v.q - v.f))]
def pyA1T49 (v : PyV) : Fr := puF (pyA1T48 v) [(155, .u (.b true)), (156, .u (.b true)), (157, .i (60 - v.q)), (158, .i (60 - v.q))]
def pyA1T50 (v : PyV) : Fr := puF (pyA1T49 v) [(159, .u (.b true)), (160, .u (.b true)), (161, .u (.b true)), (162, .i 0), (163, .u (.b true)), (164, .u (.b true)), (165, .u (.b true)), (166, .i 0), (167, .u (.b true)), (168, .u (.b true)), (169, .u (.b true)), (170, .i 9), (171, .u (.b true)), (172, .u (.b true)), (173, .u (.b true))]
def pyA1T51 (v : PyV) : Fr := puF (pyA1T49 v) [(6, .u (.b true)), (159, .u (.b true)), (160, .u (.b true)), (161, .u (.b true)), (162, .i 0), (163, .u (.b true)), (164, .u (.b true)), (165, .u (.b true)), (166, .i 0), (167, .u (.b true)), (168, .u (.b true)), (169, .u (.b true)), (170, .i 9), (171, .u (.b true)), (172, .u (.b true)), (173, .u (.b true)), (174, .u (.b true)), (175, .u (.b true))]
def pyA1T52 (v : PyV) : Fr := puF (pyA1T49 v) [(6, .u (.b true)), (159, .u (.b true)), (160, .u (.b true)), (161, .u (.b true)), (162, .i 0), (163, .u (.b true)), (164, .u (.b true)), (165, .u (.b true)), (166, .i 0), (167, .u (.b true)), (168, .u (.b true)), (169, .u (.b true)), (170, .i 9), (171, .u (.b true)), (172, .u (.b true)), (173, .u (.b true)), (174, .u (.b true)), (175, .u (.b true))]
theorem pyA1n70 (v : PyV) (H : PyH v 1 false) : pyA1ev pyA1C16 (pyA0T19 v) (pyA1M20 v) [(.ret, (pyA1T52 v), (pyA1M38 v))] := Ev.seqPA (t1 := pyA0T23 v) (m1 := pyA1M24 v) (Ev.regA (EvO.callA (t2 := pyA0T22 v) (m1 := pyA1M20 v) (ix := [0, 1, 2, 3, 5, 7, 9, 13, 17, 15, 18, 8]) (k := 3) (t1 := (pyA0T22 v)) (args := [.r 0 0, .i 1]) (a := []) (cc := []) (y40_run v H.toB) EvO.opsA)) (Ev.seqPA (t1 := pyA1T29 v) (m1 := pyA1M24 v) (Ev.seqPA (t1 := pyA1T28 v) (m1 := pyA1M24 v) (Ev.regA (EvO.opA (t2 := pyA0T25 v) (m1 := pyA1M24 v) (v := .i (500 - v.p)) (k := 3) (t1 := (pyA0T25 v)) (symI (a := wrapF .i64 (subF 500 v.p)) (z := (500 - v.p)) (by kernel_rfl) (sSub (by have := H.toB.b; omega))) (EvO.opA (t2 := pyA1T26 v) (m1 := pyA1M24 v) (v := .i (500 - v.p - v.f)) (k := 2) (t1 := (pyA1T26 v)) (symI (a := wrapF .i64 (subF (500 - v.p) v.f)) (z := (500 - v.p - v.f)) (by kernel_rfl) (sSub (by have := H.toB.b; omega))) (EvO.opA (t2 := pyA1T27 v) (m1 := pyA1M24 v) (v := .u (.b false)) (k := 0) (t1 := (pyA1T27 v)) (symN (b := eqF (500 - v.p - v.f) (500 - v.p - v.f)) (by kernel_rfl) (sEqT (by have := H.toB.b; omega)) rfl) EvO.opsA)))) Ev.codeA) (Ev.seqPA (pyA1n55 v H) (Ev.piecesA (k := 2) (t1 := pyA1T45 v) (m1 := pyA1M38 v) (Ev.seqPA (t1 := pyA1T47 v) (m1 := pyA1M38 v) (Ev.regA (EvO.callA (t2 := pyA1T46 v) (m1 := pyA1M38 v) (ix := [0, 1, 2, 3, 5, 7, 9, 13, 20, 21, 18, 8, 22, 23]) (k := 3) (t1 := (pyA1T46 v)) (args := [.r 0 0, .i 30, .i 1, .i 4]) (a := []) (cc := []) (y73_run v H.toB) EvO.opsA)) (Ev.seqPA (t1 := pyA1T51 v) (m1 := pyA1M38 v) (Ev.regA (EvO.opA (t2 := pyA1T48 v) (m1 := pyA1M38 v) (v := .u (.b true)) (k := 2) (t1 := (pyA1T48 v)) (symE (b := eqF (500 + v.q - v.f) (500 + v.q - v.f)) (by kernel_rfl) (sEqT (by have := H.toB.b; omega))) (EvO.opA (t2 := pyA1T49 v) (m1 := pyA1M38 v) (v := .u (.b true)) (k := 3) (t1 := (pyA1T49 v)) (symE (b := eqF (60 - v.q) (60 - v.q)) (by kernel_rfl) (sEqT (by have := H.toB.b; omega))) (EvO.callA (t2 := pyA1T50 v) (m1 := pyA1M38 v) (ix := []) (k := 14) (t1 := (pyA1T50 v)) (args := []) (a := []) (cc := []) aw15_run EvO.opsA)))) Ev.codeA)))))
theorem pyA1n77 (v : PyV) (H : PyH v 1 false) : pyA1ev pyA1C2 (pyA0T1 v) (pyA1M0 v) [(.ret, (pyA1T52 v), (pyA1M38 v))] := Ev.seqPA (t1 := pyA0T3 v) (m1 := pyA1M4 v) (Ev.regA (EvO.callA (t2 := pyA0T1 v) (m1 := pyA1M0 v) (ix := []) (k := 0) (t1 := (pyA0T1 v)) (args := [.i 0]) (a := []) (cc := []) (y1_run v) EvO.opsA)) (Ev.piecesA (k := 2) (t1 := pyA0T5 v) (m1 := pyA1M6 v) (Ev.seqPA (t1 := pyA0T8 v) (m1 := pyA1M9 v) (Ev.regA (EvO.opA (t2 := pyA0T7 v) (m1 := pyA1M6 v) (v := .i v.p) (k := 1) (t1 := (pyA0T7 v)) (symI (a := IntKind.wrap .i64 v.p) (z := v.p) (by kernel_rfl) (sCv (by have := H.toB.b; omega))) EvO.opsA)) (Ev.seqPA (t1 := pyA1T12 v) (m1 := pyA1M13 v) (Ev.regA (EvO.opA (t2 := pyA0T10 v) (m1 := pyA1M9 v) (v := .i v.r) (k := 1) (t1 := (pyA0T10 v)) (symI (a := IntKind.wrap .i64 v.r) (z := v.r) (by kernel_rfl) (sCv (by have := H.toB.b; omega))) (EvO.opA (t2 := pyA0T11 v) (m1 := pyA1M9 v) (v := .i v.q) (k := 0) (t1 := (pyA0T11 v)) (symI (a := Int.tmod v.r 50) (z := v.q) (by kernel_rfl) H.hr) EvO.opsA))) (Ev.seqPA (t1 := pyA1T15 v) (m1 := pyA1M16 v) (Ev.regA (EvO.callA (t2 := pyA1T14 v) (m1 := pyA1M13 v) (ix := [0, 11, 1, 2, 3, 5, 7, 9, 4, 6, 8]) (k := 3) (t1 := (pyA1T14 v)) (args := [.r 0 0, .i 0, (czy215 v)]) (a := []) (cc := []) (y2_run v H.toB) EvO.opsA)) (Ev.piecesA (k := 2) (t1 := pyA0T17 v) (m1 := pyA1M16 v) (Ev.seqPA (t1 := pyA0T19 v) (m1 := pyA1M20 v) (Ev.seqPA (t1 := pyA0T19 v) (m1 := pyA1M20 v) (Ev.regA (EvO.callA (t2 := pyA0T18 v) (m1 := pyA1M16 v) (ix := [0, 1, 2, 3, 5, 7, 9, 13, 14, 15, 16, 8]) (k := 14) (t1 := (pyA0T18 v)) (args := [.r 0 0, .i 0, .i 1, .i 1, .i 0]) (a := []) (cc := []) (y29_run v H.toB) EvO.opsA)) Ev.codeA) (pyA1n70 v H)))))))
theorem py_A1 (v : PyV) (H : PyH v 1 false) : PRun Tryz.prog 3 [] [.u (.i .u8 v.p), .u (.i .u8 v.r), .i v.e] fun x m => x = .u (.b true) ∧ m = [] := Ev.runA eK1 Tryz.func3 (c := pyA1C1) (r := (.ret, (pyA1T52 v), (pyA1M38 v))) (Ev.piecesA (k := 1) (pyA1n77 v H))
noncomputable abbrev pyA2ev := Ev Tryz.prog eK1 (List.range 600) 300 60 3
def pyA2M0 (v : PyV) : Mem := []
noncomputable abbrev pyA2C1 : Code := bodyOf Tryz.f3
noncomputable abbrev pyA2C2 : Code := dropK 1 pyA2C1
def pyA2M4 (v : PyV) : Mem := [.c [.i 4, .w 1, .i 2, .w 2, .i 3, .i 200, .i 1, .i 500, .r 3 0, .r 5 0, .r 7 0, .r 9 0, .nl 19],
  czy213,
  czy218,
  .c [.w 4, .i 562],
  czy214,
  .c [.w 6, czy217],
  czy22,
  .c [.nl 3, .m 8, .i 256, .i 1],
  .p .n 1 false [],
  .c [.nl 4, .nm],
  .c [.r 0 0, .r 3 0, .r 5 0, .r 7 0, .r 9 0]]
def pyA2M6 (v : PyV) : Mem := paM (pyA2M4 v) [] [.w 106 2 [[.n 1, .n 5]],
  .c [.i 0, .i 1, .i 2, .i 0, .i 2, .i 0, .i 1, .i 2, .i 100, .i 50, .i 10, .i 20, .i 0, .w 11, .nl 2, .i 0, .i 0, .i 0, .i 0]]
def pyA2M9 (v : PyV) : Mem := paM (pyA2M6 v) [(12, .c [.i 0, .i 1, .i 2, .i 0, .i 2, .i 0, .i 1, .i 2, .i v.p, .i 50, .i 10, .i 20, .i 0, .w 11, .nl 2, .i 0, .i 0, .i 0, .i 0])] []
def pyA2T12 (v : PyV) : Fr := puF (pyA0T11 v) [(35, .i v.q), (36, .r 12 9)]
def pyA2M13 (v : PyV) : Mem := paM (pyA2M6 v) [(12, .c [.i 0, .i 1, .i 2, .i 0, .i 2, .i 0, .i 1, .i 2, .i v.p, .i v.q, .i 10, .i 20, .i 0, .w 11, .nl 2, .i 0, .i 0, .i 0, .i 0])] []
def pyA2T14 (v : PyV) : Fr := puF (pyA1T15 v) [(10, .z), (11, .z), (37, .z), (41, .z), (42, .z), (43, .z)]
def pyA2M16 (v : PyV) : Mem := [.c [.i 4, .w 1, .i 2, .w 2, .i 3, .i 200, .i 1, .i 500, .r 3 0, .r 5 0, .r 7 0, .r 9 0, .w 13],
  czy213,
  czy218,
  .c [.w 14, .i 562],
  czy214,
  .c [.w 15, czy217],
  czy22,
  .c [.w 16, .m 8, .i 256, .i 2],
  .p .n 1 false [(.n 1, [.n 0])],
  .c [.nl 4, .nm],
  .c [.r 0 0, .r 3 0, .r 5 0, .r 7 0, .r 9 0],
  .w 106 2 [[.n 1, .n 5]],
  .c [.i 0, .i 1, .i 2, .i 0, .i 2, .i 0, .i 1, .i 2, .i v.p, .i v.q, .i 10, .i 20, .i 0, .w 11, .nl 2, .i 0, .i 0, .i 0, .i 0],
  .w 33 19 [[.n 1, .n 1, .n 2, .n 0, .n 2, .n 0, .n 1, .n 2, .n v.p, .n v.q, .n 10, .n 20, .n v.f, .l 2 [[.n 1, .n 5]], .l 2 [], .n 1, .n 10, .n 0, .n 0]],
  .w 191 5 [[.n 0, .n 0, .n 0, .n 0, .n v.f], [.n 1, .n 0, .n 0, .n 0, .n 60], [.n 2, .n 0, .n 0, .n 0, .n (500 - v.p - v.f)], [.n 3, .n 0, .n 0, .n 0, .n 2], [.n 2097153, .n 0, .n 0, .n 0, .n v.p]],
  czy20,
  .w 136 3 [[.n 10, .n 1, .n 3]]]
def pyA2M20 (v : PyV) : Mem := paM (pyA2M16 v) [(3, .c [.w 17, .i 562]), (7, .c [.w 18, .m 8, .i 256, .i 3]), (8, .p .n 1 false [(.n 2, [.n 0])]), (13, (czy28 v)), (16, .x)] [(czy21 v),
  .w 136 3 [[.n 20, .n 2, .n 3]]]
noncomputable abbrev pyA2C16 : Code := cR (dropK 2 (cR (cR (cR (dropK 2 (cR pyA2C2))))))
def pyA2M24 (v : PyV) : Mem := paM (pyA2M20 v) [] [.c [.i 1, .i 1, .i 2, .i 0, .i 2, .i 0, .i 1, .i 2, .i v.p, .i v.q, .i 10, .i 20, .i v.f, .u (.l 2 [[.n 1, .n 5]]), .c 2 [], .i 2, .i 20, .i 1, .i 0]]
def pyA2T26 (v : PyV) : Fr := puF (pyA0T25 v) [(83, .i (500 - v.p)), (84, .r 19 12), (85, .i v.f)]
def pyA2T27 (v : PyV) : Fr := puF (pyA0T25 v) [(83, .i (500 - v.p)), (84, .r 19 12), (85, .i v.f), (86, .i (500 - v.p - v.f))]
def pyA2T28 (v : PyV) : Fr := puF (pyA0T25 v) [(83, .i (500 - v.p)), (84, .r 19 12), (85, .i v.f), (86, .i (500 - v.p - v.f)), (87, .u (.b false)), (88, .u (.b false)), (89, .i 60), (90, .u (.b false)), (91, .u (.b false))]
def pyA2T29 (v : PyV) : Fr := puF (pyA0T25 v) [(83, .i (500 - v.p)), (84, .r 19 12), (85, .i v.f), (86, .i (500 - v.p - v.f)), (87, .u (.b false)), (88, .u (.b false)), (89, .i 60), (90, .u (.b false)), (91, .u (.b false))]
noncomputable abbrev pyA2C23 : Code := cL (cR (cR pyA2C16))
def pyA2T30 (v : PyV) : Fr := puF (pyA0T25 v) [(83, .i (500 - v.p)), (84, .r 19 12), (85, .i v.f), (86, .i (500 - v.p - v.f)), (87, .u (.b false)), (88, .u (.b false)), (89, .i 60), (90, .u (.b false)), (91, .u (.b false)), (92, .i v.e)]
def pyA2T31 (v : PyV) : Fr := puF (pyA0T25 v) [(83, .i (500 - v.p)), (84, .r 19 12), (85, .i v.f), (86, .i (500 - v.p - v.f)), (87, .u (.b false)), (88, .u (.b false)), (89, .i 60), (90, .u (.b false)), (91, .u (.b false)), (92, .i v.e), (93, .i v.w)]
theorem pyA2n31 (v : PyV) (H : PyH v v.w true) : pyA2ev (cL pyA2C23) (pyA2T29 v) (pyA2M24 v) [(.nrm, (pyA2T31 v), (pyA2M24 v))] := Ev.regA (EvO.opA (t2 := pyA2T30 v) (m1 := pyA2M24 v) (v := .i v.w) (k := 1) (t1 := (pyA2T30 v)) (symI (a := IntKind.wrap .i64 ((BitVec.ofInt 64 v.e &&& BitVec.ofInt 64 3).toNat : Int)) (z := v.w) (by kernel_rfl) H.he) EvO.opsA)
def pyA2T32 (v : PyV) : Fr := puF (pyA0T25 v) [(83, .i (500 - v.p)), (84, .r 19 12), (85, .i v.f), (86, .i (500 - v.p - v.f)), (87, .u (.b false)), (88, .u (.b false)), (89, .i 60), (90, .u (.b false)), (91, .u (.b false)), (92, .i v.e), (93, .i v.w)]
def pyA2T33 (v : PyV) : Fr := puF (pyA0T25 v) [(83, .i (500 - v.p)), (84, .r 19 12), (85, .i v.f), (86, .i (500 - v.p - v.f)), (87, .u (.b false)), (88, .u (.b false)), (89, .i 60), (90, .u (.b false)), (91, .u (.b false)), (92, .i v.e), (93, .i v.w), (108, .u (.b false)), (109, .u (.b false))]
def pyA2T34 (v : PyV) : Fr := puF (pyA0T25 v) [(83, .i (500 - v.p)), (84, .r 19 12), (85, .i v.f), (86, .i (500 - v.p - v.f)), (87, .u (.b false)), (88, .u (.b false)), (89, .i 60), (90, .u (.b false)), (91, .u (.b false)), (92, .i v.e), (93, .i v.w), (108, .u (.b false)), (109, .u (.b false))]
def pyA2T35 (v : PyV) : Fr := puF (pyA0T25 v) [(83, .i (500 - v.p)), (84, .r 19 12), (85, .i v.f), (86, .i (500 - v.p - v.f)), (87, .u (.b false)), (88, .u (.b false)), (89, .i 60), (90, .u (.b false)), (91, .u (.b false)), (92, .i v.e), (93, .i v.w), (108, .u (.b false)), (109, .u (.b false)), (119, .u (.b false)), (120, .u (.b false))]
def pyA2T36 (v : PyV) : Fr := puF (pyA0T25 v) [(83, .i (500 - v.p)), (84, .r 19 12), (85, .i v.f), (86, .i (500 - v.p - v.f)), (87, .u (.b false)), (88, .u (.b false)), (89, .i 60), (90, .u (.b false)), (91, .u (.b false)), (92, .i v.e), (93, .i v.w), (94, .a [.r 0 0, .r 3 0, .r 5 0, .r 7 0, .r 9 0]), (95, czy212), (108, .u (.b false)), (109, .u (.b false)), (119, .u (.b false)), (120, .u (.b false))]
noncomputable abbrev y78ev := Ev Tryz.prog eK2 (List.range 600) 300 60 14
noncomputable abbrev y78evL := EvL Tryz.prog eK2 (List.range 600) 300 60 14
def y78T0 (v : PyV) : Fr := frameF Tryz.prog Tryz.f14 [.a [.r 0 0, .r 1 0, .r 2 0, .r 3 0, .r 4 0], .i 0, czy212]
def y78M0 (v : PyV) : Mem := [.c [.i 4, .w 5, .i 2, .w 6, .i 3, .i 200, .i 1, .i 500, .r 1 0, .r 2 0, .r 3 0, .r 4 0, .w 7],
  .c [.w 8, .i 562],
  .c [.w 9, czy217],
  .c [.w 10, .m 11, .i 256, .i 3],
  .c [.nl 4, .nm],
  czy213,
  czy218,
  (czy28 v),
  (czy21 v),
  czy20,
  .w 136 3 [[.n 20, .n 2, .n 3]],
  .p .n 1 false [(.n 2, [.n 0])]]
noncomputable abbrev y78C1 : Code := bodyOf Tryz.f14
def y78T1 (v : PyV) : Fr := puF (y78T0 v) [(3, .r 12 0), (5, .r 13 0), (6, .i 0), (7, .i 0), (8, .i 0)]
def y78M2 (v : PyV) : Mem := paM (y78M0 v) [] [.c [.r 0 0, .r 1 0, .r 2 0, .r 3 0, .r 4 0],
  .c [.i 0, .i 0, .i 20, .i 0, .i 0, .i 0, .i 0, .i 0, .i 0, .i 0, .i 0, .i 0, .i 0, .i 0, .i 0, .i 0, .i 0, .nl 2, .nl 2, .i 0, .i 0, .i 0, .i 0]]
def y78T3 (v : PyV) : Fr := puF (y78T1 v) [(15, .r 13 0), (16, .i 0)]
def y78T4 (v : PyV) : Fr := puF (y78T3 v) [(17, .u (.b false)), (18, .u (.b false))]
def y78T5 (v : PyV) : Fr := puF (y78T4 v) [(31, .u (.b false)), (32, .u (.b false))]
def y78T6 (v : PyV) : Fr := puF (y78T5 v) [(44, .u (.b false)), (45, .u (.b false))]
def y78T8 (v : PyV) : Fr := puF (y78T6 v) [(11, .i 20), (55, .i 0), (56, .r 13 2), (57, .i 20), (58, .i 20), (59, .i 20)]
def y78T9 (v : PyV) : Fr := puF (y78T6 v) [(11, .i 20), (12, .i 0), (55, .i 0), (56, .r 13 2), (57, .i 20), (58, .i 20), (59, .i 20)]
noncomputable abbrev y78C17 : Code := cLp (cBd (dropK 1 (cL (dropK 1 (cR (dropK 1 y78C1))))))
def y78T10 (v : PyV) : Fr := puF (y78T6 v) [(11, .i 20), (12, .i 0), (55, .i 0), (56, .r 13 2), (57, .i 20), (58, .i 20), (59, .i 20), (60, .i 0), (61, .u (.b true))]
def y78T11 (v : PyV) : Fr := Fr.mk [.a [.r 0 0, .r 1 0, .r 2 0, .r 3 0, .r 4 0], .i 0, czy212, .r 12 0, .z, .r 13 0, .i 0, .i 0, .i 0, .z, .z, .i 20, .i 0, .r 14 0, .u (.b true), .r 13 0, .i 0, .u (.b false), .u (.b false), .z, .z, .z, .z, .z, .z, .z, .z, .z, .z, .z, .z, .u (.b false), .u (.b false), .z, .z, .z, .z, .z, .z, .z, .z, .z, .z, .z, .u (.b false), .u (.b false), .z, .z, .z, .z, .z, .z, .z, .z, .z, .i 0, .r 13 2, .i 20, .i 20, .i 20, .i 0, .u (.b true), .z, .z, .t [.a [.i 20, .i 2, .i 3], .u (.b true)], .r 12 3, .r 3 0, .i 20, .t [.a [.i 20, .i 2, .i 3], .u (.b true)], .a [.i 20, .i 2, .i 3], .u (.b true), .u (.b true), .u (.b false)] 9 82
def y78M12 (v : PyV) : Mem := paM (y78M2 v) [(3, .c [.v 10 3 0 0 false, .m 11, .i 256, .i 3]), (11, .p .n 1 false [])] [.c [.i 20, .i 2, .i 3]]
def y78T13 (v : PyV) : Fr := puF (y78T11 v) [(73, .r 12 0), (74, .r 0 0), (75, .r 14 0), (76, .i 20), (77, .r 14 2), (78, .i 3), (79, .i 1)]
def y79M0 (v : PyV) : Mem := [.c [.i 4, .w 1, .i 2, .w 2, .i 3, .i 200, .i 1, .i 500, .r 3 0, .r 4 0, .r 5 0, .r 6 0, .w 7],
  czy213,
  czy218,
  .c [.w 8, .i 562],
  .c [.w 9, czy217],
  .c [.v 10 3 0 0 false, .m 11, .i 256, .i 3],
  .c [.nl 4, .nm],
  (czy28 v),
  (czy21 v),
  czy20,
  .w 136 3 [[.n 20, .n 2, .n 3]],
  .p .n 1 false []]
def y79T1 (v : PyV) : Fr := Fr.mk [.r 0 0, .i 20, .i 1, .z, .z, .z, .i 0] 25 32
def y79T2 (v : PyV) : Fr := Fr.mk [.r 0 0, .i 20, .i 1, .z, .z, .z, .i 0, .z, .z, .z, .z, .r 0 0, .i 1] 19 32
noncomputable abbrev y80evD := EvD Tryz.prog eK3 (List.range 600) 300 60
def y80M0 (v : PyV) : Mem := [.c [.i 4, .w 1, .i 2, .w 2, .i 3, .i 200, .i 1, .i 500, .r 3 0, .r 4 0, .r 5 0, .r 6 0, .w 7],
  czy213,
  czy218,
  .c [.w 8, .i 562],
  .c [.w 9, czy217],
  .c [.v 10 3 0 0 false, .m 11, .i 256, .i 3],
  .c [.nl 4, .nm],
  (czy28 v),
  (czy21 v),
  czy20,
  .w 136 3 [[.n 20, .n 2, .n 3]],
  .p .n 1 false []]
noncomputable abbrev y80C1 : Code := bodyOf Tryz.f12
def y80M2 (v : PyV) : Mem := paM (y80M0 v) [] [.c [.i 0, .i 0, .i 0, .i 0, .i 0, .i 0, .i 0, .i 0, .i 0, .i 0, .i 0, .i 0, .i 0, .nl 2, .nl 2, .i 0, .i 0, .i 0, .i 0],
  .c [.i 1, .i 1, .i 2, .i 0, .i 2, .i 0, .i 1, .i 2, .i v.p, .i v.q, .i 10, .i 20, .i v.f, .u (.l 2 [[.n 1, .n 5]]), .u (.l 2 []), .i 2, .i 20, .i 1, .i 0]]
noncomputable abbrev y80C3 : Code := cL (dropK 3 y80C1)
def y80M6 (v : PyV) : Mem := paM (y80M2 v) [(13, .c [.i 1, .i 1, .i 2, .i 0, .i 2, .i 0, .i 1, .i 2, .i v.p, .i v.q, .i 10, .i 20, .i v.f, .u (.l 2 [[.n 1, .n 5]]), .c 2 [], .i 2, .i 20, .i 1, .i 0])] []
theorem y80n1 (v : PyV) (H : PyB v) : y80evD (cOp y80C3) (0, [9, 8, 7, 5, 6, 2, 4, 3, 1, 0], [(4, [13]), (1, [13])], (y40T5 v), (y80M6 v)) [((y40T5 v), (y80M6 v))] := EvD.codeA
theorem y80n2 (v : PyV) (H : PyB v) : y80evD (cOp y80C3) (3, [5, 6, 2, 4, 3, 1, 0], [(4, [13]), (1, [13])], (cPut (opAt (cOp y80C3) 5).dst).p (y40T4 v) (renV (fK [] ((y80M2 v)).length) (.c 2 [])), backM (y80M2 v) [] ([])) [((y40T5 v), (y80M6 v))] := EvD.stepsA (j := 3) (y80n1 v H)
theorem y80n3 (v : PyV) (H : PyB v) : y80evD (cOp y80C3) (4, [6, 2, 4, 3, 1, 0], [(4, [13]), (1, [13])], (y40T4 v), (y80M2 v)) [((y40T5 v), (y80M6 v))] := EvD.oneA 5 (EvE.callA (args := [.u (.l 2 [])]) (a := []) (cc := []) 5 clone0 (y80n2 v H))
theorem y80n4 (v : PyV) (H : PyB v) : y80evD (cOp y80C3) (5, [2, 4, 3, 1, 0], [(4, [13]), (1, [13])], (cPut (opAt (cOp y80C3) 2).dst).p (y40T3 v) (renV (fK [] ((y80M2 v)).length) (.u (.l 2 [[.n 1, .n 5]]))), backM (y80M2 v) [] ([])) [((y40T5 v), (y80M6 v))] := EvD.stepsA (j := 1) (y80n3 v H)
theorem y80n5 (v : PyV) (H : PyB v) : y80evD (cOp y80C3) (6, [4, 3, 1, 0], [(4, [13]), (1, [13])], (y40T3 v), (y80M2 v)) [((y40T5 v), (y80M6 v))] := EvD.oneA 2 (EvE.callA (args := [.u (.l 2 [[.n 1, .n 5]])]) (a := []) (cc := []) 2 clone1 (y80n4 v H))
def y80M9 (v : PyV) : Mem := paM (y80M6 v) [(12, .c [.i 1, .i 1, .i 2, .i 0, .i 2, .i 0, .i 1, .i 2, .i v.p, .i v.q, .i 10, .i 20, .i v.f, .u (.l 2 [[.n 1, .n 5]]), .c 2 [], .i 2, .i 20, .i 1, .i 0])] []
abbrev y80Mm (v : PyV) : Mem := (y80M0 v)
theorem y80_run (v : PyV) (H : PyB v) : PRun Tryz.prog 12 (y80M0 v) [.r 0 0, .i 1] fun x m => x = .t [(czy210 v), .i 0] ∧ m = (y80Mm v) := Ev.runA eK3 Tryz.func12 (c := y80C1) (r := (.ret, (y40T8 v), (y80M9 v))) (Ev.piecesA (k := 3) (t1 := y40T1 v) (m1 := y80M2 v) (Ev.seqPA (t1 := y40T5 v) (m1 := y80M6 v) (Ev.regD2 (outs := [((y40T5 v), (y80M6 v))]) (by kernel_rfl) (by kernel_rfl) (by kernel_rfl) (EvD.stepsA (j := 4) (y80n5 v H)) ⟨by kernel_rfl, trivial⟩) Ev.codeA))
def y79T3 (v : PyV) : Fr := Fr.mk [.r 0 0, .i 20, .i 1, .z, .z, .z, .i 0, .r 12 0, .i 0, .z, .t [(czy210 v), .i 0], .r 0 0, .i 1, .t [(czy210 v), .i 0], (czy210 v), .i 0] 16 32
def y79M4 (v : PyV) : Mem := paM (y79M0 v) [] [.c [.i 1, .i 1, .i 2, .i 0, .i 2, .i 0, .i 1, .i 2, .i v.p, .i v.q, .i 10, .i 20, .i v.f, .u (.l 2 [[.n 1, .n 5]]), .c 2 [], .i 2, .i 20, .i 1, .i 0]]
def y79T5 (v : PyV) : Fr := puF (y79T3 v) [(16, .i 0), (17, .u (.b false))]
def y79T6 (v : PyV) : Fr := puF (y79T5 v) [(20, (czy210 v))]
def y81T0 (v : PyV) : Fr := frameF Tryz.prog Tryz.f72 [(czy210 v)]
def y81M0 (v : PyV) : Mem := []
def y81T1 (v : PyV) : Fr := puF (y81T0 v) [(1, .r 0 0), (2, .i 0), (3, .i 0)]
def y81M2 (v : PyV) : Mem := [.c [.i 1, .i 1, .i 2, .i 0, .i 2, .i 0, .i 1, .i 2, .i v.p, .i v.q, .i 10, .i 20, .i v.f, .u (.l 2 [[.n 1, .n 5]]), .c 2 [], .i 2, .i 20, .i 1, .i 0]]
def y81T3 (v : PyV) : Fr := Fr.mk [(czy210 v), .r 0 0, .i 0, .i 0, .z, (czy210 v)] 10 16
def y81T4 (v : PyV) : Fr := puF (y81T3 v) [(4, .u (.b false)), (6, .i 0), (7, .u (.b false))]
def y81T5 (v : PyV) : Fr := puF (y81T4 v) [(2, .i 4), (8, .u (.b false)), (9, .r 0 15), (10, .i 2), (11, .u (.b false)), (12, .u (.b true)), (13, .r 0 15), (14, .i 2), (15, .u (.b true))]
abbrev y81Mm (v : PyV) : Mem := (y81M0 v)
theorem y81_run (v : PyV) (H : PyB v) : PRun Tryz.prog 72 (y81M0 v) [(czy210 v)] fun x m => x = .t [.i 4, .i 0] ∧ m = (y81Mm v) := Ev.runA eK2 Tryz.func72 (c := (bodyOf Tryz.f72)) (r := (.ret, (y81T5 v), (y81M2 v))) (Ev.piecesA (k := 1) (t1 := y81T1 v) (m1 := y81M2 v) (Ev.seqE (by intro h; cases h) (by kernel_rfl) (Ev.blockP (e := .ret) (by kernel_rfl) (by kernel_rfl) (Ev.seqPA (t1 := y81T4 v) (m1 := y81M2 v) (Ev.regA (EvO.callA (t2 := y81T3 v) (m1 := y81M2 v) (ix := []) (k := 1) (t1 := (y81T3 v)) (args := [(czy210 v)]) (a := []) (cc := []) (y43_run v H) EvO.opsA)) Ev.codeA))))
def y79T7 (v : PyV) : Fr := puF (y79T6 v) [(9, .i 4), (19, .t [.i 4, .i 0]), (21, .t [.i 4, .i 0]), (22, .i 4), (23, .i 0)]
def y79T8 (v : PyV) : Fr := puF (y79T7 v) [(24, .i 0), (25, .u (.b false))]
def y79T9 (v : PyV) : Fr := puF (y79T8 v) [(27, .r 0 0), (28, .i 20), (29, .i 1), (30, .i 4)]
def y82M0 (v : PyV) : Mem := [.c [.i 4, .w 1, .i 2, .w 2, .i 3, .i 200, .i 1, .i 500, .r 3 0, .r 4 0, .r 5 0, .r 6 0, .w 7],
  czy213,
  czy218,
  .c [.w 8, .i 562],
  .c [.w 9, czy217],
  .c [.v 10 3 0 0 false, .m 11, .i 256, .i 3],
  .c [.nl 4, .nm],
  (czy28 v),
  (czy21 v),
  czy20,
  .w 136 3 [[.n 20, .n 2, .n 3]],
  .p .n 1 false []]
def y82T1 (v : PyV) : Fr := puF (y57T1 v) [(1, .i 20)]
def y82T2 (v : PyV) : Fr := puF (y57T2 v) [(1, .i 20)]
def y82T3 (v : PyV) : Fr := puF (y63T3 v) [(1, .i 20)]
def y82M4 (v : PyV) : Mem := paM (y82M0 v) [] [.c [.i 1, .i 1, .i 2, .i 0, .i 2, .i 0, .i 1, .i 2, .i v.p, .i v.q, .i 10, .i 20, .i v.f, .u (.l 2 [[.n 1, .n 5]]), .c 2 [], .i 2, .i 20, .i 1, .i 0]]
def y82T5 (v : PyV) : Fr := puF (y63T5 v) [(1, .i 20), (28, .i 20), (31, .i 20)]
def y82T6 (v : PyV) : Fr := puF (y63T6 v) [(1, .i 20), (28, .i 20), (31, .i 20)]
def y82T7 (v : PyV) : Fr := puF (y63T7 v) [(1, .i 20), (28, .i 20), (31, .i 20)]
def y82M8 (v : PyV) : Mem := paM (y82M4 v) [] [.c [.i 1, .i 1, .i 2, .i 0, .i 2, .i 0, .i 1, .i 2, .i v.p, .i v.q, .i 10, .i 20, .i v.f, .u (.l 2 [[.n 1, .n 5]]), .c 2 [], .i 4, .i 0, .i 1, .i 0]]
def y82T9 (v : PyV) : Fr := puF (y63T9 v) [(1, .i 20), (28, .i 20), (31, .i 20)]
def y82M10 (v : PyV) : Mem := paM (y82M8 v) [(4, .c [.w 19, czy217])] [.c [.i 2, .i 0, .i 1, .i 1],
  .c [.i 1, .i 0, .i 1, .i 1],
  .c [.i 1, .i 0, .i 1, .i 1],
  .w 106 2 [[.n 1, .n 5]],
  .c [.i 1, .i 5],
  czy23]
def y82T11 (v : PyV) : Fr := puF (y63T9 v) [(1, .i 20), (28, .i 20), (31, .i 20), (94, .r 0 0), (95, (czy210 v)), (96, .i 4), (97, .i 20), (98, (czy26 v)), (99, (czy211 v))]
noncomputable abbrev y83evD := EvD Tryz.prog eK2 (List.range 600) 300 60
def y83T0 (v : PyV) : Fr := frameF Tryz.prog Tryz.f55 [.r 0 0, (czy26 v), (czy211 v)]
def y83M0 (v : PyV) : Mem := [.c [.i 4, .w 1, .i 2, .w 2, .i 3, .i 200, .i 1, .i 500, .r 3 0, .r 4 0, .r 5 0, .r 6 0, .w 7],
  czy213,
  czy218,
  .c [.w 8, .i 562],
  .c [.w 9, czy217],
  .c [.v 10 3 0 0 false, .m 11, .i 256, .i 3],
  .c [.nl 4, .nm],
  (czy28 v),
  (czy21 v),
  czy23,
  .w 136 3 [[.n 20, .n 2, .n 3]],
  .p .n 1 false []]
noncomputable abbrev y83C1 : Code := bodyOf Tryz.f55
def y83T1 (v : PyV) : Fr := puF (y83T0 v) [(3, .r 12 0), (4, .r 13 0), (5, .r 14 0)]
def y83M2 (v : PyV) : Mem := paM (y83M0 v) [] [.c [.r 0 0],
  .c [.i 1, .i 1, .i 2, .i 0, .i 2, .i 0, .i 1, .i 2, .i v.p, .i v.q, .i 10, .i 20, .i v.f, .u (.l 2 [[.n 1, .n 5]]), .c 2 [], .i 2, .i 20, .i 1, .i 0, .i 4, .i 20, .i 0],
  .c [.i 1, .i 1, .i 2, .i 0, .i 2, .i 0, .i 1, .i 2, .i v.p, .i v.q, .i 10, .i 20, .i v.f, .u (.l 2 [[.n 1, .n 5]]), .c 2 [], .i 4, .i 0, .i 1, .i 0]]
def y83T3 (v : PyV) : Fr := puF (y65T3 v) [(1, (czy26 v))]
def y83T4 (v : PyV) : Fr := puF (y65T4 v) [(1, (czy26 v))]
def y83T5 (v : PyV) : Fr := puF (y83T4 v) [(18, .i 0), (19, .u (.b true))]
noncomputable abbrev y83C7 : Code := cT (dropK 1 (cR (cL (dropK 1 y83C1))))
def y83T6 (v : PyV) : Fr := puF (y83T5 v) [(20, .r 0 0), (21, .r 0 0), (22, .r 0 8), (23, .r 3 0), (24, .r 13 0), (25, .r 13 0), (26, .i 1), (27, .u (.l 3 [[.n 0, .n 2, .n (v.p + v.q)]]))]
def y83T7 (v : PyV) : Fr := puF (y83T5 v) [(20, .r 0 0), (21, .r 0 0), (22, .r 0 8), (23, .r 3 0), (24, .r 13 0), (25, .r 13 0), (26, .i 1), (27, .u (.l 3 [[.n 0, .n 2, .n (v.p + v.q)]])), (28, .i 0)]
def y83M8 (v : PyV) : Mem := paM (y83M2 v) [(3, .c [.w 15, .i 562])] [(czy25 v)]
theorem y83n4 (v : PyV) (H : PyB v) : y83evD (cOp y83C7) (0, [8, 7, 6, 5, 4, 3, 2, 1, 0], [(6, [13]), (3, [0]), (0, [12])], (y83T7 v), (y83M8 v)) [((y83T7 v), (y83M8 v))] := EvD.codeA
theorem y83n5 (v : PyV) (H : PyB v) : y83evD (cOp y83C7) (0, [8, 7, 6, 5, 4, 3, 2, 1, 0], [(6, [13]), (3, [0]), (0, [12])], (cPut (opAt (cOp y83C7) 8).dst).p (y83T6 v) (renV (fK [3, 8] ((y83M2 v)).length) (.i 0)), backM (y83M2 v) [3, 8] ((y70Mm v))) [((y83T7 v), (y83M8 v))] := EvD.stepsA (j := 0) (y83n4 v H)
theorem y83n6 (v : PyV) (H : PyB v) : y83evD (cOp y83C7) (1, [7, 6, 5, 4, 3, 2, 1, 0], [(6, [13]), (3, [0]), (0, [12])], (y83T6 v), (y83M2 v)) [((y83T7 v), (y83M8 v))] := EvD.oneA 8 (EvE.callA (args := [.r 3 0, .i 1, .u (.l 3 [[.n 0, .n 2, .n (v.p + v.q)]])]) (a := []) (cc := []) 8 (y70_run v H) (y83n5 v H))
def y83T9 (v : PyV) : Fr := puF (y83T5 v) [(20, .r 0 0), (21, .r 0 0), (22, .r 0 8), (23, .r 3 0), (24, .r 13 0), (25, .r 13 0), (26, .i 1), (27, .u (.l 3 [[.n 0, .n 2, .n (v.p + v.q)]])), (28, .i 0)]
def y83T10 (v : PyV) : Fr := Fr.mk [.r 0 0, (czy26 v), (czy211 v), .r 12 0, .r 13 0, .r 14 0, .u (.l 3 [[.n 0, .n 2, .n (v.p + v.q)]]), .i 0, .t [.u (.l 3 [[.n 0, .n 2, .n (v.p + v.q)]]), .i 0], .r 13 0, (czy210 v), .r 13 19, .i 4, .r 13 21, .i 0, .t [.u (.l 3 [[.n 0, .n 2, .n (v.p + v.q)]]), .i 0], .u (.l 3 [[.n 0, .n 2, .n (v.p + v.q)]]), .i 0, .i 0, .u (.b true), .r 0 0, .r 0 0, .r 0 8, .r 3 0, .r 13 0, .r 13 0, .i 1, .u (.l 3 [[.n 0, .n 2, .n (v.p + v.q)]]), .i 0, .r 0 0, .r 0 0, .r 0 12, .w 7, .r 13 0, .r 13 0, .i 1, .i 0, (czy211 v), .e 7 19 0 0, .r 0 0, .r 13 0, .r 13 0, .i 1, .f 112 [] [.r 12 0], .t [], .r 0 0, .r 0 0, .r 0 11, .r 6 0, .r 13 20, .i 20, .r 13 0, .r 13 0, .i 1, .r 13 19, .i 4, .a [.i 20, .i 2, .i 1, .i 4], .i 0] 0 58
def y83M11 (v : PyV) : Mem := paM (y83M8 v) [(6, .c [.w 17, .m 18]), (7, (czy29 v))] [.c [.v 10 3 0 0 false],
  .w 54 4 [[.n 20, .n 2, .n 1, .n 4]],
  .p (.a 2) 1 false [(.a [2, 1], [.n 0])]]
def y83M12 (v : PyV) : Mem := paM (y83M0 v) [(3, .c [.w 12, .i 562]), (6, .c [.w 13, .m 14]), (7, (czy29 v))] [(czy25 v),
  .w 54 4 [[.n 20, .n 2, .n 1, .n 4]],
  .p (.a 2) 1 false [(.a [2, 1], [.n 0])]]
abbrev y83Mm (v : PyV) : Mem := (y83M12 v)
theorem y83_run (v : PyV) (H : PyB v) : PRun Tryz.prog 55 (y83M0 v) [.r 0 0, (czy26 v), (czy211 v)] fun x m => x = .t [] ∧ m = (y83Mm v) := Ev.runA eK2 Tryz.func55 (c := y83C1) (r := (.nrm, (y83T10 v), (y83M11 v))) (Ev.piecesA (k := 1) (t1 := y83T1 v) (m1 := y83M2 v) (Ev.seqPA (t1 := y83T9 v) (m1 := y83M8 v) (Ev.seqPA (t1 := y83T4 v) (m1 := y83M2 v) (Ev.regA (EvO.callA (t2 := y83T3 v) (m1 := y83M2 v) (ix := []) (k := 6) (t1 := (y83T3 v)) (args := [(czy210 v), .i 4, .i 0]) (a := []) (cc := []) (y66_run v H) EvO.opsA)) (Ev.piecesA (k := 1) (t1 := y83T5 v) (m1 := y83M2 v) (Ev.condT (by kernel_rfl) (by kernel_rfl) (Ev.regD2 (outs := [((y83T7 v), (y83M8 v))]) (by kernel_rfl) (by kernel_rfl) (by kernel_rfl) (EvD.stepsA (j := 8) (y83n6 v H)) ⟨by kernel_rfl, trivial⟩)))) Ev.codeA))
def y82T12 (v : PyV) : Fr := puF (y63T9 v) [(1, .i 20), (28, .i 20), (31, .i 20), (94, .r 0 0), (95, (czy210 v)), (96, .i 4), (97, .i 20), (98, (czy26 v)), (99, (czy211 v)), (100, .t [])]
def y82M13 (v : PyV) : Mem := paM (y82M10 v) [(3, .c [.w 20, .i 562]), (6, .c [.w 21, .m 22]), (7, (czy29 v))] [(czy25 v),
  .w 54 4 [[.n 20, .n 2, .n 1, .n 4]],
  .p (.a 2) 1 false [(.a [2, 1], [.n 0])]]
def y82T14 (v : PyV) : Fr := puF (y63T9 v) [(1, .i 20), (28, .i 20), (31, .i 20), (94, .r 0 0), (95, (czy210 v)), (96, .i 4), (97, .i 20), (98, (czy26 v)), (99, (czy211 v)), (100, .t [])]
def y82M15 (v : PyV) : Mem := [.c [.i 4, .w 1, .i 2, .w 2, .i 3, .i 200, .i 1, .i 500, .r 3 0, .r 4 0, .r 5 0, .r 6 0, .w 7],
  czy213,
  czy218,
  .c [.w 12, .i 562],
  .c [.w 13, czy217],
  .c [.v 10 3 0 0 false, .m 11, .i 256, .i 3],
  .c [.w 14, .m 15],
  (czy29 v),
  (czy21 v),
  czy20,
  .w 136 3 [[.n 20, .n 2, .n 3]],
  .p .n 1 false [],
  (czy25 v),
  czy23,
  .w 54 4 [[.n 20, .n 2, .n 1, .n 4]],
  .p (.a 2) 1 false [(.a [2, 1], [.n 0])]]
abbrev y82Mm (v : PyV) : Mem := (y82M15 v)
theorem y82_run (v : PyV) (H : PyB v) : PRun Tryz.prog 13 (y82M0 v) [.r 0 0, .i 20, .i 1, .i 4] fun x m => x = .i 0 ∧ m = (y82Mm v) := Ev.runA eK2 Tryz.func13 (c := (bodyOf Tryz.f13)) (r := (.ret, (y82T14 v), (y82M13 v))) (Ev.piecesA (k := 1) (t1 := y82T1 v) (m1 := y82M0 v) (Ev.seqPA (t1 := y82T3 v) (m1 := y82M4 v) (Ev.regA (EvO.callA (t2 := y82T2 v) (m1 := y82M0 v) (ix := [0, 1, 2, 3, 4, 5, 6, 7, 8, 9, 10, 11]) (k := 2) (t1 := (y82T2 v)) (args := [.r 0 0, .i 1]) (a := []) (cc := []) (y80_run v H) EvO.opsA)) (Ev.piecesA (k := 1) (t1 := y82T5 v) (m1 := y82M4 v) (Ev.seqPA (t1 := y82T7 v) (m1 := y82M8 v) (Ev.regA (EvO.callA (t2 := y82T6 v) (m1 := y82M4 v) (ix := []) (k := 2) (t1 := (y82T6 v)) (args := [(czy210 v), .i 4]) (a := []) (cc := []) (y64_run v H) EvO.opsA)) (Ev.piecesA (k := 5) (t1 := y82T9 v) (m1 := y82M10 v) (Ev.seqPA (t1 := y82T12 v) (m1 := y82M13 v) (Ev.regA (EvO.callA (t2 := y82T11 v) (m1 := y82M10 v) (ix := [0, 1, 2, 3, 4, 5, 6, 7, 8, 19, 10, 11]) (k := 6) (t1 := (y82T11 v)) (args := [.r 0 0, (czy26 v), (czy211 v)]) (a := []) (cc := []) (y83_run v H) EvO.opsA)) Ev.codeA))))))
def y79T10 (v : PyV) : Fr := puF (y79T9 v) [(31, .i 0)]
def y79M11 (v : PyV) : Mem := paM (y79M4 v) [(3, .c [.w 13, .i 562]), (4, .c [.w 14, czy217]), (6, .c [.w 15, .m 16]), (7, (czy29 v))] [(czy25 v),
  czy23,
  .w 54 4 [[.n 20, .n 2, .n 1, .n 4]],
  .p (.a 2) 1 false [(.a [2, 1], [.n 0])]]
def y79T12 (v : PyV) : Fr := puF (y79T9 v) [(31, .i 0)]
def y79M13 (v : PyV) : Mem := [.c [.i 4, .w 1, .i 2, .w 2, .i 3, .i 200, .i 1, .i 500, .r 3 0, .r 4 0, .r 5 0, .r 6 0, .w 7],
  czy213,
  czy218,
  .c [.w 12, .i 562],
  .c [.w 13, czy217],
  .c [.v 10 3 0 0 false, .m 11, .i 256, .i 3],
  .c [.w 14, .m 15],
  (czy29 v),
  (czy21 v),
  czy20,
  .w 136 3 [[.n 20, .n 2, .n 3]],
  .p .n 1 false [],
  (czy25 v),
  czy23,
  .w 54 4 [[.n 20, .n 2, .n 1, .n 4]],
  .p (.a 2) 1 false [(.a [2, 1], [.n 0])]]
abbrev y79Mm (v : PyV) : Mem := (y79M13 v)
theorem y79_run (v : PyV) (H : PyB v) : PRun Tryz.prog 25 (y79M0 v) [.r 0 0, .i 20, .i 1] fun x m => x = .i 0 ∧ m = (y79Mm v) := Ev.runA eK2 Tryz.func25 (c := (bodyOf Tryz.f25)) (r := (.ret, (y79T12 v), (y79M11 v))) (Ev.piecesA (k := 1) (t1 := y79T1 v) (m1 := y79M0 v) (Ev.seqPA (t1 := y79T3 v) (m1 := y79M4 v) (Ev.regA (EvO.callA (t2 := y79T2 v) (m1 := y79M0 v) (ix := [0, 1, 2, 3, 4, 5, 6, 7, 8, 9, 10, 11]) (k := 2) (t1 := (y79T2 v)) (args := [.r 0 0, .i 1]) (a := []) (cc := []) (y80_run v H) EvO.opsA)) (Ev.piecesA (k := 1) (t1 := y79T5 v) (m1 := y79M4 v) (Ev.seqPA (t1 := y79T7 v) (m1 := y79M4 v) (Ev.regA (EvO.callA (t2 := y79T6 v) (m1 := y79M4 v) (ix := []) (k := 1) (t1 := (y79T6 v)) (args := [(czy210 v)]) (a := []) (cc := []) (y81_run v H) EvO.opsA)) (Ev.piecesA (k := 1) (t1 := y79T8 v) (m1 := y79M4 v) (Ev.seqPA (t1 := y79T10 v) (m1 := y79M11 v) (Ev.regA (EvO.callA (t2 := y79T9 v) (m1 := y79M4 v) (ix := [0, 1, 2, 3, 4, 5, 6, 7, 8, 9, 10, 11]) (k := 4) (t1 := (y79T9 v)) (args := [.r 0 0, .i 20, .i 1, .i 4]) (a := []) (cc := []) (y82_run v H) EvO.opsA)) Ev.codeA))))))
def y78T14 (v : PyV) : Fr := puF (y78T13 v) [(80, .i 0)]
def y78M15 (v : PyV) : Mem := paM (y78M12 v) [(1, .c [.w 15, .i 562]), (2, .c [.w 16, czy217]), (4, .c [.w 17, .m 18]), (7, (czy29 v))] [(czy25 v),
  czy23,
  .w 54 4 [[.n 20, .n 2, .n 1, .n 4]],
  .p (.a 2) 1 false [(.a [2, 1], [.n 0])]]
def y78T16 (v : PyV) : Fr := puF (y78T14 v) [(12, .i 1), (62, .i 0), (63, .i 1)]
theorem y78n17 (v : PyV) (H : PyB v) : y78ev y78C17 (y78T9 v) (y78M2 v) [(.nrm, (y78T16 v), (y78M15 v))] := Ev.piecesA (k := 1) (t1 := y78T10 v) (m1 := y78M2 v) (Ev.seqPA (t1 := y78T14 v) (m1 := y78M15 v) (Ev.blockP (e := .nrm) (by kernel_rfl) (by kernel_rfl) (Ev.piecesA (k := 2) (t1 := y78T11 v) (m1 := y78M12 v) (Ev.regA (EvO.callA (t2 := y78T13 v) (m1 := y78M12 v) (ix := [0, 5, 6, 1, 2, 3, 4, 7, 8, 9, 10, 11]) (k := 7) (t1 := (y78T13 v)) (args := [.r 0 0, .i 20, .i 1]) (a := []) (cc := []) (y79_run v H) EvO.opsA)))) Ev.codeA)
def y78T17 (v : PyV) : Fr := puF (y78T16 v) [(60, .i 1)]
def y78T18 (v : PyV) : Fr := puF (y78T17 v) [(13, .r 19 0), (14, .u (.b false)), (64, .t [.a [.i 0, .i 0, .i 0], .u (.b false)]), (68, .t [.a [.i 0, .i 0, .i 0], .u (.b false)]), (69, .a [.i 0, .i 0, .i 0]), (70, .u (.b false))]
def y78M19 (v : PyV) : Mem := paM (y78M15 v) [] [.c [.i 0, .i 0, .i 0]]
def y78T20 (v : PyV) : Fr := puF (y78T18 v) [(71, .u (.b false)), (72, .u (.b true))]
theorem y78n24 (v : PyV) (H : PyB v) : y78ev y78C17 (y78T16 v) (y78M15 v) [((.ext 1), (y78T20 v), (y78M19 v))] := Ev.piecesA (k := 1) (t1 := y78T17 v) (m1 := y78M15 v) (Ev.seqE (by intro h; cases h) (by kernel_rfl) (Ev.blockP (e := .ext 1) (by kernel_rfl) (by kernel_rfl) (Ev.seqPA (t1 := y78T18 v) (m1 := y78M19 v) Ev.codeA (Ev.seqE (by intro h; cases h) (by kernel_rfl) Ev.codeA))))
theorem y78n25 (v : PyV) (H : PyB v) : y78evL 14 y78C17 299 (y78T16 v) (y78M15 v) [((.ext 1), (y78T20 v), (y78M19 v))] := EvL.last (by intro h; cases h) (y78n24 v H)
theorem y78n26 (v : PyV) (H : PyB v) : y78evL 14 y78C17 300 (y78T9 v) (y78M2 v) [((.ext 1), (y78T20 v), (y78M19 v))] := EvL.round (t2 := (y78T16 v)) (m2 := (y78M15 v)) (y78n17 v H) (by kernel_rfl) (y78n25 v H)
def y78T21 (v : PyV) : Fr := puF (y78T18 v) [(6, .i 20), (71, .u (.b false)), (72, .u (.b true)), (81, .i 20)]
def y78M22 (v : PyV) : Mem := [.c [.i 4, .w 5, .i 2, .w 6, .i 3, .i 200, .i 1, .i 500, .r 1 0, .r 2 0, .r 3 0, .r 4 0, .w 7],
  .c [.w 12, .i 562],
  .c [.w 13, czy217],
  .c [.v 10 3 0 0 false, .m 11, .i 256, .i 3],
  .c [.w 14, .m 15],
  czy213,
  czy218,
  (czy29 v),
  (czy21 v),
  czy20,
  .w 136 3 [[.n 20, .n 2, .n 3]],
  .p .n 1 false [],
  (czy25 v),
  czy23,
  .w 54 4 [[.n 20, .n 2, .n 1, .n 4]],
  .p (.a 2) 1 false [(.a [2, 1], [.n 0])]]
abbrev y78Mm (v : PyV) : Mem := (y78M22 v)
theorem y78_run (v : PyV) (H : PyB v) : PRun Tryz.prog 14 (y78M0 v) [.a [.r 0 0, .r 1 0, .r 2 0, .r 3 0, .r 4 0], .i 0, czy212] fun x m => x = .t [.i 20, .i 0, .i 0] ∧ m = (y78Mm v) := Ev.runA eK2 Tryz.func14 (c := y78C1) (r := (.ret, (y78T21 v), (y78M19 v))) (Ev.piecesA (k := 1) (t1 := y78T1 v) (m1 := y78M2 v) (Ev.seqPA (t1 := y78T6 v) (m1 := y78M2 v) (Ev.piecesA (k := 1) (t1 := y78T3 v) (m1 := y78M2 v) (Ev.blockP (e := .nrm) (by kernel_rfl) (by kernel_rfl) (Ev.piecesA (k := 1) (t1 := y78T4 v) (m1 := y78M2 v) (Ev.condF (by kernel_rfl) (by kernel_rfl) (Ev.piecesA (k := 1) (t1 := y78T5 v) (m1 := y78M2 v) (Ev.condF (by kernel_rfl) (by kernel_rfl) (Ev.piecesA (k := 1) (t1 := y78T6 v) (m1 := y78M2 v) (Ev.condF (by kernel_rfl) (by kernel_rfl) Ev.codeA)))))))) (Ev.piecesA (k := 1) (t1 := y78T8 v) (m1 := y78M2 v) (Ev.seqPA (t1 := y78T20 v) (m1 := y78M19 v) (Ev.piecesA (k := 1) (t1 := y78T9 v) (m1 := y78M2 v) (Ev.blockP (e := .ext 1) (by kernel_rfl) (by kernel_rfl) (Ev.loopP (n0 := 14) (by kernel_rfl) (by kernel_rfl) (y78n26 v H)))) Ev.codeA))))
def pyA2T37 (v : PyV) : Fr := puF (pyA0T25 v) [(83, .i (500 - v.p)), (84, .r 19 12), (85, .i v.f), (86, .i (500 - v.p - v.f)), (87, .u (.b false)), (88, .u (.b false)), (89, .i 60), (90, .u (.b false)), (91, .u (.b false)), (92, .i v.e), (93, .i v.w), (94, .a [.r 0 0, .r 3 0, .r 5 0, .r 7 0, .r 9 0]), (95, czy212), (96, .t [.i 20, .i 0, .i 0]), (108, .u (.b false)), (109, .u (.b false)), (119, .u (.b false)), (120, .u (.b false))]
def pyA2M38 (v : PyV) : Mem := paM (pyA2M24 v) [(3, .c [.w 20, .i 562]), (5, .c [.w 21, czy217]), (7, .c [.v 18 3 0 0 false, .m 8, .i 256, .i 3]), (8, .p .n 1 false []), (9, .c [.w 22, .m 23]), (13, (czy29 v))] [(czy25 v),
  czy23,
  .w 54 4 [[.n 20, .n 2, .n 1, .n 4]],
  .p (.a 2) 1 false [(.a [2, 1], [.n 0])]]
def pyA2T39 (v : PyV) : Fr := puF (pyA0T25 v) [(83, .i (500 - v.p)), (84, .r 19 12), (85, .i v.f), (86, .i (500 - v.p - v.f)), (87, .u (.b false)), (88, .u (.b false)), (89, .i 60), (90, .u (.b false)), (91, .u (.b false)), (92, .i v.e), (93, .i v.w), (94, .a [.r 0 0, .r 3 0, .r 5 0, .r 7 0, .r 9 0]), (95, czy212), (96, .t [.i 20, .i 0, .i 0]), (97, .i (500 - v.p - v.f)), (98, .r 12 8), (99, .i v.p), (108, .u (.b false)), (109, .u (.b false)), (119, .u (.b false)), (120, .u (.b false))]
def pyA2T40 (v : PyV) : Fr := puF (pyA0T25 v) [(83, .i (500 - v.p)), (84, .r 19 12), (85, .i v.f), (86, .i (500 - v.p - v.f)), (87, .u (.b false)), (88, .u (.b false)), (89, .i 60), (90, .u (.b false)), (91, .u (.b false)), (92, .i v.e), (93, .i v.w), (94, .a [.r 0 0, .r 3 0, .r 5 0, .r 7 0, .r 9 0]), (95, czy212), (96, .t [.i 20, .i 0, .i 0]), (97, .i (500 - v.p - v.f)), (98, .r 12 8), (99, .i v.p), (100, .i (500 - v.f)), (101, .r 12 9), (102, .i v.q), (108, .u (.b false)), (109, .u (.b false)), (119, .u (.b false)), (120, .u (.b false))]
def pyA2T41 (v : PyV) : Fr := puF (pyA0T25 v) [(12, .i (500 + v.q - v.f)), (83, .i (500 - v.p)), (84, .r 19 12), (85, .i v.f), (86, .i (500 - v.p - v.f)), (87, .u (.b false)), (88, .u (.b false)), (89, .i 60), (90, .u (.b false)), (91, .u (.b false)), (92, .i v.e), (93, .i v.w), (94, .a [.r 0 0, .r 3 0, .r 5 0, .r 7 0, .r 9 0]), (95, czy212), (96, .t [.i 20, .i 0, .i 0]), (97, .i (500 - v.p - v.f)), (98, .r 12 8), (99, .i v.p), (100, .i (500 - v.f)), (101, .r 12 9), (102, .i v.q), (103, .i (500 + v.q - v.f)), (108, .u (.b false)), (109, .u (.b false)), (119, .u (.b false)), (120, .u (.b false))]
def pyA2T42 (v : PyV) : Fr := puF (pyA0T25 v) [(12, .i (500 + v.q - v.f)), (83, .i (500 - v.p)), (84, .r 19 12), (85, .i v.f), (86, .i (500 - v.p - v.f)), (87, .u (.b false)), (88, .u (.b false)), (89, .i 60), (90, .u (.b false)), (91, .u (.b false)), (92, .i v.e), (93, .i v.w), (94, .a [.r 0 0, .r 3 0, .r 5 0, .r 7 0, .r 9 0]), (95, czy212), (96, .t [.i 20, .i 0, .i 0]), (97, .i (500 - v.p - v.f)), (98, .r 12 8), (99, .i v.p), (100, .i (500 - v.f)), (101, .r 12 9), (102, .i v.q), (103, .i (500 + v.q - v.f)), (104, .i 60), (105, .r 12 9), (106, .i v.q), (108, .u (.b false)), (109, .u (.b false)), (119, .u (.b false)), (120, .u (.b false))]
def pyA2T43 (v : PyV) : Fr := puF (pyA0T25 v) [(12, .i (500 + v.q - v.f)), (14, .i (60 - v.q)), (83, .i (500 - v.p)), (84, .r 19 12), (85, .i v.f), (86, .i (500 - v.p - v.f)), (87, .u (.b false)), (88, .u (.b false)), (89, .i 60), (90, .u (.b false)), (91, .u (.b false)), (92, .i v.e), (93, .i v.w), (94, .a [.r 0 0, .r 3 0, .r 5 0, .r 7 0, .r 9 0]), (95, czy212), (96, .t [.i 20, .i 0, .i 0]), (97, .i (500 - v.p - v.f)), (98, .r 12 8), (99, .i v.p), (100, .i (500 - v.f)), (101, .r 12 9), (102, .i v.q), (103, .i (500 + v.q - v.f)), (104, .i 60), (105, .r 12 9), (106, .i v.q), (107, .i (60 - v.q)), (108, .u (.b false)), (109, .u (.b false)), (119, .u (.b false)), (120, .u (.b false))]
theorem pyA2n55 (v : PyV) (H : PyH v v.w true) : pyA2ev pyA2C23 (pyA2T29 v) (pyA2M24 v) [(.nrm, (pyA2T43 v), (pyA2M38 v))] := Ev.seqPA (pyA2n31 v H) (Ev.blockP (e := .nrm) (by kernel_rfl) (by kernel_rfl) (Ev.seqPA (t1 := pyA2T33 v) (m1 := pyA2M24 v) (Ev.regA (EvO.opA (t2 := pyA2T32 v) (m1 := pyA2M24 v) (v := .u (.b false)) (k := 0) (t1 := (pyA2T32 v)) (symE (b := eqF v.w 0) (by kernel_rfl) H.hw0) EvO.opsA)) (Ev.condF (by kernel_rfl) (by kernel_rfl) (Ev.seqPA (t1 := pyA2T35 v) (m1 := pyA2M24 v) (Ev.regA (EvO.opA (t2 := pyA2T34 v) (m1 := pyA2M24 v) (v := .u (.b false)) (k := 0) (t1 := (pyA2T34 v)) (symE (b := eqF v.w 1) (by kernel_rfl) H.hw1) EvO.opsA)) (Ev.condF (by kernel_rfl) (by kernel_rfl) (Ev.seqPA (t1 := pyA2T37 v) (m1 := pyA2M38 v) (Ev.regA (EvO.callA (t2 := pyA2T36 v) (m1 := pyA2M24 v) (ix := [0, 3, 5, 7, 9, 1, 2, 13, 17, 15, 18, 8]) (k := 2) (t1 := (pyA2T36 v)) (args := [.a [.r 0 0, .r 3 0, .r 5 0, .r 7 0, .r 9 0], .i 0, czy212]) (a := []) (cc := []) (y78_run v H.toB) EvO.opsA)) (Ev.seqPA (t1 := pyA2T41 v) (m1 := pyA2M38 v) (Ev.regA (EvO.opA (t2 := pyA2T39 v) (m1 := pyA2M38 v) (v := .i (500 - v.f)) (k := 3) (t1 := (pyA2T39 v)) (symI (a := wrapF .i64 (addF (500 - v.p - v.f) v.p)) (z := (500 - v.f)) (by kernel_rfl) (sAdd (by have := H.toB.b; omega))) (EvO.opA (t2 := pyA2T40 v) (m1 := pyA2M38 v) (v := .i (500 + v.q - v.f)) (k := 2) (t1 := (pyA2T40 v)) (symI (a := wrapF .i64 (addF (500 - v.f) v.q)) (z := (500 + v.q - v.f)) (by kernel_rfl) (sAdd (by have := H.toB.b; omega))) EvO.opsA))) (Ev.regA (EvO.opA (t2 := pyA2T42 v) (m1 := pyA2M38 v) (v := .i (60 - v.q)) (k := 3) (t1 := (pyA2T42 v)) (symI (a := wrapF .i64 (subF 60 v.q)) (z := (60 - v.q)) (by kernel_rfl) (sSub (by have := H.toB.b; omega))) EvO.opsA)))))))))
def pyA2T44 (v : PyV) : Fr := puF (pyA1T45 v) [(93, .i v.w), (94, .a [.r 0 0, .r 3 0, .r 5 0, .r 7 0, .r 9 0]), (95, czy212), (96, .t [.i 20, .i 0, .i 0]), (97, .i (500 - v.p - v.f)), (98, .r 12 8), (99, .i v.p), (100, .i (500 - v.f)), (101, .r 12 9), (102, .i v.q), (103, .i (500 + v.q - v.f)), (104, .i 60), (105, .r 12 9), (106, .i v.q), (107, .i (60 - v.q)), (119, .u (.b false)), (120, .u (.b false)), (121, .z), (122, .z), (123, .z), (124, .z), (125, .z), (126, .z), (127, .z), (128, .z), (129, .z), (130, .z), (131, .z), (132, .z), (133, .z), (134, .z), (135, .z), (136, .z)]
def pyA2T45 (v : PyV) : Fr := puF (pyA2T44 v) [(149, .r 10 0), (150, .r 0 0), (151, .i 1)]
def y84M0 (v : PyV) : Mem := [.c [.i 4, .w 1, .i 2, .w 2, .i 3, .i 200, .i 1, .i 500, .r 3 0, .r 4 0, .r 5 0, .r 6 0, .w 7],
  czy213,
  czy218,
  .c [.w 8, .i 562],
  .c [.w 9, czy217],
  .c [.v 10 3 0 0 false, .m 11, .i 256, .i 3],
  .c [.w 12, .m 13],
  (czy29 v),
  (czy25 v),
  czy23,
  .w 136 3 [[.n 20, .n 2, .n 3]],
  .p .n 1 false [],
  .w 54 4 [[.n 20, .n 2, .n 1, .n 4]],
  .p (.a 2) 1 false [(.a [2, 1], [.n 0])]]
noncomputable abbrev y85evD := EvD Tryz.prog eK3 (List.range 600) 300 60
def y85M0 (v : PyV) : Mem := [.c [.i 4, .w 1, .i 2, .w 2, .i 3, .i 200, .i 1, .i 500, .r 3 0, .r 4 0, .r 5 0, .r 6 0, .w 7],
  czy213,
  czy218,
  .c [.w 8, .i 562],
  .c [.w 9, czy217],
  .c [.v 10 3 0 0 false, .m 11, .i 256, .i 3],
  .c [.w 12, .m 13],
  (czy29 v),
  (czy25 v),
  czy23,
  .w 136 3 [[.n 20, .n 2, .n 3]],
  .p .n 1 false [],
  .w 54 4 [[.n 20, .n 2, .n 1, .n 4]],
  .p (.a 2) 1 false [(.a [2, 1], [.n 0])]]
noncomputable abbrev y85C1 : Code := bodyOf Tryz.f12
def y85M2 (v : PyV) : Mem := paM (y85M0 v) [] [.c [.i 0, .i 0, .i 0, .i 0, .i 0, .i 0, .i 0, .i 0, .i 0, .i 0, .i 0, .i 0, .i 0, .nl 2, .nl 2, .i 0, .i 0, .i 0, .i 0],
  .c [.i 1, .i 1, .i 2, .i 0, .i 2, .i 0, .i 1, .i 2, .i v.p, .i v.q, .i 10, .i 20, .i v.f, .u (.l 2 [[.n 1, .n 5]]), .u (.l 2 []), .i 4, .i 0, .i 1, .i 0]]
noncomputable abbrev y85C3 : Code := cL (dropK 3 y85C1)
def y85T5 (v : PyV) : Fr := puF (y74T4 v) [(38, .c 2 []), (40, .r 15 14)]
def y85M6 (v : PyV) : Mem := paM (y85M2 v) [(15, .c [.i 1, .i 1, .i 2, .i 0, .i 2, .i 0, .i 1, .i 2, .i v.p, .i v.q, .i 10, .i 20, .i v.f, .u (.l 2 [[.n 1, .n 5]]), .c 2 [], .i 4, .i 0, .i 1, .i 0])] []
theorem y85n1 (v : PyV) (H : PyB v) : y85evD (cOp y85C3) (0, [9, 8, 7, 5, 6, 2, 4, 3, 1, 0], [(4, [15]), (1, [15])], (y85T5 v), (y85M6 v)) [((y85T5 v), (y85M6 v))] := EvD.codeA
theorem y85n2 (v : PyV) (H : PyB v) : y85evD (cOp y85C3) (3, [5, 6, 2, 4, 3, 1, 0], [(4, [15]), (1, [15])], (cPut (opAt (cOp y85C3) 5).dst).p (y74T4 v) (renV (fK [] ((y85M2 v)).length) (.c 2 [])), backM (y85M2 v) [] ([])) [((y85T5 v), (y85M6 v))] := EvD.stepsA (j := 3) (y85n1 v H)
theorem y85n3 (v : PyV) (H : PyB v) : y85evD (cOp y85C3) (4, [6, 2, 4, 3, 1, 0], [(4, [15]), (1, [15])], (y74T4 v), (y85M2 v)) [((y85T5 v), (y85M6 v))] := EvD.oneA 5 (EvE.callA (args := [.u (.l 2 [])]) (a := []) (cc := []) 5 clone0 (y85n2 v H))
theorem y85n4 (v : PyV) (H : PyB v) : y85evD (cOp y85C3) (5, [2, 4, 3, 1, 0], [(4, [15]), (1, [15])], (cPut (opAt (cOp y85C3) 2).dst).p (y74T3 v) (renV (fK [] ((y85M2 v)).length) (.u (.l 2 [[.n 1, .n 5]]))), backM (y85M2 v) [] ([])) [((y85T5 v), (y85M6 v))] := EvD.stepsA (j := 1) (y85n3 v H)
theorem y85n5 (v : PyV) (H : PyB v) : y85evD (cOp y85C3) (6, [4, 3, 1, 0], [(4, [15]), (1, [15])], (y74T3 v), (y85M2 v)) [((y85T5 v), (y85M6 v))] := EvD.oneA 2 (EvE.callA (args := [.u (.l 2 [[.n 1, .n 5]])]) (a := []) (cc := []) 2 clone1 (y85n4 v H))
def y85T7 (v : PyV) : Fr := puF (y74T4 v) [(38, .c 2 []), (40, .r 15 14)]
def y85T8 (v : PyV) : Fr := puF (y74T4 v) [(38, .c 2 []), (40, .r 15 14), (41, (czy211 v))]
def y85M9 (v : PyV) : Mem := paM (y85M6 v) [(14, .c [.i 1, .i 1, .i 2, .i 0, .i 2, .i 0, .i 1, .i 2, .i v.p, .i v.q, .i 10, .i 20, .i v.f, .u (.l 2 [[.n 1, .n 5]]), .c 2 [], .i 4, .i 0, .i 1, .i 0])] []
abbrev y85Mm (v : PyV) : Mem := (y85M0 v)
theorem y85_run (v : PyV) (H : PyB v) : PRun Tryz.prog 12 (y85M0 v) [.r 0 0, .i 1] fun x m => x = .t [(czy211 v), .i 0] ∧ m = (y85Mm v) := Ev.runA eK3 Tryz.func12 (c := y85C1) (r := (.ret, (y85T8 v), (y85M9 v))) (Ev.piecesA (k := 3) (t1 := y74T1 v) (m1 := y85M2 v) (Ev.seqPA (t1 := y85T7 v) (m1 := y85M6 v) (Ev.regD2 (outs := [((y85T5 v), (y85M6 v))]) (by kernel_rfl) (by kernel_rfl) (by kernel_rfl) (EvD.stepsA (j := 4) (y85n5 v H)) ⟨by kernel_rfl, trivial⟩) Ev.codeA))
def y84M4 (v : PyV) : Mem := paM (y84M0 v) [] [.c [.i 1, .i 1, .i 2, .i 0, .i 2, .i 0, .i 1, .i 2, .i v.p, .i v.q, .i 10, .i 20, .i v.f, .u (.l 2 [[.n 1, .n 5]]), .c 2 [], .i 4, .i 0, .i 1, .i 0]]
def y84M8 (v : PyV) : Mem := paM (y84M4 v) [] [.c [.i 0, .i 0, .i 0, .i 0, .i 0, .i 0, .i 0, .i 0, .i 0, .i 0, .i 0, .i 0, .i 0, .nl 2, .nl 2, .i 0, .i 0, .i 0, .i 0]]
abbrev y84Mm (v : PyV) : Mem := (y84M0 v)
theorem y84_run (v : PyV) (H : PyB v) : PRun Tryz.prog 13 (y84M0 v) [.r 0 0, .i 30, .i 1, .i 4] fun x m => x = .i 9 ∧ m = (y84Mm v) := Ev.runA eK2 Tryz.func13 (c := (bodyOf Tryz.f13)) (r := (.ret, (y73T9 v), (y84M8 v))) (Ev.piecesA (k := 1) (t1 := y57T1 v) (m1 := y84M0 v) (Ev.seqPA (t1 := y73T3 v) (m1 := y84M4 v) (Ev.regA (EvO.callA (t2 := y57T2 v) (m1 := y84M0 v) (ix := [0, 1, 2, 3, 4, 5, 6, 7, 8, 9, 10, 11, 12, 13]) (k := 2) (t1 := (y57T2 v)) (args := [.r 0 0, .i 1]) (a := []) (cc := []) (y85_run v H) EvO.opsA)) (Ev.piecesA (k := 1) (t1 := y73T5 v) (m1 := y84M4 v) (Ev.seqPA (t1 := y73T7 v) (m1 := y84M8 v) (Ev.regA (EvO.callA (t2 := y73T6 v) (m1 := y84M4 v) (ix := []) (k := 2) (t1 := (y73T6 v)) (args := [(czy211 v), .i 4]) (a := []) (cc := []) (y75_run v H) EvO.opsA)) (Ev.seqE (by intro h; cases h) (by kernel_rfl) Ev.codeA)))))
def pyA2T46 (v : PyV) : Fr := puF (pyA2T45 v) [(22, .i 9), (152, .i 9)]
def pyA2T47 (v : PyV) : Fr := puF (pyA2T46 v) [(153, .i (500 + v.q - v.f)), (154, .i (500 + v.q - v.f))]
def pyA2T48 (v : PyV) : Fr := puF (pyA2T47 v) [(155, .u (.b true)), (156, .u (.b true)), (157, .i (60 - v.q)), (158, .i (60 - v.q))]
def pyA2T49 (v : PyV) : Fr := puF (pyA2T47 v) [(155, .u (.b true)), (156, .u (.b true)), (157, .i (60 - v.q)), (158, .i (60 - v.q)), (159, .u (.b true)), (160, .u (.b true)), (161, .u (.b true)), (162, .i 0), (163, .u (.b true)), (164, .u (.b true)), (165, .u (.b true)), (166, .i 0), (167, .u (.b true)), (168, .u (.b true)), (169, .u (.b true)), (170, .i 9), (171, .u (.b true)), (172, .u (.b true)), (173, .u (.b true))]
def pyA2T50 (v : PyV) : Fr := puF (pyA2T47 v) [(6, .u (.b true)), (155, .u (.b true)), (156, .u (.b true)), (157, .i (60 - v.q)), (158, .i (60 - v.q)), (159, .u (.b true)), (160, .u (.b true)), (161, .u (.b true)), (162, .i 0), (163, .u (.b true)), (164, .u (.b true)), (165, .u (.b true)), (166, .i 0), (167, .u (.b true)), (168, .u (.b true)), (169, .u (.b true)), (170, .i 9), (171, .u (.b true)), (172, .u (.b true)), (173, .u (.b true)), (174, .u (.b true)), (175, .u (.b true))]
def pyA2T51 (v : PyV) : Fr := puF (pyA2T47 v) [(6, .u (.b true)), (155, .u (.b true)), (156, .u (.b true)), (157, .i (60 - v.q)), (158, .i (60 - v.q)), (159, .u (.b true)), (160, .u (.b true)), (161, .u (.b true)), (162, .i 0), (163, .u (.b true)), (164, .u (.b true)), (165, .u (.b true)), (166, .i 0), (167, .u (.b true)), (168, .u (.b true)), (169, .u (.b true)), (170, .i 9), (171, .u (.b true)), (172, .u (.b true)), (173, .u (.b true)), (174, .u (.b true)), (175, .u (.b true))]
theorem pyA2n70 (v : PyV) (H : PyH v v.w true) : pyA2ev pyA2C16 (pyA0T19 v) (pyA2M20 v) [(.ret, (pyA2T51 v), (pyA2M38 v))] := Ev.seqPA (t1 := pyA0T23 v) (m1 := pyA2M24 v) (Ev.regA (EvO.callA (t2 := pyA0T22 v) (m1 := pyA2M20 v) (ix := [0, 1, 2, 3, 5, 7, 9, 13, 17, 15, 18, 8]) (k := 3) (t1 := (pyA0T22 v)) (args := [.r 0 0, .i 1]) (a := []) (cc := []) (y40_run v H.toB) EvO.opsA)) (Ev.seqPA (t1 := pyA2T29 v) (m1 := pyA2M24 v) (Ev.seqPA (t1 := pyA2T28 v) (m1 := pyA2M24 v) (Ev.regA (EvO.opA (t2 := pyA0T25 v) (m1 := pyA2M24 v) (v := .i (500 - v.p)) (k := 3) (t1 := (pyA0T25 v)) (symI (a := wrapF .i64 (subF 500 v.p)) (z := (500 - v.p)) (by kernel_rfl) (sSub (by have := H.toB.b; omega))) (EvO.opA (t2 := pyA2T26 v) (m1 := pyA2M24 v) (v := .i (500 - v.p - v.f)) (k := 2) (t1 := (pyA2T26 v)) (symI (a := wrapF .i64 (subF (500 - v.p) v.f)) (z := (500 - v.p - v.f)) (by kernel_rfl) (sSub (by have := H.toB.b; omega))) (EvO.opA (t2 := pyA2T27 v) (m1 := pyA2M24 v) (v := .u (.b false)) (k := 0) (t1 := (pyA2T27 v)) (symN (b := eqF (500 - v.p - v.f) (500 - v.p - v.f)) (by kernel_rfl) (sEqT (by have := H.toB.b; omega)) rfl) EvO.opsA)))) Ev.codeA) (Ev.seqPA (pyA2n55 v H) (Ev.piecesA (k := 2) (t1 := pyA2T44 v) (m1 := pyA2M38 v) (Ev.seqPA (t1 := pyA2T46 v) (m1 := pyA2M38 v) (Ev.regA (EvO.callA (t2 := pyA2T45 v) (m1 := pyA2M38 v) (ix := [0, 1, 2, 3, 5, 7, 9, 13, 20, 21, 18, 8, 22, 23]) (k := 3) (t1 := (pyA2T45 v)) (args := [.r 0 0, .i 30, .i 1, .i 4]) (a := []) (cc := []) (y84_run v H.toB) EvO.opsA)) (Ev.seqPA (t1 := pyA2T50 v) (m1 := pyA2M38 v) (Ev.regA (EvO.opA (t2 := pyA2T47 v) (m1 := pyA2M38 v) (v := .u (.b true)) (k := 2) (t1 := (pyA2T47 v)) (symE (b := eqF (500 + v.q - v.f) (500 + v.q - v.f)) (by kernel_rfl) (sEqT (by have := H.toB.b; omega))) (EvO.opA (t2 := pyA2T48 v) (m1 := pyA2M38 v) (v := .u (.b true)) (k := 3) (t1 := (pyA2T48 v)) (symE (b := eqF (60 - v.q) (60 - v.q)) (by kernel_rfl) (sEqT (by have := H.toB.b; omega))) (EvO.callA (t2 := pyA2T49 v) (m1 := pyA2M38 v) (ix := []) (k := 14) (t1 := (pyA2T49 v)) (args := []) (a := []) (cc := []) aw15_run EvO.opsA)))) Ev.codeA)))))
theorem pyA2n77 (v : PyV) (H : PyH v v.w true) : pyA2ev pyA2C2 (pyA0T1 v) (pyA2M0 v) [(.ret, (pyA2T51 v), (pyA2M38 v))] := Ev.seqPA (t1 := pyA0T3 v) (m1 := pyA2M4 v) (Ev.regA (EvO.callA (t2 := pyA0T1 v) (m1 := pyA2M0 v) (ix := []) (k := 0) (t1 := (pyA0T1 v)) (args := [.i 0]) (a := []) (cc := []) (y1_run v) EvO.opsA)) (Ev.piecesA (k := 2) (t1 := pyA0T5 v) (m1 := pyA2M6 v) (Ev.seqPA (t1 := pyA0T8 v) (m1 := pyA2M9 v) (Ev.regA (EvO.opA (t2 := pyA0T7 v) (m1 := pyA2M6 v) (v := .i v.p) (k := 1) (t1 := (pyA0T7 v)) (symI (a := IntKind.wrap .i64 v.p) (z := v.p) (by kernel_rfl) (sCv (by have := H.toB.b; omega))) EvO.opsA)) (Ev.seqPA (t1 := pyA2T12 v) (m1 := pyA2M13 v) (Ev.regA (EvO.opA (t2 := pyA0T10 v) (m1 := pyA2M9 v) (v := .i v.r) (k := 1) (t1 := (pyA0T10 v)) (symI (a := IntKind.wrap .i64 v.r) (z := v.r) (by kernel_rfl) (sCv (by have := H.toB.b; omega))) (EvO.opA (t2 := pyA0T11 v) (m1 := pyA2M9 v) (v := .i v.q) (k := 0) (t1 := (pyA0T11 v)) (symI (a := Int.tmod v.r 50) (z := v.q) (by kernel_rfl) H.hr) EvO.opsA))) (Ev.seqPA (t1 := pyA1T15 v) (m1 := pyA2M16 v) (Ev.regA (EvO.callA (t2 := pyA2T14 v) (m1 := pyA2M13 v) (ix := [0, 11, 1, 2, 3, 5, 7, 9, 4, 6, 8]) (k := 3) (t1 := (pyA2T14 v)) (args := [.r 0 0, .i 0, (czy215 v)]) (a := []) (cc := []) (y2_run v H.toB) EvO.opsA)) (Ev.piecesA (k := 2) (t1 := pyA0T17 v) (m1 := pyA2M16 v) (Ev.seqPA (t1 := pyA0T19 v) (m1 := pyA2M20 v) (Ev.seqPA (t1 := pyA0T19 v) (m1 := pyA2M20 v) (Ev.regA (EvO.callA (t2 := pyA0T18 v) (m1 := pyA2M16 v) (ix := [0, 1, 2, 3, 5, 7, 9, 13, 14, 15, 16, 8]) (k := 14) (t1 := (pyA0T18 v)) (args := [.r 0 0, .i 0, .i 1, .i 1, .i 0]) (a := []) (cc := []) (y29_run v H.toB) EvO.opsA)) Ev.codeA) (pyA2n70 v H)))))))
theorem py_A2 (v : PyV) (H : PyH v v.w true) : PRun Tryz.prog 3 [] [.u (.i .u8 v.p), .u (.i .u8 v.r), .i v.e] fun x m => x = .u (.b true) ∧ m = [] := Ev.runA eK1 Tryz.func3 (c := pyA2C1) (r := (.ret, (pyA2T51 v), (pyA2M38 v))) (Ev.piecesA (k := 1) (pyA2n77 v H))
end
end Go.Proofs.YtalglagdgabafaaGreat

/- A run, piece by piece: printed by program (ez2.py). -/
set_option linter.unusedVariables false
set_option maxRecDepth 1000000
namespace Go.Proofs.YtalglagdgabafaaGreat
open Go Go.Proofs
noncomputable section
abbrev czy00  : AB := .w 191 5 [[.n 1, .n 0, .n 1, .n 1, .n 60], [.n 1, .n 0, .n 1, .n 2, .n 40], [.n 1, .n 0, .n 1, .n 3, .n 20], [.n 2, .n 0, .n 1, .n 1, .n 55], [.n 2, .n 0, .n 1, .n 2, .n 40], [.n 2, .n 0, .n 1, .n 3, .n 20], [.n 2097153, .n 0, .n 1, .n 1, .n 5]]
abbrev czy01  : AB := .w 191 5 [[.n 1, .n 0, .n 1, .n 1, .n 60], [.n 1, .n 0, .n 1, .n 2, .n 40], [.n 1, .n 0, .n 1, .n 3, .n 20], [.n 2, .n 0, .n 1, .n 1, .n 55], [.n 2, .n 0, .n 1, .n 2, .n 40], [.n 2, .n 0, .n 1, .n 3, .n 20], [.n 2, .n 0, .n 2, .n 1, .n 5]]
abbrev czy02  : AB := .w 191 5 [[.n 1, .n 0, .n 1, .n 1, .n 60], [.n 1, .n 0, .n 1, .n 2, .n 40], [.n 1, .n 0, .n 1, .n 3, .n 20], [.n 2, .n 0, .n 1, .n 1, .n 60], [.n 2, .n 0, .n 1, .n 2, .n 40], [.n 2, .n 0, .n 1, .n 3, .n 20]]
abbrev czy03  : AB := .w 191 5 [[.n 1, .n 0, .n 1, .n 1, .n 65], [.n 1, .n 0, .n 1, .n 2, .n 40], [.n 1, .n 0, .n 1, .n 3, .n 20], [.n 2, .n 0, .n 1, .n 1, .n 55], [.n 2, .n 0, .n 1, .n 2, .n 40], [.n 2, .n 0, .n 1, .n 3, .n 20]]
abbrev czy04  : AB := .w 191 5 [[.n 0, .n 0, .n 0, .n 0, .n 1], [.n 1, .n 0, .n 0, .n 0, .n 60], [.n 2, .n 0, .n 0, .n 0, .n 499], [.n 3, .n 0, .n 0, .n 0, .n 2], [.n 2097153, .n 0, .n 0, .n 0, .n 0]]
abbrev czy05  : AB := .w 33 19 [[.n 1, .n 1, .n 2, .n 0, .n 2, .n 0, .n 1, .n 2, .n 0, .n 0, .n 10, .n 20, .n 1, .l 2 [[.n 1, .n 5]], .l 2 [], .n 1, .n 10, .n 0, .n 0]]
abbrev czy06  : AB := .w 33 19 [[.n 1, .n 1, .n 2, .n 0, .n 2, .n 0, .n 1, .n 2, .n 0, .n 0, .n 10, .n 20, .n 1, .l 2 [[.n 1, .n 5]], .l 2 [], .n 2, .n 20, .n 1, .n 0]]
abbrev czy07  : AB := .w 33 19 [[.n 1, .n 1, .n 2, .n 0, .n 2, .n 0, .n 1, .n 2, .n 0, .n 0, .n 10, .n 20, .n 1, .l 2 [[.n 1, .n 5]], .l 2 [], .n 3, .n 0, .n 1, .n 0]]
abbrev czy08  : AB := .w 33 19 [[.n 1, .n 1, .n 2, .n 0, .n 2, .n 0, .n 1, .n 2, .n 0, .n 0, .n 10, .n 20, .n 1, .l 2 [[.n 1, .n 5]], .l 2 [], .n 4, .n 0, .n 1, .n 0]]
abbrev czy09  : V := .a [.i 0, .i 0, .i 20, .i 0, .i 0, .i 0, .i 0, .i 0, .i 0, .i 0, .i 0, .i 0, .i 0, .i 0, .i 0, .i 0, .i 0, .nl 2, .nl 2, .i 0, .i 0, .i 0, .i 0]
abbrev czy010  : V := .a [.i 1, .i 1, .i 2, .i 0, .i 2, .i 0, .i 1, .i 2, .i 0, .i 0, .i 10, .i 20, .i 1, .u (.l 2 [[.n 1, .n 5]]), .c 2 [], .i 2, .i 20, .i 1, .i 0]
abbrev czy011  : AB := .w 146 7 [[.n 3, .n 2, .n 10, .l 2 [[.n 1, .n 3], [.n 2, .n 1]], .n 2, .n 3, .n 5], [.n 4, .n 1, .n 7, .l 2 [[.n 3, .n 2]], .n 0, .n 0, .n 3]]
abbrev czy012  : AB := .w 191 5 [[.n 0, .n 0, .n 0, .n 0, .n 0], [.n 1, .n 0, .n 0, .n 0, .n 60], [.n 2, .n 0, .n 0, .n 0, .n 500], [.n 3, .n 0, .n 0, .n 0, .n 2]]
abbrev czy013  : V := .a [.i 1, .i 1, .i 2, .i 0, .i 2, .i 0, .i 1, .i 2, .i 0, .i 0, .i 10, .i 20, .i 1, .w 13, .c 2 [], .i 1, .i 10, .i 0, .i 0]
abbrev czy014  : V := .a [.i 1, .i 1, .i 2, .i 0, .i 2, .i 0, .i 1, .i 2, .i 0, .i 0, .i 10, .i 20, .i 1, .w 13, .c 2 [], .i 2, .i 20, .i 1, .i 0]
abbrev czy015  : V := .a [.i 1, .i 1, .i 2, .i 0, .i 2, .i 0, .i 1, .i 2, .i 0, .i 0, .i 10, .i 20, .i 1, .w 12, .c 2 [], .i 2, .i 20, .i 1, .i 0]
abbrev czy016  : V := .a [.i 1, .i 1, .i 2, .i 0, .i 2, .i 0, .i 1, .i 2, .i 0, .i 0, .i 10, .i 20, .i 1, .w 12, .c 2 [], .i 3, .i 0, .i 1, .i 0]
abbrev czy017  : V := .a [.i 1, .i 1, .i 2, .i 0, .i 2, .i 0, .i 1, .i 2, .i 0, .i 0, .i 10, .i 20, .i 1, .w 14, .c 2 [], .i 3, .i 0, .i 1, .i 0]
abbrev czy018  : V := .a [.i 1, .i 1, .i 2, .i 0, .i 2, .i 0, .i 1, .i 2, .i 0, .i 0, .i 10, .i 20, .i 1, .w 12, .c 2 [], .i 4, .i 0, .i 1, .i 0]
abbrev czy019  : V := .a [.i 1, .i 1, .i 2, .i 0, .i 2, .i 0, .i 1, .i 2, .i 0, .i 0, .i 10, .i 20, .i 1, .w 14, .c 2 [], .i 4, .i 0, .i 1, .i 0]
abbrev czy020  : V := .a [.i 1, .i 1, .i 2, .i 0, .i 2, .i 0, .i 1, .i 2, .i 0, .i 0, .i 10, .i 20, .i 1, .w 12, .nl 2, .i 1, .i 10, .i 0, .i 0]
abbrev czy021  : V := .a [.i 0, .i 1, .i 2, .i 0, .i 2, .i 0, .i 1, .i 2, .i 0, .i 0, .i 10, .i 20, .i 0, .w 11, .nl 2, .i 0, .i 0, .i 0, .i 0]
abbrev czy022  : V := .a [.i 0, .i 1, .i 2, .i 0, .i 2, .i 0, .i 1, .i 2, .i 0, .i 0, .i 10, .i 20, .i 0, .w 1, .nl 2, .i 0, .i 0, .i 0, .i 0]
abbrev czy023  : V := .n .i64 33 [0, 120, 80, 40, 0, 0, 0, 0, 0, 0, 0, 0, 0, 0, 0, 0, 0, 0, 0, 0, 0, 0, 0, 0, 0, 0, 0, 0, 0, 0, 0, 0, 0]
abbrev czy024  : AB := .w 152 4 [[.n 1, .n 1, .n 1, .n 1000], [.n 1, .n 1, .n 0, .n 0]]
noncomputable abbrev pyZ0ev := Ev Tryz.prog eK1 (List.range 600) 300 60 3
def pyZ0T0 (v : PyV) : Fr := frameF Tryz.prog Tryz.f3 [.u (.i .u8 0), .u (.i .u8 v.r), .i v.e]
def pyZ0M0 (v : PyV) : Mem := []
noncomputable abbrev pyZ0C1 : Code := bodyOf Tryz.f3
def pyZ0T1 (v : PyV) : Fr := puF (pyZ0T0 v) [(6, .u (.b false))]
def pyZ0T3 (v : PyV) : Fr := puF (pyA0T3 v) [(0, .u (.i .u8 0))]
def pyZ0M4 (v : PyV) : Mem := [.c [.i 4, .w 1, .i 2, .w 2, .i 3, .i 200, .i 1, .i 500, .r 3 0, .r 5 0, .r 7 0, .r 9 0, .nl 19],
  czy011,
  czy024,
  .c [.w 4, .i 562],
  czy012,
  .c [.w 6, czy023],
  czy02,
  .c [.nl 3, .m 8, .i 256, .i 1],
  .p .n 1 false [],
  .c [.nl 4, .nm],
  .c [.r 0 0, .r 3 0, .r 5 0, .r 7 0, .r 9 0]]
def pyZ0T5 (v : PyV) : Fr := puF (pyA0T5 v) [(0, .u (.i .u8 0))]
def pyZ0M6 (v : PyV) : Mem := paM (pyZ0M4 v) [] [.w 106 2 [[.n 1, .n 5]],
  .c [.i 0, .i 1, .i 2, .i 0, .i 2, .i 0, .i 1, .i 2, .i 100, .i 50, .i 10, .i 20, .i 0, .w 11, .nl 2, .i 0, .i 0, .i 0, .i 0]]
noncomputable abbrev pyZ0C5 : Code := dropK 2 (cR (dropK 1 pyZ0C1))
def pyZ0T7 (v : PyV) : Fr := puF (pyZ0T5 v) [(30, .u (.i .u8 0))]
def pyZ0T8 (v : PyV) : Fr := puF (pyZ0T7 v) [(31, .i 0), (32, .r 12 8)]
def pyZ0M9 (v : PyV) : Mem := paM (pyZ0M6 v) [(12, .c [.i 0, .i 1, .i 2, .i 0, .i 2, .i 0, .i 1, .i 2, .i 0, .i 50, .i 10, .i 20, .i 0, .w 11, .nl 2, .i 0, .i 0, .i 0, .i 0])] []
theorem pyZ0n5 (v : PyV) (H : PyZ v 0 false) : pyZ0ev (cL pyZ0C5) (pyZ0T5 v) (pyZ0M6 v) [(.nrm, (pyZ0T8 v), (pyZ0M9 v))] := Ev.regA EvO.opsA
noncomputable abbrev pyZ0C7 : Code := cR pyZ0C5
def pyZ0T10 (v : PyV) : Fr := puF (pyZ0T8 v) [(33, .u (.i .u8 v.r))]
def pyZ0T11 (v : PyV) : Fr := puF (pyZ0T10 v) [(34, .i v.r)]
def pyZ0T12 (v : PyV) : Fr := puF (pyZ0T10 v) [(34, .i v.r), (35, .i 0), (36, .r 12 9)]
def pyZ0M13 (v : PyV) : Mem := paM (pyZ0M6 v) [(12, .c [.i 0, .i 1, .i 2, .i 0, .i 2, .i 0, .i 1, .i 2, .i 0, .i 0, .i 10, .i 20, .i 0, .w 11, .nl 2, .i 0, .i 0, .i 0, .i 0])] []
theorem pyZ0n9 (v : PyV) (H : PyZ v 0 false) : pyZ0ev (cL pyZ0C7) (pyZ0T8 v) (pyZ0M9 v) [(.nrm, (pyZ0T12 v), (pyZ0M13 v))] := Ev.regA (EvO.opA (t2 := pyZ0T10 v) (m1 := pyZ0M9 v) (v := .i v.r) (k := 1) (t1 := (pyZ0T10 v)) (symI (a := IntKind.wrap .i64 v.r) (z := v.r) (by kernel_rfl) (sCv (by have := H.b; omega))) (EvO.opA (t2 := pyZ0T11 v) (m1 := pyZ0M9 v) (v := .i 0) (k := 0) (t1 := (pyZ0T11 v)) (symI (a := Int.tmod v.r 50) (z := 0) (by kernel_rfl) H.hr) EvO.opsA))
noncomputable abbrev pyZ0C9 : Code := cR pyZ0C7
def pyZ0T14 (v : PyV) : Fr := puF (pyA2T14 v) [(0, .u (.i .u8 0)), (30, .u (.i .u8 0)), (31, .i 0), (35, .i 0), (40, czy021)]
def y86M0 (v : PyV) : Mem := [.c [.i 4, .w 2, .i 2, .w 3, .i 3, .i 200, .i 1, .i 500, .r 4 0, .r 5 0, .r 6 0, .r 7 0, .nl 19],
  .w 106 2 [[.n 1, .n 5]],
  czy011,
  czy024,
  .c [.w 8, .i 562],
  .c [.w 9, czy023],
  .c [.nl 3, .m 10, .i 256, .i 1],
  .c [.nl 4, .nm],
  czy012,
  czy02,
  .p .n 1 false []]
def y86T1 (v : PyV) : Fr := Fr.mk [.r 0 0, .i 0, czy022, .z, .z, .r 11 0, .i 1, .i 0, .i 0, .r 14 0, .i 500, .i 0, .r 0 0, .u (.b true), .u (.b false), .t [czy020, .i 0], .r 0 0, .i 0, czy022, .t [czy020, .i 0], czy020, .i 0, .i 0, .u (.b false), .z, .r 11 2, .i 2, .r 11 3, .i 0, .r 11 6, .i 1, .a [.i 2, .i 0, .i 1, .i 1], .t [.i 500, .i 0], .r 0 0, .r 0 0, .r 0 8, .r 4 0, .r 11 2, .i 2, .t [.i 500, .i 0], .i 500, .i 0, .u (.b false), .i 500, .r 11 12, .i 1, czy020, .i 0, .i 1, .u (.b false), .u (.b false), .r 0 0, .a [.i 2, .i 0, .i 1, .i 1], .r 11 13, .w 12, .u (.b true), .u (.b false), .r 0 0, .r 0 0, .r 0 8, .r 4 0, .r 11 2, .i 2, .r 11 12, .i 1, .i 0, .r 0 0, .r 0 0, .r 0 8, .r 4 0, .r 11 2, .i 2, .r 11 0, .i 1, czy020, .i 0, .i 0, .r 0 0, .r 0 0, .r 0 9, .r 5 0, .a [.i 2, .i 0, .i 1, .i 1], .r 11 0, .i 1, .r 11 13, .w 12, .i 0, .r 0 0, .r 0 0, .r 0 10, .r 6 0, .r 11 16, .i 10, .r 11 0, .i 1, .i 3, .t [.i 1, .i 0], .r 0 0, .r 0 0, .r 0 0, .r 0 12, .nl 19, czy020, .w 20, .w 21, .r 0 0, .r 0 12, .r 11 0, .i 1] 0 109
def y86M2 (v : PyV) : Mem := [.c [.i 4, .w 2, .i 2, .w 3, .i 3, .i 200, .i 1, .i 500, .r 4 0, .r 5 0, .r 6 0, .r 7 0, .w 21],
  .w 106 2 [[.n 1, .n 5]],
  czy011,
  czy024,
  .c [.w 17, .i 562],
  .c [.w 18, czy023],
  .c [.w 19, .m 10, .i 256, .i 2],
  .c [.nl 4, .nm],
  czy012,
  czy02,
  .p .n 1 false [(.n 1, [.n 0])],
  .c [.i 1, .i 1, .i 2, .i 0, .i 2, .i 0, .i 1, .i 2, .i 0, .i 0, .i 10, .i 20, .i 1, .w 12, .nl 2, .i 1, .i 10, .i 0, .i 0],
  .x,
  .c [.i 2, .i 0, .i 1, .i 1],
  .c [.i 2, .i 0, .i 1, .i 1],
  .c [.i 1, .i 1, .i 2, .i 0, .i 2, .i 0, .i 1, .i 2, .i 0, .i 0, .i 10, .i 20, .i 1, .w 12, .nl 2, .i 1, .i 10, .i 0, .i 0],
  .w 191 5 [[.n 0, .n 0, .n 0, .n 0, .n 1], [.n 1, .n 0, .n 0, .n 0, .n 60], [.n 2, .n 0, .n 0, .n 0, .n 499], [.n 3, .n 0, .n 0, .n 0, .n 2]],
  czy04,
  czy00,
  .w 136 3 [[.n 10, .n 1, .n 3]],
  czy05,
  czy05]
def y86M3 (v : PyV) : Mem := [.c [.i 4, .w 2, .i 2, .w 3, .i 3, .i 200, .i 1, .i 500, .r 4 0, .r 5 0, .r 6 0, .r 7 0, .w 11],
  .w 106 2 [[.n 1, .n 5]],
  czy011,
  czy024,
  .c [.w 12, .i 562],
  .c [.w 13, czy023],
  .c [.w 14, .m 10, .i 256, .i 2],
  .c [.nl 4, .nm],
  czy012,
  czy02,
  .p .n 1 false [(.n 1, [.n 0])],
  czy05,
  czy04,
  czy00,
  .w 136 3 [[.n 10, .n 1, .n 3]]]
abbrev y86Mm (v : PyV) : Mem := (y86M3 v)
theorem y86_run (v : PyV) : PRun Tryz.prog 9 (y86M0 v) [.r 0 0, .i 0, czy022] fun x m => x = .t [.i 1, .i 0] ∧ m = (y86Mm v) := Ev.runA (speWhole whp) Tryz.func9 (c := (bodyOf Tryz.f9)) (r := (.ret, (y86T1 v), (y86M2 v))) Ev.codeA
def pyZ0T15 (v : PyV) : Fr := puF (pyZ0T14 v) [(10, .i 1), (11, .i 0), (37, .t [.i 1, .i 0]), (41, .t [.i 1, .i 0]), (42, .i 1), (43, .i 0)]
def pyZ0M16 (v : PyV) : Mem := [.c [.i 4, .w 1, .i 2, .w 2, .i 3, .i 200, .i 1, .i 500, .r 3 0, .r 5 0, .r 7 0, .r 9 0, .w 13],
  czy011,
  czy024,
  .c [.w 14, .i 562],
  czy012,
  .c [.w 15, czy023],
  czy02,
  .c [.w 16, .m 8, .i 256, .i 2],
  .p .n 1 false [(.n 1, [.n 0])],
  .c [.nl 4, .nm],
  .c [.r 0 0, .r 3 0, .r 5 0, .r 7 0, .r 9 0],
  .w 106 2 [[.n 1, .n 5]],
  .c [.i 0, .i 1, .i 2, .i 0, .i 2, .i 0, .i 1, .i 2, .i 0, .i 0, .i 10, .i 20, .i 0, .w 11, .nl 2, .i 0, .i 0, .i 0, .i 0],
  czy05,
  czy04,
  czy00,
  .w 136 3 [[.n 10, .n 1, .n 3]]]
theorem pyZ0n12 (v : PyV) (H : PyZ v 0 false) : pyZ0ev (cL pyZ0C9) (pyZ0T12 v) (pyZ0M13 v) [(.nrm, (pyZ0T15 v), (pyZ0M16 v))] := Ev.regA (EvO.callA (t2 := pyZ0T14 v) (m1 := pyZ0M13 v) (ix := [0, 11, 1, 2, 3, 5, 7, 9, 4, 6, 8]) (k := 3) (t1 := (pyZ0T14 v)) (args := [.r 0 0, .i 0, czy021]) (a := []) (cc := []) (y86_run v) EvO.opsA)
def pyZ0T17 (v : PyV) : Fr := puF (pyZ0T15 v) [(12, .i 499), (13, .i 0), (14, .i 60), (15, .i 0), (44, .t [.i 499, .i 0]), (45, .r 10 1), (46, .r 3 0), (47, .t [.i 499, .i 0]), (48, .i 499), (49, .i 0), (50, .t [.i 60, .i 0]), (51, .r 10 1), (52, .r 3 0), (53, .t [.i 60, .i 0]), (54, .i 60), (55, .i 0)]
noncomputable abbrev pyZ0C12 : Code := dropK 2 (cR pyZ0C9)
def pyZ0T18 (v : PyV) : Fr := puF (pyZ0T17 v) [(56, .i 0), (57, .u (.b false)), (58, .u (.b false)), (59, .i 0), (60, .u (.b false)), (61, .u (.b false)), (62, .u (.b false)), (63, .i 0), (64, .u (.b false)), (65, .u (.b false)), (66, .u (.b false)), (67, .r 10 0), (68, .r 0 0), (69, .i 1)]
def y87M0 (v : PyV) : Mem := [.c [.i 4, .w 1, .i 2, .w 2, .i 3, .i 200, .i 1, .i 500, .r 3 0, .r 4 0, .r 5 0, .r 6 0, .w 7],
  czy011,
  czy024,
  .c [.w 8, .i 562],
  .c [.w 9, czy023],
  .c [.w 10, .m 11, .i 256, .i 2],
  .c [.nl 4, .nm],
  czy05,
  czy04,
  czy00,
  .w 136 3 [[.n 10, .n 1, .n 3]],
  .p .n 1 false [(.n 1, [.n 0])]]
def y87T1 (v : PyV) : Fr := Fr.mk [.r 0 0, .i 0, .i 1, .i 1, .i 0, .r 12 0, .z, .z, .z, .z, .i 0, .r 14 0, .i 0, .r 15 0, .i 0, .r 16 0, .r 17 0, .i 60, .z, .z, .t [czy013, .i 0], .r 0 0, .i 1, .t [czy013, .i 0], czy013, .i 0, .i 0, .u (.b false), .z, .t [czy014, .i 0], czy013, .i 0, .i 1, .i 0, .t [czy014, .i 0], czy014, .i 0, .i 0, .u (.b false), .z, .r 14 9, .i 0, .r 14 1, .i 1, .u (.b false), .z, .z, .i 1, .i 0, .r 14 6, .i 1, .a [.i 1, .i 0, .i 1, .i 1], .r 14 2, .i 2, .r 14 3, .i 0, .r 14 6, .i 1, .a [.i 2, .i 0, .i 1, .i 1], .t [.i 60, .i 0], .r 0 0, .r 0 0, .r 0 8, .r 3 0, .i 1, .t [.i 60, .i 0], .i 60, .i 0, .u (.b false), .i 0, .u (.b false), .u (.b false), .i 60, .i 0, .u (.b false), .u (.b false), .r 0 0, .a [.i 1, .i 0, .i 1, .i 1], .r 14 14, .c 2 [], .u (.b true), .u (.b false), .r 0 0, .r 0 0, .r 0 8, .r 3 0, .i 1, .i 1, .i 0, .i 0, .r 14 1, .i 1, .u (.b true), .r 0 0, .r 0 0, .r 0 12, .w 7, .i 1, .i 0, czy014, .e 7 19 0 0, .r 0 0, .i 1, .f 49 [] [.r 12 0, .r 15 0], .t []] 43 148
def y87M2 (v : PyV) : Mem := paM (y87M0 v) [(3, .c [.w 18, .i 562]), (5, .c [.w 19, .m 11, .i 256, .i 3]), (7, czy06), (10, .x), (11, .p .n 1 false [(.n 2, [.n 0])])] [.c [.r 0 0],
  .x,
  .c [.i 1, .i 1, .i 2, .i 0, .i 2, .i 0, .i 1, .i 2, .i 0, .i 0, .i 10, .i 20, .i 1, .w 13, .c 2 [], .i 1, .i 10, .i 0, .i 0],
  .c [.i 1, .i 1, .i 2, .i 0, .i 2, .i 0, .i 1, .i 2, .i 0, .i 0, .i 10, .i 20, .i 1, .w 13, .c 2 [], .i 2, .i 20, .i 1, .i 0],
  .c [.i 1, .i 0, .i 1, .i 1],
  .c [.i 2, .i 0, .i 1, .i 1],
  czy04,
  .w 136 3 [[.n 20, .n 2, .n 3]]]
def y87M3 (v : PyV) : Mem := paM (y87M0 v) [(3, .c [.w 12, .i 562]), (5, .c [.w 13, .m 11, .i 256, .i 3]), (7, czy06), (10, .x), (11, .p .n 1 false [(.n 2, [.n 0])])] [czy04,
  .w 136 3 [[.n 20, .n 2, .n 3]]]
abbrev y87Mm (v : PyV) : Mem := (y87M3 v)
theorem y87_run (v : PyV) : PRun Tryz.prog 11 (y87M0 v) [.r 0 0, .i 0, .i 1, .i 1, .i 0] fun x m => x = .i 0 ∧ m = (y87Mm v) := Ev.runA (speWhole whp) Tryz.func11 (c := (bodyOf Tryz.f11)) (r := (.ret, (y87T1 v), (y87M2 v))) Ev.codeA
def pyZ0T19 (v : PyV) : Fr := puF (pyA0T19 v) [(0, .u (.i .u8 0)), (12, .i 499), (30, .u (.i .u8 0)), (31, .i 0), (35, .i 0), (40, czy021), (44, .t [.i 499, .i 0]), (47, .t [.i 499, .i 0]), (48, .i 499)]
def pyZ0M20 (v : PyV) : Mem := paM (pyZ0M16 v) [(3, .c [.w 17, .i 562]), (7, .c [.w 18, .m 8, .i 256, .i 3]), (8, .p .n 1 false [(.n 2, [.n 0])]), (13, czy06), (16, .x)] [czy04,
  .w 136 3 [[.n 20, .n 2, .n 3]]]
theorem pyZ0n17 (v : PyV) (H : PyZ v 0 false) : pyZ0ev (cL pyZ0C12) (pyZ0T17 v) (pyZ0M16 v) [(.nrm, (pyZ0T19 v), (pyZ0M20 v))] := Ev.seqPA (t1 := pyZ0T19 v) (m1 := pyZ0M20 v) (Ev.regA (EvO.callA (t2 := pyZ0T18 v) (m1 := pyZ0M16 v) (ix := [0, 1, 2, 3, 5, 7, 9, 13, 14, 15, 16, 8]) (k := 14) (t1 := (pyZ0T18 v)) (args := [.r 0 0, .i 0, .i 1, .i 1, .i 0]) (a := []) (cc := []) (y87_run v) EvO.opsA)) Ev.codeA
def pyZ0T22 (v : PyV) : Fr := puF (pyZ0T19 v) [(74, .r 10 0), (75, .r 0 0), (76, .i 1)]
def y88M0 (v : PyV) : Mem := [.c [.i 4, .w 1, .i 2, .w 2, .i 3, .i 200, .i 1, .i 500, .r 3 0, .r 4 0, .r 5 0, .r 6 0, .w 7],
  czy011,
  czy024,
  .c [.w 8, .i 562],
  .c [.w 9, czy023],
  .c [.w 10, .m 11, .i 256, .i 3],
  .c [.nl 4, .nm],
  czy06,
  czy04,
  czy00,
  .w 136 3 [[.n 20, .n 2, .n 3]],
  .p .n 1 false [(.n 2, [.n 0])]]
def y88T1 (v : PyV) : Fr := puF (y40T5 v) [(32, .a [.i 1, .i 1, .i 2, .i 0, .i 2, .i 0, .i 1, .i 2, .i 0, .i 0, .i 10, .i 20, .i 1, .u (.l 2 [[.n 1, .n 5]]), .u (.l 2 []), .i 2, .i 20, .i 1, .i 0]), (35, .w 14), (41, .a [.i 1, .i 1, .i 2, .i 0, .i 2, .i 0, .i 1, .i 2, .i 0, .i 0, .i 10, .i 20, .i 1, .w 14, .c 2 [], .i 2, .i 20, .i 1, .i 0])]
def y88M2 (v : PyV) : Mem := paM (y88M0 v) [] [.c [.i 1, .i 1, .i 2, .i 0, .i 2, .i 0, .i 1, .i 2, .i 0, .i 0, .i 10, .i 20, .i 1, .w 14, .c 2 [], .i 2, .i 20, .i 1, .i 0],
  .c [.i 1, .i 1, .i 2, .i 0, .i 2, .i 0, .i 1, .i 2, .i 0, .i 0, .i 10, .i 20, .i 1, .w 14, .c 2 [], .i 2, .i 20, .i 1, .i 0],
  .w 106 2 [[.n 1, .n 5]]]
abbrev y88Mm (v : PyV) : Mem := (y88M0 v)
theorem y88_run (v : PyV) : PRun Tryz.prog 12 (y88M0 v) [.r 0 0, .i 1] fun x m => x = .t [czy010, .i 0] ∧ m = (y88Mm v) := Ev.runA (speWhole whp) Tryz.func12 (c := (bodyOf Tryz.f12)) (r := (.ret, (y88T1 v), (y88M2 v))) Ev.codeA
def pyZ0T23 (v : PyV) : Fr := puF (pyZ0T22 v) [(16, .r 19 0), (17, .i 0), (73, .t [czy010, .i 0]), (77, .t [czy010, .i 0]), (78, czy010), (79, .i 0)]
def pyZ0M24 (v : PyV) : Mem := paM (pyZ0M20 v) [] [.c [.i 1, .i 1, .i 2, .i 0, .i 2, .i 0, .i 1, .i 2, .i 0, .i 0, .i 10, .i 20, .i 1, .u (.l 2 [[.n 1, .n 5]]), .c 2 [], .i 2, .i 20, .i 1, .i 0]]
def pyZ0T28 (v : PyV) : Fr := puF (pyZ0T23 v) [(80, .i 499), (81, .r 12 8), (82, .i 0), (83, .i 500), (84, .r 19 12), (85, .i 1), (86, .i 499), (87, .u (.b false)), (88, .u (.b false)), (89, .i 60), (90, .u (.b false)), (91, .u (.b false))]
def pyZ0T29 (v : PyV) : Fr := puF (pyZ0T23 v) [(80, .i 499), (81, .r 12 8), (82, .i 0), (83, .i 500), (84, .r 19 12), (85, .i 1), (86, .i 499), (87, .u (.b false)), (88, .u (.b false)), (89, .i 60), (90, .u (.b false)), (91, .u (.b false))]
def pyZ0T30 (v : PyV) : Fr := puF (pyZ0T23 v) [(80, .i 499), (81, .r 12 8), (82, .i 0), (83, .i 500), (84, .r 19 12), (85, .i 1), (86, .i 499), (87, .u (.b false)), (88, .u (.b false)), (89, .i 60), (90, .u (.b false)), (91, .u (.b false)), (92, .i v.e)]
def pyZ0T31 (v : PyV) : Fr := puF (pyZ0T23 v) [(80, .i 499), (81, .r 12 8), (82, .i 0), (83, .i 500), (84, .r 19 12), (85, .i 1), (86, .i 499), (87, .u (.b false)), (88, .u (.b false)), (89, .i 60), (90, .u (.b false)), (91, .u (.b false)), (92, .i v.e), (93, .i 0)]
def pyZ0T33 (v : PyV) : Fr := puF (pyZ0T23 v) [(80, .i 499), (81, .r 12 8), (82, .i 0), (83, .i 500), (84, .r 19 12), (85, .i 1), (86, .i 499), (87, .u (.b false)), (88, .u (.b false)), (89, .i 60), (90, .u (.b false)), (91, .u (.b false)), (92, .i v.e), (93, .i 0), (108, .u (.b true)), (109, .u (.b true))]
def pyZ0T34 (v : PyV) : Fr := puF (pyZ0T23 v) [(80, .i 499), (81, .r 12 8), (82, .i 0), (83, .i 500), (84, .r 19 12), (85, .i 1), (86, .i 499), (87, .u (.b false)), (88, .u (.b false)), (89, .i 60), (90, .u (.b false)), (91, .u (.b false)), (92, .i v.e), (93, .i 0), (108, .u (.b true)), (109, .u (.b true)), (110, .r 10 0), (111, .r 0 0), (112, .i 1)]
def y89M0 (v : PyV) : Mem := [.c [.i 4, .w 1, .i 2, .w 2, .i 3, .i 200, .i 1, .i 500, .r 3 0, .r 4 0, .r 5 0, .r 6 0, .w 7],
  czy011,
  czy024,
  .c [.w 8, .i 562],
  .c [.w 9, czy023],
  .c [.w 10, .m 11, .i 256, .i 3],
  .c [.nl 4, .nm],
  czy06,
  czy04,
  czy00,
  .w 136 3 [[.n 20, .n 2, .n 3]],
  .p .n 1 false [(.n 2, [.n 0])]]
def y89T1 (v : PyV) : Fr := Fr.mk [.r 0 0, .i 1, .i 1, .i 3, .z, .z, .z, .z, .i 0, .r 13 0, .i 0, .r 14 0, .r 16 0, .w 17, .i 0, .z, .r 18 0, .t [czy015, .i 0], .r 0 0, .i 1, .t [czy015, .i 0], czy015, .i 0, .u (.b false), .i 0, .u (.b false), .z, .u (.b false), .i 1, .u (.b false), .u (.b false), .i 1, .u (.b false), .u (.b false), .t [czy016, .i 0], czy015, .i 3, .t [czy016, .i 0], czy016, .i 0, .i 0, .u (.b false), .z, .r 13 2, .i 2, .r 13 3, .i 0, .r 13 6, .i 1, .a [.i 2, .i 0, .i 1, .i 1], .i 3, .u (.b true), .u (.b true), .r 13 7, .i 2, .r 16 2, .z, .z, .z, .z, .z, .z, .z, .z, .z, .t [.w 17, .i 0], .r 0 0, .r 0 0, .r 0 9, .r 4 0, .i 1, .r 13 6, .i 1, .t [.w 17, .i 0], .w 17, .i 0, .w 17, .i 1, .i 1, .u (.b false), .e 17 2 0 0, .a [.i 1, .i 5], .r 18 0, .i 1, .r 16 3, .r 0 0, .r 0 0, .r 0 9, .r 4 0, .a [.i 2, .i 0, .i 2, .i 1], .r 18 1, .i 5, .i 0, .i 1, .r 0 0, czy015, .i 3, .i 1, .a [.i 1, .i 1, .i 2, .i 0, .i 2, .i 0, .i 1, .i 2, .i 0, .i 0, .i 10, .i 20, .i 1, .w 12, .c 2 [], .i 2, .i 20, .i 1, .i 0, .i 3, .i 1, .i 0], czy016, .t []] 0 101
def y89M2 (v : PyV) : Mem := [.c [.i 4, .w 1, .i 2, .w 2, .i 3, .i 200, .i 1, .i 500, .r 3 0, .r 4 0, .r 5 0, .r 6 0, .w 7],
  czy011,
  czy024,
  .c [.w 8, .i 562],
  .c [.w 19, czy023],
  .c [.v 10 3 0 0 false, .m 11, .i 256, .i 3],
  .c [.w 20, .m 21],
  czy07,
  czy04,
  czy00,
  .w 136 3 [[.n 20, .n 2, .n 3]],
  .p .n 1 false [],
  .x,
  .c [.i 1, .i 1, .i 2, .i 0, .i 2, .i 0, .i 1, .i 2, .i 0, .i 0, .i 10, .i 20, .i 1, .w 12, .c 2 [], .i 2, .i 20, .i 1, .i 0],
  .c [.i 1, .i 1, .i 2, .i 0, .i 2, .i 0, .i 1, .i 2, .i 0, .i 0, .i 10, .i 20, .i 1, .w 12, .c 2 [], .i 3, .i 0, .i 1, .i 0],
  .c [.i 2, .i 0, .i 1, .i 1],
  .c [.i 2, .i 0, .i 2, .i 1],
  .w 106 2 [[.n 1, .n 5]],
  .c [.i 1, .i 5],
  czy01,
  .w 54 4 [[.n 1, .n 2, .n 1, .n 3]],
  .p (.a 2) 1 false [(.a [2, 1], [.n 0])]]
def y89M3 (v : PyV) : Mem := paM (y89M0 v) [(4, .c [.w 12, czy023]), (5, .c [.v 10 3 0 0 false, .m 11, .i 256, .i 3]), (6, .c [.w 13, .m 14]), (7, czy07), (11, .p .n 1 false [])] [czy01,
  .w 54 4 [[.n 1, .n 2, .n 1, .n 3]],
  .p (.a 2) 1 false [(.a [2, 1], [.n 0])]]
abbrev y89Mm (v : PyV) : Mem := (y89M3 v)
theorem y89_run (v : PyV) : PRun Tryz.prog 13 (y89M0 v) [.r 0 0, .i 1, .i 1, .i 3] fun x m => x = .i 0 ∧ m = (y89Mm v) := Ev.runA (speWhole whp) Tryz.func13 (c := (bodyOf Tryz.f13)) (r := (.ret, (y89T1 v), (y89M2 v))) Ev.codeA
def pyZ0T35 (v : PyV) : Fr := puF (pyZ0T23 v) [(80, .i 499), (81, .r 12 8), (82, .i 0), (83, .i 500), (84, .r 19 12), (85, .i 1), (86, .i 499), (87, .u (.b false)), (88, .u (.b false)), (89, .i 60), (90, .u (.b false)), (91, .u (.b false)), (92, .i v.e), (93, .i 0), (108, .u (.b true)), (109, .u (.b true)), (110, .r 10 0), (111, .r 0 0), (112, .i 1), (113, .i 0), (114, .u (.b false))]
def pyZ0M36 (v : PyV) : Mem := paM (pyZ0M24 v) [(5, .c [.w 20, czy023]), (7, .c [.v 18 3 0 0 false, .m 8, .i 256, .i 3]), (8, .p .n 1 false []), (9, .c [.w 21, .m 22]), (13, czy07)] [czy01,
  .w 54 4 [[.n 1, .n 2, .n 1, .n 3]],
  .p (.a 2) 1 false [(.a [2, 1], [.n 0])]]
def pyZ0T37 (v : PyV) : Fr := puF (pyZ0T23 v) [(80, .i 499), (81, .r 12 8), (82, .i 0), (83, .i 500), (84, .r 19 12), (85, .i 1), (86, .i 499), (87, .u (.b false)), (88, .u (.b false)), (89, .i 60), (90, .u (.b false)), (91, .u (.b false)), (92, .i v.e), (93, .i 0), (108, .u (.b true)), (109, .u (.b true)), (110, .r 10 0), (111, .r 0 0), (112, .i 1), (113, .i 0), (114, .u (.b false))]
def pyZ0T39 (v : PyV) : Fr := puF (pyZ0T23 v) [(80, .i 499), (81, .r 12 8), (82, .i 0), (83, .i 500), (84, .r 19 12), (85, .i 1), (86, .i 499), (87, .u (.b false)), (88, .u (.b false)), (89, .i 60), (90, .u (.b false)), (91, .u (.b false)), (92, .i v.e), (93, .i 0), (108, .u (.b true)), (109, .u (.b true)), (110, .r 10 0), (111, .r 0 0), (112, .i 1), (113, .i 0), (114, .u (.b false)), (115, .i 60), (116, .r 12 8), (117, .i 0), (118, .i 60)]
theorem pyZ0n41 (v : PyV) (H : PyZ v 0 false) : pyZ0ev (cL (cR (cR (cR pyZ0C12)))) (pyZ0T29 v) (pyZ0M24 v) [(.nrm, (pyZ0T39 v), (pyZ0M36 v))] := Ev.seqPA (t1 := pyZ0T31 v) (m1 := pyZ0M24 v) (Ev.regA (EvO.opA (t2 := pyZ0T30 v) (m1 := pyZ0M24 v) (v := .i 0) (k := 1) (t1 := (pyZ0T30 v)) (symI (a := IntKind.wrap .i64 ((BitVec.ofInt 64 v.e &&& BitVec.ofInt 64 3).toNat : Int)) (z := 0) (by kernel_rfl) H.he) EvO.opsA)) (Ev.blockP (e := .nrm) (by kernel_rfl) (by kernel_rfl) (Ev.seqPA (t1 := pyZ0T33 v) (m1 := pyZ0M24 v) (Ev.regA EvO.opsA) (Ev.condT (by kernel_rfl) (by kernel_rfl) (Ev.seqPA (t1 := pyZ0T37 v) (m1 := pyZ0M36 v) (Ev.seqPA (t1 := pyZ0T35 v) (m1 := pyZ0M36 v) (Ev.regA (EvO.callA (t2 := pyZ0T34 v) (m1 := pyZ0M24 v) (ix := [0, 1, 2, 3, 5, 7, 9, 13, 17, 15, 18, 8]) (k := 3) (t1 := (pyZ0T34 v)) (args := [.r 0 0, .i 1, .i 1, .i 3]) (a := []) (cc := []) (y89_run v) EvO.opsA)) Ev.codeA) (Ev.regA EvO.opsA)))))
def pyZ0T40 (v : PyV) : Fr := Fr.mk [.u (.i .u8 0), .u (.i .u8 v.r), .i v.e, .z, .z, .z, .u (.b false), .r 10 0, .u (.b true), .r 12 0, .i 1, .i 0, .i 499, .i 0, .i 60, .i 0, .r 19 0, .i 0, .i 499, .i 0, .i 60, .i 0, .z, .t [.a [.r 0 0, .r 3 0, .r 5 0, .r 7 0, .r 9 0], .u (.b true)], .t [.a [.r 0 0, .r 3 0, .r 5 0, .r 7 0, .r 9 0], .u (.b true)], .a [.r 0 0, .r 3 0, .r 5 0, .r 7 0, .r 9 0], .u (.b true), .u (.b true), .u (.b false), .a [.i 0, .i 1, .i 2, .i 0, .i 2, .i 0, .i 1, .i 2, .i 100, .i 50, .i 10, .i 20, .i 0, .w 11, .nl 2, .i 0, .i 0, .i 0, .i 0], .u (.i .u8 0), .i 0, .r 12 8, .u (.i .u8 v.r), .i v.r, .i 0, .r 12 9, .t [.i 1, .i 0], .r 10 0, .r 0 0, czy021, .t [.i 1, .i 0], .i 1, .i 0, .t [.i 499, .i 0], .r 10 1, .r 3 0, .t [.i 499, .i 0], .i 499, .i 0, .t [.i 60, .i 0], .r 10 1, .r 3 0, .t [.i 60, .i 0], .i 60, .i 0, .i 0, .u (.b false), .u (.b false), .i 0, .u (.b false), .u (.b false), .u (.b false), .i 0, .u (.b false), .u (.b false), .u (.b false), .r 10 0, .r 0 0, .i 1, .i 0, .u (.b false), .u (.b false), .t [czy010, .i 0], .r 10 0, .r 0 0, .i 1, .t [czy010, .i 0], czy010, .i 0, .i 499, .r 12 8, .i 0, .i 500, .r 19 12, .i 1, .i 499, .u (.b false), .u (.b false), .i 60, .u (.b false), .u (.b false), .i v.e, .i 0, .z, .z, .z, .z, .z, .z, .z, .z, .z, .z, .z, .z, .z, .z, .u (.b true), .u (.b true), .r 10 0, .r 0 0, .i 1, .i 0, .u (.b false), .i 60, .r 12 8, .i 0, .i 60, .z, .z, .z, .z, .z, .z, .z, .z, .z, .z, .z, .z, .z, .z, .z, .z, .z, .z, .t [.i 499, .i 0], .r 10 1, .r 3 0, .t [.i 499, .i 0], .i 499, .i 0, .t [.i 60, .i 0], .r 10 1, .r 3 0, .t [.i 60, .i 0], .i 60, .i 0] 27 176
def pyZ0T41 (v : PyV) : Fr := puF (pyZ0T40 v) [(149, .r 10 0), (150, .r 0 0), (151, .i 1)]
def y90M0 (v : PyV) : Mem := [.c [.i 4, .w 1, .i 2, .w 2, .i 3, .i 200, .i 1, .i 500, .r 3 0, .r 4 0, .r 5 0, .r 6 0, .w 7],
  czy011,
  czy024,
  .c [.w 8, .i 562],
  .c [.w 9, czy023],
  .c [.v 10 3 0 0 false, .m 11, .i 256, .i 3],
  .c [.w 12, .m 13],
  czy07,
  czy04,
  czy01,
  .w 136 3 [[.n 20, .n 2, .n 3]],
  .p .n 1 false [],
  .w 54 4 [[.n 1, .n 2, .n 1, .n 3]],
  .p (.a 2) 1 false [(.a [2, 1], [.n 0])]]
def y90T1 (v : PyV) : Fr := puF (y57T9 v) [(9, .r 15 0), (11, .r 16 0), (17, .t [czy017, .i 0]), (20, .t [czy017, .i 0]), (21, czy017), (35, czy017)]
def y90M2 (v : PyV) : Mem := paM (y90M0 v) [] [.w 106 2 [[.n 1, .n 5]],
  .c [.i 1, .i 1, .i 2, .i 0, .i 2, .i 0, .i 1, .i 2, .i 0, .i 0, .i 10, .i 20, .i 1, .w 14, .c 2 [], .i 3, .i 0, .i 1, .i 0],
  .c [.i 0, .i 0, .i 0, .i 0, .i 0, .i 0, .i 0, .i 0, .i 0, .i 0, .i 0, .i 0, .i 0, .nl 2, .nl 2, .i 0, .i 0, .i 0, .i 0]]
abbrev y90Mm (v : PyV) : Mem := (y90M0 v)
theorem y90_run (v : PyV) : PRun Tryz.prog 13 (y90M0 v) [.r 0 0, .i 30, .i 1, .i 4] fun x m => x = .i 9 ∧ m = (y90Mm v) := Ev.runA (speWhole whp) Tryz.func13 (c := (bodyOf Tryz.f13)) (r := (.ret, (y90T1 v), (y90M2 v))) Ev.codeA
def pyZ0T42 (v : PyV) : Fr := puF (pyZ0T41 v) [(22, .i 9), (152, .i 9)]
def pyZ0T43 (v : PyV) : Fr := puF (pyZ0T42 v) [(153, .i 499), (154, .i 499)]
def pyZ0T44 (v : PyV) : Fr := puF (pyZ0T43 v) [(155, .u (.b true)), (156, .u (.b true)), (157, .i 60), (158, .i 60)]
def pyZ0T45 (v : PyV) : Fr := puF (pyZ0T44 v) [(159, .u (.b true)), (160, .u (.b true)), (161, .u (.b true)), (162, .i 0), (163, .u (.b true)), (164, .u (.b true)), (165, .u (.b true)), (166, .i 0), (167, .u (.b true)), (168, .u (.b true)), (169, .u (.b true)), (170, .i 9), (171, .u (.b true)), (172, .u (.b true)), (173, .u (.b true))]
def pyZ0T46 (v : PyV) : Fr := puF (pyZ0T45 v) [(6, .u (.b true)), (174, .u (.b true)), (175, .u (.b true))]
def pyZ0T47 (v : PyV) : Fr := puF (pyZ0T45 v) [(6, .u (.b true)), (174, .u (.b true)), (175, .u (.b true))]
theorem pyZ0n59 (v : PyV) (H : PyZ v 0 false) : pyZ0ev pyZ0C5 (pyZ0T5 v) (pyZ0M6 v) [(.ret, (pyZ0T47 v), (pyZ0M36 v))] := Ev.seqPA (pyZ0n5 v H) (Ev.seqPA (pyZ0n9 v H) (Ev.seqPA (pyZ0n12 v H) (Ev.piecesA (k := 2) (t1 := pyZ0T17 v) (m1 := pyZ0M16 v) (Ev.seqPA (pyZ0n17 v H) (Ev.seqPA (t1 := pyZ0T23 v) (m1 := pyZ0M24 v) (Ev.regA (EvO.callA (t2 := pyZ0T22 v) (m1 := pyZ0M20 v) (ix := [0, 1, 2, 3, 5, 7, 9, 13, 17, 15, 18, 8]) (k := 3) (t1 := (pyZ0T22 v)) (args := [.r 0 0, .i 1]) (a := []) (cc := []) (y88_run v) EvO.opsA)) (Ev.seqPA (t1 := pyZ0T29 v) (m1 := pyZ0M24 v) (Ev.seqPA (t1 := pyZ0T28 v) (m1 := pyZ0M24 v) (Ev.regA EvO.opsA) Ev.codeA) (Ev.seqPA (pyZ0n41 v H) (Ev.piecesA (k := 2) (t1 := pyZ0T40 v) (m1 := pyZ0M36 v) (Ev.seqPA (t1 := pyZ0T42 v) (m1 := pyZ0M36 v) (Ev.regA (EvO.callA (t2 := pyZ0T41 v) (m1 := pyZ0M36 v) (ix := [0, 1, 2, 3, 5, 7, 9, 13, 17, 20, 18, 8, 21, 22]) (k := 3) (t1 := (pyZ0T41 v)) (args := [.r 0 0, .i 30, .i 1, .i 4]) (a := []) (cc := []) (y90_run v) EvO.opsA)) (Ev.seqPA (t1 := pyZ0T46 v) (m1 := pyZ0M36 v) (Ev.regA (EvO.callA (t2 := pyZ0T45 v) (m1 := pyZ0M36 v) (ix := []) (k := 21) (t1 := (pyZ0T45 v)) (args := []) (a := []) (cc := []) aw15_run EvO.opsA)) Ev.codeA))))))))))
theorem py_Z0 (v : PyV) (H : PyZ v 0 false) : PRun Tryz.prog 3 [] [.u (.i .u8 0), .u (.i .u8 v.r), .i v.e] fun x m => x = .u (.b true) ∧ m = [] := Ev.runA eK1 Tryz.func3 (c := pyZ0C1) (r := (.ret, (pyZ0T47 v), (pyZ0M36 v))) (Ev.piecesA (k := 1) (t1 := pyZ0T1 v) (m1 := pyZ0M0 v) (Ev.seqPA (t1 := pyZ0T3 v) (m1 := pyZ0M4 v) (Ev.regA (EvO.callA (t2 := pyZ0T1 v) (m1 := pyZ0M0 v) (ix := []) (k := 0) (t1 := (pyZ0T1 v)) (args := [.i 0]) (a := []) (cc := []) (y1_run v) EvO.opsA)) (Ev.piecesA (k := 2) (pyZ0n59 v H))))
noncomputable abbrev pyZ1ev := Ev Tryz.prog eK1 (List.range 600) 300 60 3
def pyZ1M0 (v : PyV) : Mem := []
noncomputable abbrev pyZ1C1 : Code := bodyOf Tryz.f3
def pyZ1M4 (v : PyV) : Mem := [.c [.i 4, .w 1, .i 2, .w 2, .i 3, .i 200, .i 1, .i 500, .r 3 0, .r 5 0, .r 7 0, .r 9 0, .nl 19],
  czy011,
  czy024,
  .c [.w 4, .i 562],
  czy012,
  .c [.w 6, czy023],
  czy02,
  .c [.nl 3, .m 8, .i 256, .i 1],
  .p .n 1 false [],
  .c [.nl 4, .nm],
  .c [.r 0 0, .r 3 0, .r 5 0, .r 7 0, .r 9 0]]
def pyZ1M6 (v : PyV) : Mem := paM (pyZ1M4 v) [] [.w 106 2 [[.n 1, .n 5]],
  .c [.i 0, .i 1, .i 2, .i 0, .i 2, .i 0, .i 1, .i 2, .i 100, .i 50, .i 10, .i 20, .i 0, .w 11, .nl 2, .i 0, .i 0, .i 0, .i 0]]
noncomputable abbrev pyZ1C5 : Code := dropK 2 (cR (dropK 1 pyZ1C1))
def pyZ1M9 (v : PyV) : Mem := paM (pyZ1M6 v) [(12, .c [.i 0, .i 1, .i 2, .i 0, .i 2, .i 0, .i 1, .i 2, .i 0, .i 50, .i 10, .i 20, .i 0, .w 11, .nl 2, .i 0, .i 0, .i 0, .i 0])] []
theorem pyZ1n5 (v : PyV) (H : PyZ v 1 false) : pyZ1ev (cL pyZ1C5) (pyZ0T5 v) (pyZ1M6 v) [(.nrm, (pyZ0T8 v), (pyZ1M9 v))] := Ev.regA EvO.opsA
noncomputable abbrev pyZ1C7 : Code := cR pyZ1C5
def pyZ1T11 (v : PyV) : Fr := puF (pyZ0T10 v) [(34, .i v.r)]
def pyZ1T12 (v : PyV) : Fr := puF (pyZ0T14 v) [(38, .z), (39, .z), (40, .z)]
def pyZ1M13 (v : PyV) : Mem := paM (pyZ1M6 v) [(12, .c [.i 0, .i 1, .i 2, .i 0, .i 2, .i 0, .i 1, .i 2, .i 0, .i 0, .i 10, .i 20, .i 0, .w 11, .nl 2, .i 0, .i 0, .i 0, .i 0])] []
theorem pyZ1n9 (v : PyV) (H : PyZ v 1 false) : pyZ1ev (cL pyZ1C7) (pyZ0T8 v) (pyZ1M9 v) [(.nrm, (pyZ1T12 v), (pyZ1M13 v))] := Ev.regA (EvO.opA (t2 := pyZ0T10 v) (m1 := pyZ1M9 v) (v := .i v.r) (k := 1) (t1 := (pyZ0T10 v)) (symI (a := IntKind.wrap .i64 v.r) (z := v.r) (by kernel_rfl) (sCv (by have := H.b; omega))) (EvO.opA (t2 := pyZ1T11 v) (m1 := pyZ1M9 v) (v := .i 0) (k := 0) (t1 := (pyZ1T11 v)) (symI (a := Int.tmod v.r 50) (z := 0) (by kernel_rfl) H.hr) EvO.opsA))
noncomputable abbrev pyZ1C9 : Code := cR pyZ1C7
def pyZ1M16 (v : PyV) : Mem := [.c [.i 4, .w 1, .i 2, .w 2, .i 3, .i 200, .i 1, .i 500, .r 3 0, .r 5 0, .r 7 0, .r 9 0, .w 13],
  czy011,
  czy024,
  .c [.w 14, .i 562],
  czy012,
  .c [.w 15, czy023],
  czy02,
  .c [.w 16, .m 8, .i 256, .i 2],
  .p .n 1 false [(.n 1, [.n 0])],
  .c [.nl 4, .nm],
  .c [.r 0 0, .r 3 0, .r 5 0, .r 7 0, .r 9 0],
  .w 106 2 [[.n 1, .n 5]],
  .c [.i 0, .i 1, .i 2, .i 0, .i 2, .i 0, .i 1, .i 2, .i 0, .i 0, .i 10, .i 20, .i 0, .w 11, .nl 2, .i 0, .i 0, .i 0, .i 0],
  czy05,
  czy04,
  czy00,
  .w 136 3 [[.n 10, .n 1, .n 3]]]
theorem pyZ1n12 (v : PyV) (H : PyZ v 1 false) : pyZ1ev (cL pyZ1C9) (pyZ1T12 v) (pyZ1M13 v) [(.nrm, (pyZ0T15 v), (pyZ1M16 v))] := Ev.regA (EvO.callA (t2 := pyZ0T14 v) (m1 := pyZ1M13 v) (ix := [0, 11, 1, 2, 3, 5, 7, 9, 4, 6, 8]) (k := 3) (t1 := (pyZ0T14 v)) (args := [.r 0 0, .i 0, czy021]) (a := []) (cc := []) (y86_run v) EvO.opsA)
noncomputable abbrev pyZ1C12 : Code := dropK 2 (cR pyZ1C9)
def pyZ1T18 (v : PyV) : Fr := puF (pyZ0T19 v) [(70, .z), (71, .z), (72, .z)]
def pyZ1M20 (v : PyV) : Mem := paM (pyZ1M16 v) [(3, .c [.w 17, .i 562]), (7, .c [.w 18, .m 8, .i 256, .i 3]), (8, .p .n 1 false [(.n 2, [.n 0])]), (13, czy06), (16, .x)] [czy04,
  .w 136 3 [[.n 20, .n 2, .n 3]]]
theorem pyZ1n17 (v : PyV) (H : PyZ v 1 false) : pyZ1ev (cL pyZ1C12) (pyZ0T17 v) (pyZ1M16 v) [(.nrm, (pyZ0T19 v), (pyZ1M20 v))] := Ev.seqPA (t1 := pyZ0T19 v) (m1 := pyZ1M20 v) (Ev.regA (EvO.callA (t2 := pyZ1T18 v) (m1 := pyZ1M16 v) (ix := [0, 1, 2, 3, 5, 7, 9, 13, 14, 15, 16, 8]) (k := 14) (t1 := (pyZ1T18 v)) (args := [.r 0 0, .i 0, .i 1, .i 1, .i 0]) (a := []) (cc := []) (y87_run v) EvO.opsA)) Ev.codeA
def pyZ1M24 (v : PyV) : Mem := paM (pyZ1M20 v) [] [.c [.i 1, .i 1, .i 2, .i 0, .i 2, .i 0, .i 1, .i 2, .i 0, .i 0, .i 10, .i 20, .i 1, .u (.l 2 [[.n 1, .n 5]]), .c 2 [], .i 2, .i 20, .i 1, .i 0]]
def pyZ1T28 (v : PyV) : Fr := puF (pyZ0T23 v) [(80, .i 499), (81, .r 12 8), (82, .i 0), (83, .i 500), (84, .r 19 12), (85, .i 1), (86, .i 499), (87, .u (.b false)), (88, .u (.b false)), (89, .i 60), (90, .u (.b false)), (91, .u (.b false))]
def pyZ1T29 (v : PyV) : Fr := puF (pyZ0T23 v) [(80, .i 499), (81, .r 12 8), (82, .i 0), (83, .i 500), (84, .r 19 12), (85, .i 1), (86, .i 499), (87, .u (.b false)), (88, .u (.b false)), (89, .i 60), (90, .u (.b false)), (91, .u (.b false))]
def pyZ1T30 (v : PyV) : Fr := puF (pyZ0T23 v) [(80, .i 499), (81, .r 12 8), (82, .i 0), (83, .i 500), (84, .r 19 12), (85, .i 1), (86, .i 499), (87, .u (.b false)), (88, .u (.b false)), (89, .i 60), (90, .u (.b false)), (91, .u (.b false)), (92, .i v.e)]
def pyZ1T31 (v : PyV) : Fr := puF (pyZ0T23 v) [(80, .i 499), (81, .r 12 8), (82, .i 0), (83, .i 500), (84, .r 19 12), (85, .i 1), (86, .i 499), (87, .u (.b false)), (88, .u (.b false)), (89, .i 60), (90, .u (.b false)), (91, .u (.b false)), (92, .i v.e), (93, .i 1)]
def pyZ1T33 (v : PyV) : Fr := puF (pyZ0T23 v) [(80, .i 499), (81, .r 12 8), (82, .i 0), (83, .i 500), (84, .r 19 12), (85, .i 1), (86, .i 499), (87, .u (.b false)), (88, .u (.b false)), (89, .i 60), (90, .u (.b false)), (91, .u (.b false)), (92, .i v.e), (93, .i 1), (108, .u (.b false)), (109, .u (.b false))]
def pyZ1T35 (v : PyV) : Fr := puF (pyZ0T23 v) [(80, .i 499), (81, .r 12 8), (82, .i 0), (83, .i 500), (84, .r 19 12), (85, .i 1), (86, .i 499), (87, .u (.b false)), (88, .u (.b false)), (89, .i 60), (90, .u (.b false)), (91, .u (.b false)), (92, .i v.e), (93, .i 1), (108, .u (.b false)), (109, .u (.b false)), (119, .u (.b true)), (120, .u (.b true))]
def pyZ1T36 (v : PyV) : Fr := puF (pyZ0T23 v) [(80, .i 499), (81, .r 12 8), (82, .i 0), (83, .i 500), (84, .r 19 12), (85, .i 1), (86, .i 499), (87, .u (.b false)), (88, .u (.b false)), (89, .i 60), (90, .u (.b false)), (91, .u (.b false)), (92, .i v.e), (93, .i 1), (108, .u (.b false)), (109, .u (.b false)), (119, .u (.b true)), (120, .u (.b true)), (121, .r 10 0), (122, .r 0 0), (123, .i 1)]
def y91M0 (v : PyV) : Mem := [.c [.i 4, .w 1, .i 2, .w 2, .i 3, .i 200, .i 1, .i 500, .r 3 0, .r 4 0, .r 5 0, .r 6 0, .w 7],
  czy011,
  czy024,
  .c [.w 8, .i 562],
  .c [.w 9, czy023],
  .c [.w 10, .m 11, .i 256, .i 3],
  .c [.nl 4, .nm],
  czy06,
  czy04,
  czy00,
  .w 136 3 [[.n 20, .n 2, .n 3]],
  .p .n 1 false [(.n 2, [.n 0])]]
def y91T1 (v : PyV) : Fr := Fr.mk [.r 0 0, .i 1, .i 1, .i 4, .z, .z, .z, .z, .i 0, .r 13 0, .i 0, .r 14 0, .r 16 0, .w 18, .i 0, .z, .r 19 0, .t [czy015, .i 0], .r 0 0, .i 1, .t [czy015, .i 0], czy015, .i 0, .u (.b false), .i 0, .u (.b false), .z, .u (.b false), .i 1, .u (.b false), .u (.b false), .i 1, .u (.b false), .u (.b false), .t [czy018, .i 0], czy015, .i 4, .t [czy018, .i 0], czy018, .i 0, .i 0, .u (.b false), .z, .r 13 2, .i 2, .r 13 3, .i 0, .r 13 6, .i 1, .a [.i 2, .i 0, .i 1, .i 1], .i 4, .u (.b false), .u (.b false), .z, .z, .z, .u (.b true), .u (.b true), .r 13 17, .i 1, .r 13 18, .i 0, .r 13 6, .i 1, .a [.i 1, .i 0, .i 1, .i 1], .t [.w 18, .i 0], .r 0 0, .r 0 0, .r 0 9, .r 4 0, .i 1, .r 13 6, .i 1, .t [.w 18, .i 0], .w 18, .i 0, .w 18, .i 1, .i 1, .u (.b false), .e 18 2 0 0, .a [.i 1, .i 5], .r 19 0, .i 1, .r 16 3, .r 0 0, .r 0 0, .r 0 9, .r 4 0, .a [.i 1, .i 0, .i 1, .i 1], .r 19 1, .i 5, .i 0, .i 1, .r 0 0, czy015, .i 4, .i 1, .a [.i 1, .i 1, .i 2, .i 0, .i 2, .i 0, .i 1, .i 2, .i 0, .i 0, .i 10, .i 20, .i 1, .w 12, .c 2 [], .i 2, .i 20, .i 1, .i 0, .i 4, .i 1, .i 0], czy018, .t []] 0 101
def y91M2 (v : PyV) : Mem := [.c [.i 4, .w 1, .i 2, .w 2, .i 3, .i 200, .i 1, .i 500, .r 3 0, .r 4 0, .r 5 0, .r 6 0, .w 7],
  czy011,
  czy024,
  .c [.w 8, .i 562],
  .c [.w 20, czy023],
  .c [.v 10 3 0 0 false, .m 11, .i 256, .i 3],
  .c [.w 21, .m 22],
  czy08,
  czy04,
  czy00,
  .w 136 3 [[.n 20, .n 2, .n 3]],
  .p .n 1 false [],
  .x,
  .c [.i 1, .i 1, .i 2, .i 0, .i 2, .i 0, .i 1, .i 2, .i 0, .i 0, .i 10, .i 20, .i 1, .w 12, .c 2 [], .i 2, .i 20, .i 1, .i 0],
  .c [.i 1, .i 1, .i 2, .i 0, .i 2, .i 0, .i 1, .i 2, .i 0, .i 0, .i 10, .i 20, .i 1, .w 12, .c 2 [], .i 4, .i 0, .i 1, .i 0],
  .c [.i 2, .i 0, .i 1, .i 1],
  .c [.i 1, .i 0, .i 1, .i 1],
  .c [.i 1, .i 0, .i 1, .i 1],
  .w 106 2 [[.n 1, .n 5]],
  .c [.i 1, .i 5],
  czy03,
  .w 54 4 [[.n 1, .n 2, .n 1, .n 4]],
  .p (.a 2) 1 false [(.a [2, 1], [.n 0])]]
def y91M3 (v : PyV) : Mem := paM (y91M0 v) [(4, .c [.w 12, czy023]), (5, .c [.v 10 3 0 0 false, .m 11, .i 256, .i 3]), (6, .c [.w 13, .m 14]), (7, czy08), (11, .p .n 1 false [])] [czy03,
  .w 54 4 [[.n 1, .n 2, .n 1, .n 4]],
  .p (.a 2) 1 false [(.a [2, 1], [.n 0])]]
abbrev y91Mm (v : PyV) : Mem := (y91M3 v)
theorem y91_run (v : PyV) : PRun Tryz.prog 13 (y91M0 v) [.r 0 0, .i 1, .i 1, .i 4] fun x m => x = .i 0 ∧ m = (y91Mm v) := Ev.runA (speWhole whp) Tryz.func13 (c := (bodyOf Tryz.f13)) (r := (.ret, (y91T1 v), (y91M2 v))) Ev.codeA
def pyZ1T37 (v : PyV) : Fr := puF (pyZ0T23 v) [(80, .i 499), (81, .r 12 8), (82, .i 0), (83, .i 500), (84, .r 19 12), (85, .i 1), (86, .i 499), (87, .u (.b false)), (88, .u (.b false)), (89, .i 60), (90, .u (.b false)), (91, .u (.b false)), (92, .i v.e), (93, .i 1), (108, .u (.b false)), (109, .u (.b false)), (119, .u (.b true)), (120, .u (.b true)), (121, .r 10 0), (122, .r 0 0), (123, .i 1), (124, .i 0), (125, .u (.b false))]
def pyZ1M38 (v : PyV) : Mem := paM (pyZ1M24 v) [(5, .c [.w 20, czy023]), (7, .c [.v 18 3 0 0 false, .m 8, .i 256, .i 3]), (8, .p .n 1 false []), (9, .c [.w 21, .m 22]), (13, czy08)] [czy03,
  .w 54 4 [[.n 1, .n 2, .n 1, .n 4]],
  .p (.a 2) 1 false [(.a [2, 1], [.n 0])]]
def pyZ1T39 (v : PyV) : Fr := puF (pyZ0T23 v) [(80, .i 499), (81, .r 12 8), (82, .i 0), (83, .i 500), (84, .r 19 12), (85, .i 1), (86, .i 499), (87, .u (.b false)), (88, .u (.b false)), (89, .i 60), (90, .u (.b false)), (91, .u (.b false)), (92, .i v.e), (93, .i 1), (108, .u (.b false)), (109, .u (.b false)), (119, .u (.b true)), (120, .u (.b true)), (121, .r 10 0), (122, .r 0 0), (123, .i 1), (124, .i 0), (125, .u (.b false))]
def pyZ1T42 (v : PyV) : Fr := puF (pyZ0T23 v) [(80, .i 499), (81, .r 12 8), (82, .i 0), (83, .i 500), (84, .r 19 12), (85, .i 1), (86, .i 499), (87, .u (.b false)), (88, .u (.b false)), (89, .i 60), (90, .u (.b false)), (91, .u (.b false)), (92, .i v.e), (93, .i 1), (108, .u (.b false)), (109, .u (.b false)), (119, .u (.b true)), (120, .u (.b true)), (121, .r 10 0), (122, .r 0 0), (123, .i 1), (124, .i 0), (125, .u (.b false)), (126, .i 499), (127, .r 12 8), (128, .i 0), (129, .i 499), (130, .r 12 9), (131, .i 0), (132, .i 499)]
def pyZ1T44 (v : PyV) : Fr := puF (pyZ0T23 v) [(80, .i 499), (81, .r 12 8), (82, .i 0), (83, .i 500), (84, .r 19 12), (85, .i 1), (86, .i 499), (87, .u (.b false)), (88, .u (.b false)), (89, .i 60), (90, .u (.b false)), (91, .u (.b false)), (92, .i v.e), (93, .i 1), (108, .u (.b false)), (109, .u (.b false)), (119, .u (.b true)), (120, .u (.b true)), (121, .r 10 0), (122, .r 0 0), (123, .i 1), (124, .i 0), (125, .u (.b false)), (126, .i 499), (127, .r 12 8), (128, .i 0), (129, .i 499), (130, .r 12 9), (131, .i 0), (132, .i 499), (133, .i 60), (134, .r 12 9), (135, .i 0), (136, .i 60)]
theorem pyZ1n48 (v : PyV) (H : PyZ v 1 false) : pyZ1ev (cL (cR (cR (cR pyZ1C12)))) (pyZ1T29 v) (pyZ1M24 v) [(.nrm, (pyZ1T44 v), (pyZ1M38 v))] := Ev.seqPA (t1 := pyZ1T31 v) (m1 := pyZ1M24 v) (Ev.regA (EvO.opA (t2 := pyZ1T30 v) (m1 := pyZ1M24 v) (v := .i 1) (k := 1) (t1 := (pyZ1T30 v)) (symI (a := IntKind.wrap .i64 ((BitVec.ofInt 64 v.e &&& BitVec.ofInt 64 3).toNat : Int)) (z := 1) (by kernel_rfl) H.he) EvO.opsA)) (Ev.blockP (e := .nrm) (by kernel_rfl) (by kernel_rfl) (Ev.seqPA (t1 := pyZ1T33 v) (m1 := pyZ1M24 v) (Ev.regA EvO.opsA) (Ev.condF (by kernel_rfl) (by kernel_rfl) (Ev.seqPA (t1 := pyZ1T35 v) (m1 := pyZ1M24 v) (Ev.regA EvO.opsA) (Ev.condT (by kernel_rfl) (by kernel_rfl) (Ev.seqPA (t1 := pyZ1T39 v) (m1 := pyZ1M38 v) (Ev.seqPA (t1 := pyZ1T37 v) (m1 := pyZ1M38 v) (Ev.regA (EvO.callA (t2 := pyZ1T36 v) (m1 := pyZ1M24 v) (ix := [0, 1, 2, 3, 5, 7, 9, 13, 17, 15, 18, 8]) (k := 3) (t1 := (pyZ1T36 v)) (args := [.r 0 0, .i 1, .i 1, .i 4]) (a := []) (cc := []) (y91_run v) EvO.opsA)) Ev.codeA) (Ev.seqPA (t1 := pyZ1T42 v) (m1 := pyZ1M38 v) (Ev.regA EvO.opsA) (Ev.regA EvO.opsA))))))))
def pyZ1T45 (v : PyV) : Fr := puF (pyZ0T40 v) [(93, .i 1), (108, .u (.b false)), (109, .u (.b false)), (110, .z), (111, .z), (112, .z), (113, .z), (114, .z), (115, .z), (116, .z), (117, .z), (118, .z), (119, .u (.b true)), (120, .u (.b true)), (121, .r 10 0), (122, .r 0 0), (123, .i 1), (124, .i 0), (125, .u (.b false)), (126, .i 499), (127, .r 12 8), (128, .i 0), (129, .i 499), (130, .r 12 9), (131, .i 0), (132, .i 499), (133, .i 60), (134, .r 12 9), (135, .i 0), (136, .i 60)]
def pyZ1T46 (v : PyV) : Fr := puF (pyZ1T45 v) [(149, .r 10 0), (150, .r 0 0), (151, .i 1)]
def y92M0 (v : PyV) : Mem := [.c [.i 4, .w 1, .i 2, .w 2, .i 3, .i 200, .i 1, .i 500, .r 3 0, .r 4 0, .r 5 0, .r 6 0, .w 7],
  czy011,
  czy024,
  .c [.w 8, .i 562],
  .c [.w 9, czy023],
  .c [.v 10 3 0 0 false, .m 11, .i 256, .i 3],
  .c [.w 12, .m 13],
  czy08,
  czy04,
  czy03,
  .w 136 3 [[.n 20, .n 2, .n 3]],
  .p .n 1 false [],
  .w 54 4 [[.n 1, .n 2, .n 1, .n 4]],
  .p (.a 2) 1 false [(.a [2, 1], [.n 0])]]
def y92T1 (v : PyV) : Fr := puF (y90T1 v) [(17, .t [czy019, .i 0]), (20, .t [czy019, .i 0]), (21, czy019), (35, czy019)]
def y92M2 (v : PyV) : Mem := paM (y92M0 v) [] [.w 106 2 [[.n 1, .n 5]],
  .c [.i 1, .i 1, .i 2, .i 0, .i 2, .i 0, .i 1, .i 2, .i 0, .i 0, .i 10, .i 20, .i 1, .w 14, .c 2 [], .i 4, .i 0, .i 1, .i 0],
  .c [.i 0, .i 0, .i 0, .i 0, .i 0, .i 0, .i 0, .i 0, .i 0, .i 0, .i 0, .i 0, .i 0, .nl 2, .nl 2, .i 0, .i 0, .i 0, .i 0]]
abbrev y92Mm (v : PyV) : Mem := (y92M0 v)
theorem y92_run (v : PyV) : PRun Tryz.prog 13 (y92M0 v) [.r 0 0, .i 30, .i 1, .i 4] fun x m => x = .i 9 ∧ m = (y92Mm v) := Ev.runA (speWhole whp) Tryz.func13 (c := (bodyOf Tryz.f13)) (r := (.ret, (y92T1 v), (y92M2 v))) Ev.codeA
def pyZ1T47 (v : PyV) : Fr := puF (pyZ1T46 v) [(22, .i 9), (152, .i 9)]
def pyZ1T48 (v : PyV) : Fr := puF (pyZ1T47 v) [(153, .i 499), (154, .i 499)]
def pyZ1T49 (v : PyV) : Fr := puF (pyZ1T48 v) [(155, .u (.b true)), (156, .u (.b true)), (157, .i 60), (158, .i 60)]
def pyZ1T50 (v : PyV) : Fr := puF (pyZ1T49 v) [(159, .u (.b true)), (160, .u (.b true)), (161, .u (.b true)), (162, .i 0), (163, .u (.b true)), (164, .u (.b true)), (165, .u (.b true)), (166, .i 0), (167, .u (.b true)), (168, .u (.b true)), (169, .u (.b true)), (170, .i 9), (171, .u (.b true)), (172, .u (.b true)), (173, .u (.b true))]
def pyZ1T51 (v : PyV) : Fr := puF (pyZ1T49 v) [(6, .u (.b true)), (159, .u (.b true)), (160, .u (.b true)), (161, .u (.b true)), (162, .i 0), (163, .u (.b true)), (164, .u (.b true)), (165, .u (.b true)), (166, .i 0), (167, .u (.b true)), (168, .u (.b true)), (169, .u (.b true)), (170, .i 9), (171, .u (.b true)), (172, .u (.b true)), (173, .u (.b true)), (174, .u (.b true)), (175, .u (.b true))]
def pyZ1T52 (v : PyV) : Fr := puF (pyZ1T49 v) [(6, .u (.b true)), (159, .u (.b true)), (160, .u (.b true)), (161, .u (.b true)), (162, .i 0), (163, .u (.b true)), (164, .u (.b true)), (165, .u (.b true)), (166, .i 0), (167, .u (.b true)), (168, .u (.b true)), (169, .u (.b true)), (170, .i 9), (171, .u (.b true)), (172, .u (.b true)), (173, .u (.b true)), (174, .u (.b true)), (175, .u (.b true))]
theorem pyZ1n66 (v : PyV) (H : PyZ v 1 false) : pyZ1ev pyZ1C5 (pyZ0T5 v) (pyZ1M6 v) [(.ret, (pyZ1T52 v), (pyZ1M38 v))] := Ev.seqPA (pyZ1n5 v H) (Ev.seqPA (pyZ1n9 v H) (Ev.seqPA (pyZ1n12 v H) (Ev.piecesA (k := 2) (t1 := pyZ0T17 v) (m1 := pyZ1M16 v) (Ev.seqPA (pyZ1n17 v H) (Ev.seqPA (t1 := pyZ0T23 v) (m1 := pyZ1M24 v) (Ev.regA (EvO.callA (t2 := pyZ0T22 v) (m1 := pyZ1M20 v) (ix := [0, 1, 2, 3, 5, 7, 9, 13, 17, 15, 18, 8]) (k := 3) (t1 := (pyZ0T22 v)) (args := [.r 0 0, .i 1]) (a := []) (cc := []) (y88_run v) EvO.opsA)) (Ev.seqPA (t1 := pyZ1T29 v) (m1 := pyZ1M24 v) (Ev.seqPA (t1 := pyZ1T28 v) (m1 := pyZ1M24 v) (Ev.regA EvO.opsA) Ev.codeA) (Ev.seqPA (pyZ1n48 v H) (Ev.piecesA (k := 2) (t1 := pyZ1T45 v) (m1 := pyZ1M38 v) (Ev.seqPA (t1 := pyZ1T47 v) (m1 := pyZ1M38 v) (Ev.regA (EvO.callA (t2 := pyZ1T46 v) (m1 := pyZ1M38 v) (ix := [0, 1, 2, 3, 5, 7, 9, 13, 17, 20, 18, 8, 21, 22]) (k := 3) (t1 := (pyZ1T46 v)) (args := [.r 0 0, .i 30, .i 1, .i 4]) (a := []) (cc := []) (y92_run v) EvO.opsA)) (Ev.seqPA (t1 := pyZ1T51 v) (m1 := pyZ1M38 v) (Ev.regA (EvO.callA (t2 := pyZ1T50 v) (m1 := pyZ1M38 v) (ix := []) (k := 21) (t1 := (pyZ1T50 v)) (args := []) (a := []) (cc := []) aw15_run EvO.opsA)) Ev.codeA))))))))))
theorem py_Z1 (v : PyV) (H : PyZ v 1 false) : PRun Tryz.prog 3 [] [.u (.i .u8 0), .u (.i .u8 v.r), .i v.e] fun x m => x = .u (.b true) ∧ m = [] := Ev.runA eK1 Tryz.func3 (c := pyZ1C1) (r := (.ret, (pyZ1T52 v), (pyZ1M38 v))) (Ev.piecesA (k := 1) (t1 := pyZ0T1 v) (m1 := pyZ1M0 v) (Ev.seqPA (t1 := pyZ0T3 v) (m1 := pyZ1M4 v) (Ev.regA (EvO.callA (t2 := pyZ0T1 v) (m1 := pyZ1M0 v) (ix := []) (k := 0) (t1 := (pyZ0T1 v)) (args := [.i 0]) (a := []) (cc := []) (y1_run v) EvO.opsA)) (Ev.piecesA (k := 2) (pyZ1n66 v H))))
noncomputable abbrev pyZ2ev := Ev Tryz.prog eK1 (List.range 600) 300 60 3
def pyZ2M0 (v : PyV) : Mem := []
noncomputable abbrev pyZ2C1 : Code := bodyOf Tryz.f3
def pyZ2M4 (v : PyV) : Mem := [.c [.i 4, .w 1, .i 2, .w 2, .i 3, .i 200, .i 1, .i 500, .r 3 0, .r 5 0, .r 7 0, .r 9 0, .nl 19],
  czy011,
  czy024,
  .c [.w 4, .i 562],
  czy012,
  .c [.w 6, czy023],
  czy02,
  .c [.nl 3, .m 8, .i 256, .i 1],
  .p .n 1 false [],
  .c [.nl 4, .nm],
  .c [.r 0 0, .r 3 0, .r 5 0, .r 7 0, .r 9 0]]
def pyZ2M6 (v : PyV) : Mem := paM (pyZ2M4 v) [] [.w 106 2 [[.n 1, .n 5]],
  .c [.i 0, .i 1, .i 2, .i 0, .i 2, .i 0, .i 1, .i 2, .i 100, .i 50, .i 10, .i 20, .i 0, .w 11, .nl 2, .i 0, .i 0, .i 0, .i 0]]
noncomputable abbrev pyZ2C5 : Code := dropK 2 (cR (dropK 1 pyZ2C1))
def pyZ2M9 (v : PyV) : Mem := paM (pyZ2M6 v) [(12, .c [.i 0, .i 1, .i 2, .i 0, .i 2, .i 0, .i 1, .i 2, .i 0, .i 50, .i 10, .i 20, .i 0, .w 11, .nl 2, .i 0, .i 0, .i 0, .i 0])] []
theorem pyZ2n5 (v : PyV) (H : PyZ v v.w true) : pyZ2ev (cL pyZ2C5) (pyZ0T5 v) (pyZ2M6 v) [(.nrm, (pyZ0T8 v), (pyZ2M9 v))] := Ev.regA EvO.opsA
noncomputable abbrev pyZ2C7 : Code := cR pyZ2C5
def pyZ2T11 (v : PyV) : Fr := puF (pyZ0T10 v) [(34, .i v.r)]
def pyZ2M13 (v : PyV) : Mem := paM (pyZ2M6 v) [(12, .c [.i 0, .i 1, .i 2, .i 0, .i 2, .i 0, .i 1, .i 2, .i 0, .i 0, .i 10, .i 20, .i 0, .w 11, .nl 2, .i 0, .i 0, .i 0, .i 0])] []
theorem pyZ2n9 (v : PyV) (H : PyZ v v.w true) : pyZ2ev (cL pyZ2C7) (pyZ0T8 v) (pyZ2M9 v) [(.nrm, (pyZ1T12 v), (pyZ2M13 v))] := Ev.regA (EvO.opA (t2 := pyZ0T10 v) (m1 := pyZ2M9 v) (v := .i v.r) (k := 1) (t1 := (pyZ0T10 v)) (symI (a := IntKind.wrap .i64 v.r) (z := v.r) (by kernel_rfl) (sCv (by have := H.b; omega))) (EvO.opA (t2 := pyZ2T11 v) (m1 := pyZ2M9 v) (v := .i 0) (k := 0) (t1 := (pyZ2T11 v)) (symI (a := Int.tmod v.r 50) (z := 0) (by kernel_rfl) H.hr) EvO.opsA))
noncomputable abbrev pyZ2C9 : Code := cR pyZ2C7
def pyZ2M16 (v : PyV) : Mem := [.c [.i 4, .w 1, .i 2, .w 2, .i 3, .i 200, .i 1, .i 500, .r 3 0, .r 5 0, .r 7 0, .r 9 0, .w 13],
  czy011,
  czy024,
  .c [.w 14, .i 562],
  czy012,
  .c [.w 15, czy023],
  czy02,
  .c [.w 16, .m 8, .i 256, .i 2],
  .p .n 1 false [(.n 1, [.n 0])],
  .c [.nl 4, .nm],
  .c [.r 0 0, .r 3 0, .r 5 0, .r 7 0, .r 9 0],
  .w 106 2 [[.n 1, .n 5]],
  .c [.i 0, .i 1, .i 2, .i 0, .i 2, .i 0, .i 1, .i 2, .i 0, .i 0, .i 10, .i 20, .i 0, .w 11, .nl 2, .i 0, .i 0, .i 0, .i 0],
  czy05,
  czy04,
  czy00,
  .w 136 3 [[.n 10, .n 1, .n 3]]]
theorem pyZ2n12 (v : PyV) (H : PyZ v v.w true) : pyZ2ev (cL pyZ2C9) (pyZ1T12 v) (pyZ2M13 v) [(.nrm, (pyZ0T15 v), (pyZ2M16 v))] := Ev.regA (EvO.callA (t2 := pyZ0T14 v) (m1 := pyZ2M13 v) (ix := [0, 11, 1, 2, 3, 5, 7, 9, 4, 6, 8]) (k := 3) (t1 := (pyZ0T14 v)) (args := [.r 0 0, .i 0, czy021]) (a := []) (cc := []) (y86_run v) EvO.opsA)
noncomputable abbrev pyZ2C12 : Code := dropK 2 (cR pyZ2C9)
def pyZ2M20 (v : PyV) : Mem := paM (pyZ2M16 v) [(3, .c [.w 17, .i 562]), (7, .c [.w 18, .m 8, .i 256, .i 3]), (8, .p .n 1 false [(.n 2, [.n 0])]), (13, czy06), (16, .x)] [czy04,
  .w 136 3 [[.n 20, .n 2, .n 3]]]
theorem pyZ2n17 (v : PyV) (H : PyZ v v.w true) : pyZ2ev (cL pyZ2C12) (pyZ0T17 v) (pyZ2M16 v) [(.nrm, (pyZ0T19 v), (pyZ2M20 v))] := Ev.seqPA (t1 := pyZ0T19 v) (m1 := pyZ2M20 v) (Ev.regA (EvO.callA (t2 := pyZ1T18 v) (m1 := pyZ2M16 v) (ix := [0, 1, 2, 3, 5, 7, 9, 13, 14, 15, 16, 8]) (k := 14) (t1 := (pyZ1T18 v)) (args := [.r 0 0, .i 0, .i 1, .i 1, .i 0]) (a := []) (cc := []) (y87_run v) EvO.opsA)) Ev.codeA
def pyZ2M24 (v : PyV) : Mem := paM (pyZ2M20 v) [] [.c [.i 1, .i 1, .i 2, .i 0, .i 2, .i 0, .i 1, .i 2, .i 0, .i 0, .i 10, .i 20, .i 1, .u (.l 2 [[.n 1, .n 5]]), .c 2 [], .i 2, .i 20, .i 1, .i 0]]
def pyZ2T28 (v : PyV) : Fr := puF (pyZ0T23 v) [(80, .i 499), (81, .r 12 8), (82, .i 0), (83, .i 500), (84, .r 19 12), (85, .i 1), (86, .i 499), (87, .u (.b false)), (88, .u (.b false)), (89, .i 60), (90, .u (.b false)), (91, .u (.b false))]
def pyZ2T29 (v : PyV) : Fr := puF (pyZ0T23 v) [(80, .i 499), (81, .r 12 8), (82, .i 0), (83, .i 500), (84, .r 19 12), (85, .i 1), (86, .i 499), (87, .u (.b false)), (88, .u (.b false)), (89, .i 60), (90, .u (.b false)), (91, .u (.b false))]
def pyZ2T30 (v : PyV) : Fr := puF (pyZ0T23 v) [(80, .i 499), (81, .r 12 8), (82, .i 0), (83, .i 500), (84, .r 19 12), (85, .i 1), (86, .i 499), (87, .u (.b false)), (88, .u (.b false)), (89, .i 60), (90, .u (.b false)), (91, .u (.b false)), (92, .i v.e)]
def pyZ2T31 (v : PyV) : Fr := puF (pyZ0T23 v) [(80, .i 499), (81, .r 12 8), (82, .i 0), (83, .i 500), (84, .r 19 12), (85, .i 1), (86, .i 499), (87, .u (.b false)), (88, .u (.b false)), (89, .i 60), (90, .u (.b false)), (91, .u (.b false)), (92, .i v.e), (93, .i v.w)]
def pyZ2T32 (v : PyV) : Fr := puF (pyZ0T23 v) [(80, .i 499), (81, .r 12 8), (82, .i 0), (83, .i 500), (84, .r 19 12), (85, .i 1), (86, .i 499), (87, .u (.b false)), (88, .u (.b false)), (89, .i 60), (90, .u (.b false)), (91, .u (.b false)), (92, .i v.e), (93, .i v.w)]
def pyZ2T33 (v : PyV) : Fr := puF (pyZ0T23 v) [(80, .i 499), (81, .r 12 8), (82, .i 0), (83, .i 500), (84, .r 19 12), (85, .i 1), (86, .i 499), (87, .u (.b false)), (88, .u (.b false)), (89, .i 60), (90, .u (.b false)), (91, .u (.b false)), (92, .i v.e), (93, .i v.w), (108, .u (.b false)), (109, .u (.b false))]
def pyZ2T34 (v : PyV) : Fr := puF (pyZ0T23 v) [(80, .i 499), (81, .r 12 8), (82, .i 0), (83, .i 500), (84, .r 19 12), (85, .i 1), (86, .i 499), (87, .u (.b false)), (88, .u (.b false)), (89, .i 60), (90, .u (.b false)), (91, .u (.b false)), (92, .i v.e), (93, .i v.w), (108, .u (.b false)), (109, .u (.b false))]
def pyZ2T35 (v : PyV) : Fr := puF (pyZ0T23 v) [(80, .i 499), (81, .r 12 8), (82, .i 0), (83, .i 500), (84, .r 19 12), (85, .i 1), (86, .i 499), (87, .u (.b false)), (88, .u (.b false)), (89, .i 60), (90, .u (.b false)), (91, .u (.b false)), (92, .i v.e), (93, .i v.w), (108, .u (.b false)), (109, .u (.b false)), (119, .u (.b false)), (120, .u (.b false))]
def pyZ2T36 (v : PyV) : Fr := puF (pyZ0T23 v) [(80, .i 499), (81, .r 12 8), (82, .i 0), (83, .i 500), (84, .r 19 12), (85, .i 1), (86, .i 499), (87, .u (.b false)), (88, .u (.b false)), (89, .i 60), (90, .u (.b false)), (91, .u (.b false)), (92, .i v.e), (93, .i v.w), (94, .a [.r 0 0, .r 3 0, .r 5 0, .r 7 0, .r 9 0]), (95, czy09), (108, .u (.b false)), (109, .u (.b false)), (119, .u (.b false)), (120, .u (.b false))]
def y93M0 (v : PyV) : Mem := [.c [.i 4, .w 5, .i 2, .w 6, .i 3, .i 200, .i 1, .i 500, .r 1 0, .r 2 0, .r 3 0, .r 4 0, .w 7],
  .c [.w 8, .i 562],
  .c [.w 9, czy023],
  .c [.w 10, .m 11, .i 256, .i 3],
  .c [.nl 4, .nm],
  czy011,
  czy024,
  czy06,
  czy04,
  czy00,
  .w 136 3 [[.n 20, .n 2, .n 3]],
  .p .n 1 false [(.n 2, [.n 0])]]
def y93T1 (v : PyV) : Fr := puF (y78T18 v) [(6, .i 20), (13, .r 18 0), (71, .u (.b false)), (72, .u (.b true)), (81, .i 20)]
def y93M2 (v : PyV) : Mem := [.c [.i 4, .w 5, .i 2, .w 6, .i 3, .i 200, .i 1, .i 500, .r 1 0, .r 2 0, .r 3 0, .r 4 0, .w 7],
  .c [.w 8, .i 562],
  .c [.w 15, czy023],
  .c [.v 10 3 0 0 false, .m 11, .i 256, .i 3],
  .c [.w 16, .m 17],
  czy011,
  czy024,
  czy08,
  czy04,
  czy00,
  .w 136 3 [[.n 20, .n 2, .n 3]],
  .p .n 1 false [],
  .c [.r 0 0, .r 1 0, .r 2 0, .r 3 0, .r 4 0],
  .c [.i 0, .i 0, .i 20, .i 0, .i 0, .i 0, .i 0, .i 0, .i 0, .i 0, .i 0, .i 0, .i 0, .i 0, .i 0, .i 0, .i 0, .nl 2, .nl 2, .i 0, .i 0, .i 0, .i 0],
  .c [.i 20, .i 2, .i 3],
  czy03,
  .w 54 4 [[.n 20, .n 2, .n 1, .n 4]],
  .p (.a 2) 1 false [(.a [2, 1], [.n 0])],
  .c [.i 0, .i 0, .i 0]]
def y93M3 (v : PyV) : Mem := paM (y93M0 v) [(2, .c [.w 12, czy023]), (3, .c [.v 10 3 0 0 false, .m 11, .i 256, .i 3]), (4, .c [.w 13, .m 14]), (7, czy08), (11, .p .n 1 false [])] [czy03,
  .w 54 4 [[.n 20, .n 2, .n 1, .n 4]],
  .p (.a 2) 1 false [(.a [2, 1], [.n 0])]]
abbrev y93Mm (v : PyV) : Mem := (y93M3 v)
theorem y93_run (v : PyV) : PRun Tryz.prog 14 (y93M0 v) [.a [.r 0 0, .r 1 0, .r 2 0, .r 3 0, .r 4 0], .i 0, czy09] fun x m => x = .t [.i 20, .i 0, .i 0] ∧ m = (y93Mm v) := Ev.runA (speWhole whp) Tryz.func14 (c := (bodyOf Tryz.f14)) (r := (.ret, (y93T1 v), (y93M2 v))) Ev.codeA
def pyZ2T37 (v : PyV) : Fr := puF (pyZ0T23 v) [(80, .i 499), (81, .r 12 8), (82, .i 0), (83, .i 500), (84, .r 19 12), (85, .i 1), (86, .i 499), (87, .u (.b false)), (88, .u (.b false)), (89, .i 60), (90, .u (.b false)), (91, .u (.b false)), (92, .i v.e), (93, .i v.w), (94, .a [.r 0 0, .r 3 0, .r 5 0, .r 7 0, .r 9 0]), (95, czy09), (96, .t [.i 20, .i 0, .i 0]), (108, .u (.b false)), (109, .u (.b false)), (119, .u (.b false)), (120, .u (.b false))]
def pyZ2M38 (v : PyV) : Mem := paM (pyZ2M24 v) [(5, .c [.w 20, czy023]), (7, .c [.v 18 3 0 0 false, .m 8, .i 256, .i 3]), (8, .p .n 1 false []), (9, .c [.w 21, .m 22]), (13, czy08)] [czy03,
  .w 54 4 [[.n 20, .n 2, .n 1, .n 4]],
  .p (.a 2) 1 false [(.a [2, 1], [.n 0])]]
def pyZ2T41 (v : PyV) : Fr := puF (pyZ0T23 v) [(80, .i 499), (81, .r 12 8), (82, .i 0), (83, .i 500), (84, .r 19 12), (85, .i 1), (86, .i 499), (87, .u (.b false)), (88, .u (.b false)), (89, .i 60), (90, .u (.b false)), (91, .u (.b false)), (92, .i v.e), (93, .i v.w), (94, .a [.r 0 0, .r 3 0, .r 5 0, .r 7 0, .r 9 0]), (95, czy09), (96, .t [.i 20, .i 0, .i 0]), (97, .i 499), (98, .r 12 8), (99, .i 0), (100, .i 499), (101, .r 12 9), (102, .i 0), (103, .i 499), (108, .u (.b false)), (109, .u (.b false)), (119, .u (.b false)), (120, .u (.b false))]
def pyZ2T43 (v : PyV) : Fr := puF (pyZ0T23 v) [(80, .i 499), (81, .r 12 8), (82, .i 0), (83, .i 500), (84, .r 19 12), (85, .i 1), (86, .i 499), (87, .u (.b false)), (88, .u (.b false)), (89, .i 60), (90, .u (.b false)), (91, .u (.b false)), (92, .i v.e), (93, .i v.w), (94, .a [.r 0 0, .r 3 0, .r 5 0, .r 7 0, .r 9 0]), (95, czy09), (96, .t [.i 20, .i 0, .i 0]), (97, .i 499), (98, .r 12 8), (99, .i 0), (100, .i 499), (101, .r 12 9), (102, .i 0), (103, .i 499), (104, .i 60), (105, .r 12 9), (106, .i 0), (107, .i 60), (108, .u (.b false)), (109, .u (.b false)), (119, .u (.b false)), (120, .u (.b false))]
theorem pyZ2n48 (v : PyV) (H : PyZ v v.w true) : pyZ2ev (cL (cR (cR (cR pyZ2C12)))) (pyZ2T29 v) (pyZ2M24 v) [(.nrm, (pyZ2T43 v), (pyZ2M38 v))] := Ev.seqPA (t1 := pyZ2T31 v) (m1 := pyZ2M24 v) (Ev.regA (EvO.opA (t2 := pyZ2T30 v) (m1 := pyZ2M24 v) (v := .i v.w) (k := 1) (t1 := (pyZ2T30 v)) (symI (a := IntKind.wrap .i64 ((BitVec.ofInt 64 v.e &&& BitVec.ofInt 64 3).toNat : Int)) (z := v.w) (by kernel_rfl) H.he) EvO.opsA)) (Ev.blockP (e := .nrm) (by kernel_rfl) (by kernel_rfl) (Ev.seqPA (t1 := pyZ2T33 v) (m1 := pyZ2M24 v) (Ev.regA (EvO.opA (t2 := pyZ2T32 v) (m1 := pyZ2M24 v) (v := .u (.b false)) (k := 0) (t1 := (pyZ2T32 v)) (symE (b := eqF v.w 0) (by kernel_rfl) H.hw0) EvO.opsA)) (Ev.condF (by kernel_rfl) (by kernel_rfl) (Ev.seqPA (t1 := pyZ2T35 v) (m1 := pyZ2M24 v) (Ev.regA (EvO.opA (t2 := pyZ2T34 v) (m1 := pyZ2M24 v) (v := .u (.b false)) (k := 0) (t1 := (pyZ2T34 v)) (symE (b := eqF v.w 1) (by kernel_rfl) H.hw1) EvO.opsA)) (Ev.condF (by kernel_rfl) (by kernel_rfl) (Ev.seqPA (t1 := pyZ2T37 v) (m1 := pyZ2M38 v) (Ev.regA (EvO.callA (t2 := pyZ2T36 v) (m1 := pyZ2M24 v) (ix := [0, 3, 5, 7, 9, 1, 2, 13, 17, 15, 18, 8]) (k := 2) (t1 := (pyZ2T36 v)) (args := [.a [.r 0 0, .r 3 0, .r 5 0, .r 7 0, .r 9 0], .i 0, czy09]) (a := []) (cc := []) (y93_run v) EvO.opsA)) (Ev.seqPA (t1 := pyZ2T41 v) (m1 := pyZ2M38 v) (Ev.regA EvO.opsA) (Ev.regA EvO.opsA))))))))
def pyZ2T44 (v : PyV) : Fr := puF (pyZ0T40 v) [(93, .i v.w), (94, .a [.r 0 0, .r 3 0, .r 5 0, .r 7 0, .r 9 0]), (95, czy09), (96, .t [.i 20, .i 0, .i 0]), (97, .i 499), (98, .r 12 8), (99, .i 0), (100, .i 499), (101, .r 12 9), (102, .i 0), (103, .i 499), (104, .i 60), (105, .r 12 9), (106, .i 0), (107, .i 60), (108, .u (.b false)), (109, .u (.b false)), (110, .z), (111, .z), (112, .z), (113, .z), (114, .z), (115, .z), (116, .z), (117, .z), (118, .z), (119, .u (.b false)), (120, .u (.b false))]
def pyZ2T45 (v : PyV) : Fr := puF (pyZ2T44 v) [(149, .r 10 0), (150, .r 0 0), (151, .i 1)]
def y94M0 (v : PyV) : Mem := [.c [.i 4, .w 1, .i 2, .w 2, .i 3, .i 200, .i 1, .i 500, .r 3 0, .r 4 0, .r 5 0, .r 6 0, .w 7],
  czy011,
  czy024,
  .c [.w 8, .i 562],
  .c [.w 9, czy023],
  .c [.v 10 3 0 0 false, .m 11, .i 256, .i 3],
  .c [.w 12, .m 13],
  czy08,
  czy04,
  czy03,
  .w 136 3 [[.n 20, .n 2, .n 3]],
  .p .n 1 false [],
  .w 54 4 [[.n 20, .n 2, .n 1, .n 4]],
  .p (.a 2) 1 false [(.a [2, 1], [.n 0])]]
def y94T1 (v : PyV) : Fr := puF (y90T1 v) [(17, .t [czy019, .i 0]), (20, .t [czy019, .i 0]), (21, czy019), (35, czy019)]
def y94M2 (v : PyV) : Mem := paM (y94M0 v) [] [.w 106 2 [[.n 1, .n 5]],
  .c [.i 1, .i 1, .i 2, .i 0, .i 2, .i 0, .i 1, .i 2, .i 0, .i 0, .i 10, .i 20, .i 1, .w 14, .c 2 [], .i 4, .i 0, .i 1, .i 0],
  .c [.i 0, .i 0, .i 0, .i 0, .i 0, .i 0, .i 0, .i 0, .i 0, .i 0, .i 0, .i 0, .i 0, .nl 2, .nl 2, .i 0, .i 0, .i 0, .i 0]]
abbrev y94Mm (v : PyV) : Mem := (y94M0 v)
theorem y94_run (v : PyV) : PRun Tryz.prog 13 (y94M0 v) [.r 0 0, .i 30, .i 1, .i 4] fun x m => x = .i 9 ∧ m = (y94Mm v) := Ev.runA (speWhole whp) Tryz.func13 (c := (bodyOf Tryz.f13)) (r := (.ret, (y94T1 v), (y94M2 v))) Ev.codeA
def pyZ2T46 (v : PyV) : Fr := puF (pyZ2T45 v) [(22, .i 9), (152, .i 9)]
def pyZ2T47 (v : PyV) : Fr := puF (pyZ2T46 v) [(153, .i 499), (154, .i 499)]
def pyZ2T48 (v : PyV) : Fr := puF (pyZ2T47 v) [(155, .u (.b true)), (156, .u (.b true)), (157, .i 60), (158, .i 60)]
def pyZ2T49 (v : PyV) : Fr := puF (pyZ2T48 v) [(159, .u (.b true)), (160, .u (.b true)), (161, .u (.b true)), (162, .i 0), (163, .u (.b true)), (164, .u (.b true)), (165, .u (.b true)), (166, .i 0), (167, .u (.b true)), (168, .u (.b true)), (169, .u (.b true)), (170, .i 9), (171, .u (.b true)), (172, .u (.b true)), (173, .u (.b true))]
def pyZ2T50 (v : PyV) : Fr := puF (pyZ2T48 v) [(6, .u (.b true)), (159, .u (.b true)), (160, .u (.b true)), (161, .u (.b true)), (162, .i 0), (163, .u (.b true)), (164, .u (.b true)), (165, .u (.b true)), (166, .i 0), (167, .u (.b true)), (168, .u (.b true)), (169, .u (.b true)), (170, .i 9), (171, .u (.b true)), (172, .u (.b true)), (173, .u (.b true)), (174, .u (.b true)), (175, .u (.b true))]
def pyZ2T51 (v : PyV) : Fr := puF (pyZ2T48 v) [(6, .u (.b true)), (159, .u (.b true)), (160, .u (.b true)), (161, .u (.b true)), (162, .i 0), (163, .u (.b true)), (164, .u (.b true)), (165, .u (.b true)), (166, .i 0), (167, .u (.b true)), (168, .u (.b true)), (169, .u (.b true)), (170, .i 9), (171, .u (.b true)), (172, .u (.b true)), (173, .u (.b true)), (174, .u (.b true)), (175, .u (.b true))]
theorem pyZ2n66 (v : PyV) (H : PyZ v v.w true) : pyZ2ev pyZ2C5 (pyZ0T5 v) (pyZ2M6 v) [(.ret, (pyZ2T51 v), (pyZ2M38 v))] := Ev.seqPA (pyZ2n5 v H) (Ev.seqPA (pyZ2n9 v H) (Ev.seqPA (pyZ2n12 v H) (Ev.piecesA (k := 2) (t1 := pyZ0T17 v) (m1 := pyZ2M16 v) (Ev.seqPA (pyZ2n17 v H) (Ev.seqPA (t1 := pyZ0T23 v) (m1 := pyZ2M24 v) (Ev.regA (EvO.callA (t2 := pyZ0T22 v) (m1 := pyZ2M20 v) (ix := [0, 1, 2, 3, 5, 7, 9, 13, 17, 15, 18, 8]) (k := 3) (t1 := (pyZ0T22 v)) (args := [.r 0 0, .i 1]) (a := []) (cc := []) (y88_run v) EvO.opsA)) (Ev.seqPA (t1 := pyZ2T29 v) (m1 := pyZ2M24 v) (Ev.seqPA (t1 := pyZ2T28 v) (m1 := pyZ2M24 v) (Ev.regA EvO.opsA) Ev.codeA) (Ev.seqPA (pyZ2n48 v H) (Ev.piecesA (k := 2) (t1 := pyZ2T44 v) (m1 := pyZ2M38 v) (Ev.seqPA (t1 := pyZ2T46 v) (m1 := pyZ2M38 v) (Ev.regA (EvO.callA (t2 := pyZ2T45 v) (m1 := pyZ2M38 v) (ix := [0, 1, 2, 3, 5, 7, 9, 13, 17, 20, 18, 8, 21, 22]) (k := 3) (t1 := (pyZ2T45 v)) (args := [.r 0 0, .i 30, .i 1, .i 4]) (a := []) (cc := []) (y94_run v) EvO.opsA)) (Ev.seqPA (t1 := pyZ2T50 v) (m1 := pyZ2M38 v) (Ev.regA (EvO.callA (t2 := pyZ2T49 v) (m1 := pyZ2M38 v) (ix := []) (k := 21) (t1 := (pyZ2T49 v)) (args := []) (a := []) (cc := []) aw15_run EvO.opsA)) Ev.codeA))))))))))
theorem py_Z2 (v : PyV) (H : PyZ v v.w true) : PRun Tryz.prog 3 [] [.u (.i .u8 0), .u (.i .u8 v.r), .i v.e] fun x m => x = .u (.b true) ∧ m = [] := Ev.runA eK1 Tryz.func3 (c := pyZ2C1) (r := (.ret, (pyZ2T51 v), (pyZ2M38 v))) (Ev.piecesA (k := 1) (t1 := pyZ0T1 v) (m1 := pyZ2M0 v) (Ev.seqPA (t1 := pyZ0T3 v) (m1 := pyZ2M4 v) (Ev.regA (EvO.callA (t2 := pyZ0T1 v) (m1 := pyZ2M0 v) (ix := []) (k := 0) (t1 := (pyZ0T1 v)) (args := [.i 0]) (a := []) (cc := []) (y1_run v) EvO.opsA)) (Ev.piecesA (k := 2) (pyZ2n66 v H))))
end
end Go.Proofs.YtalglagdgabafaaGreat

/- From the symbolic engine's runs to the rows. -/
set_option linter.unusedVariables false
namespace Go.Proofs.YtalglagdgabafaaGreat
open Go Go.Proofs Go.ChangeShapes Go.WideShapes Go.ChangeAt Go.RowKit
theorem Tryz.own : ownKnob Tryz.prog.godebug = none := by kernel_rfl
theorem Tryz.laidOut : laidOutB Tryz.prog = true := by kernel_rfl
theorem belowOf {W W' : World} (k : Keep W.heap W'.heap) (s : Same W W') : RowKit.Below W.heap.size W W' :=
  ⟨s.os, s.tape, s.output, k.size, fun b hb => k.blk b hb (by simp)⟩
theorem rd_scalar {D : Fz} {v : Value} {x : U} (hv : ∀ cs, v ≠ .agg cs) (h : RdL D v.cells.toList [x]) : Rd D v x := by
  have e : v.cells.toList = [v] := by cases v <;> first | rfl | exact absurd rfl (hv _)
  rw [e] at h
  cases h with | cons a _ => exact a
theorem rd_int {P : Program} {w : World} {r : Reach} {b t : Nat} {v : Value} {k : IntKind} {D : Fz} {x : U} (hv : Value.okWide P w r b t v) (hu : P.underlying t = some (.int k)) (h : RdL D v.cells.toList [x]) : Rd D v x := by
  refine rd_scalar (fun cs e => ?_) h
  subst e
  unfold Value.okWide at hv
  rw [hu] at hv
  simp only [Cell.okWide, hu, Cell.ok] at hv
theorem SAt.all (h : Heap) : SAt (allD h) [] [] [] [] h := ⟨rfl, rfl, fun i L ab ch h => by simp at h, by simpa using St.all h⟩
end Go.Proofs.YtalglagdgabafaaGreat

/- The law MarketPays: what is taken as a fee; the last step. -/
set_option linter.unusedVariables false
namespace Go.Proofs.YtalglagdgabafaaGreat
open Go Go.Proofs
theorem u8_bd {n : Int} (h : (Lit.int .u8 n).wf = true) : 0 ≤ n ∧ n ≤ 255 := by
  have e1 : IntKind.min .u8 = 0 := rfl
  have e2 : IntKind.max .u8 = 255 := rfl
  simp [Lit.wf] at h
  omega
def and3 (e : Int) : Int := IntKind.wrap .i64 ((BitVec.ofInt 64 e &&& BitVec.ofInt 64 3).toNat : Int)
theorem and3_bd (e : Int) : 0 ≤ and3 e ∧ and3 e ≤ 3 := by
  unfold and3
  have h : (BitVec.ofInt 64 e &&& BitVec.ofInt 64 3).toNat ≤ 3 := by
    rw [BitVec.toNat_and]
    exact Nat.and_le_right
  rw [wrap_in (by omega)]
  omega
end Go.Proofs.YtalglagdgabafaaGreat

/- The law MarketPays: whatever is paid and pledged, and however it ends, it returns true. -/
set_option linter.unusedVariables false
namespace Go.Proofs.YtalglagdgabafaaGreat
open Go Go.Proofs
theorem marketPays_run {x0 x1 x2 : U} (sh0 : ShU (.i .u8 .nil) [x0]) (sh1 : ShU (.i .u8 .nil) [x1]) (sh2 : ShU (.i .i64 .nil) [x2]) : PRun Tryz.prog 3 [] [.u x0, .u x1, .u x2] fun v _ => v = .u (.b true) := by
  obtain ⟨p, _, h0, hp, -⟩ := sh0
  obtain ⟨r, _, h1, hr, -⟩ := sh1
  obtain ⟨e, _, h2, -, -⟩ := sh2
  cases h0; cases h1; cases h2
  have hp := u8_bd hp
  have hr := u8_bd hr
  have hq0 : 0 ≤ Int.tmod r 50 := Int.tmod_nonneg _ hr.1
  have hq1 : Int.tmod r 50 < 50 := Int.tmod_lt_of_pos _ (by omega)
  have ha := and3_bd e
  by_cases hz : p = 0 ∧ Int.tmod r 50 = 0
  · obtain ⟨rfl, hz⟩ := hz
    by_cases ha0 : and3 e = 0
    · exact (py_Z0 ⟨0, 0, 0, r, e, 0⟩ ⟨hr, hz, ha0, trivial, trivial⟩).mono fun x m h => h.1
    · by_cases ha1 : and3 e = 1
      · exact (py_Z1 ⟨0, 0, 0, r, e, 0⟩ ⟨hr, hz, ha1, trivial, trivial⟩).mono fun x m h => h.1
      · exact (py_Z2 ⟨0, 0, 0, r, e, and3 e⟩ ⟨hr, hz, rfl, sEqF ha0, sEqF ha1⟩).mono fun x m h => h.1
  · have hs : 0 < p + Int.tmod r 50 := by omega
    have hf := feeN_bd (n := p + Int.tmod r 50) (by omega) (by omega)
    have hB := broker_S (n := p + Int.tmod r 50) (by omega) (by omega)
    have b : ∀ w, PyB ⟨p, Int.tmod r 50, feeN (p + Int.tmod r 50), r, e, w⟩ := fun w => ⟨⟨hp.1, hp.2, hq0, by show Int.tmod r 50 ≤ 49; omega, hf.1, hf.2, hs, hr.1, hr.2⟩, hB⟩
    by_cases ha0 : and3 e = 0
    · exact (py_A0 _ ⟨b 0, rfl, ha0, trivial, trivial⟩).mono fun x m h => h.1
    · by_cases ha1 : and3 e = 1
      · exact (py_A1 _ ⟨b 0, rfl, ha1, trivial, trivial⟩).mono fun x m h => h.1
      · exact (py_A2 _ ⟨b (and3 e), rfl, rfl, sEqF ha0, sEqF ha1⟩).mono fun x m h => h.1
end Go.Proofs.YtalglagdgabafaaGreat

/- The row of MarketPays: whatever it is given it returns true, and what it was given reads as it did. -/
namespace Go.Proofs.YtalglagdgabafaaGreat
open Go Go.Proofs Go.ChangeShapes Go.WideShapes Go.ChangeAt Go.RowKit
set_option maxRecDepth 100000 in
theorem marketPays_lifted (os : Os) (started : os.Started) (H : Type) (enc : TypeId × Value → H) :
    ReturnsInHanded {} Tryz.checked os 3 .any (Rows.marketPaysSpec.pre6 enc Tryz.prog Tryz.f3 Rows.marketPaysRow.domain false) (Rows.marketPaysSpec.post enc Tryz.prog Tryz.f3 false true false false) := by
  refine returnsInHanded_of_change (C := Tryz.checked) Tryz.own started (by kernel_rfl) Tryz.func3
    (ChangeSpec.witness6 (enc := enc) (C := Tryz.checked) false ⟨#[], #[.int .u8 0, .int .u8 0, .int .i64 0], []⟩ 8 (by kernel_rfl) (by kernel_rfl) (by kernel_rfl) (by kernel_rfl)) ?_
  intro W base args ds gs before hval0 hW hcnd _
  have hval : ∀ (j : Nat) t v, Tryz.f3.params[j]? = some t → args[j]? = some v → Value.okWide Tryz.prog W .any base t v := hval0
  have hW' := hW
  obtain ⟨p, q, hA0, hV, rfl, hfz, hnd⟩ := hW
  have hA : DataW.TrodAll enc Tryz.prog W 0 (fun _ => true) true Tryz.f3.params.toList args.toList ds p := hA0
  rw [Tryz.params3] at hA hval
  obtain ⟨v0, v1, v2, d0, d1, d2, p0, p1, p2, rfl, rfl, rfl, h0, h1, h2⟩ := trodAll_three hA
  obtain ⟨rfl, rfl⟩ := trodVars_none hV
  obtain ⟨us0, hr0, sh0⟩ := open_data (ds := (.i .u8 .nil)) (by kernel_rfl) h0
  obtain ⟨x0, rfl⟩ : ∃ x, us0 = [x] := by obtain ⟨_, _, rfl, hh⟩ := sh0; obtain rfl : _ = [] := (by first | exact hh | exact hh.2); exact ⟨_, rfl⟩
  have hr0 : Rd (allD W.heap) v0 x0 := rd_int (hval 0 5 v0 rfl rfl) Tryz.underlying5 hr0
  obtain ⟨us1, hr1, sh1⟩ := open_data (ds := (.i .u8 .nil)) (by kernel_rfl) h1
  obtain ⟨x1, rfl⟩ : ∃ x, us1 = [x] := by obtain ⟨_, _, rfl, hh⟩ := sh1; obtain rfl : _ = [] := (by first | exact hh | exact hh.2); exact ⟨_, rfl⟩
  have hr1 : Rd (allD W.heap) v1 x1 := rd_int (hval 1 5 v1 rfl rfl) Tryz.underlying5 hr1
  obtain ⟨us2, hr2, sh2⟩ := open_data (ds := (.i .i64 .nil)) (by kernel_rfl) h2
  obtain ⟨x2, rfl⟩ : ∃ x, us2 = [x] := by obtain ⟨_, _, rfl, hh⟩ := sh2; obtain rfl : _ = [] := (by first | exact hh | exact hh.2); exact ⟨_, rfl⟩
  have hr2 : Rd (allD W.heap) v2 x2 := rd_int (hval 2 3 v2 rfl rfl) Tryz.underlying3 hr2
  clear hA0 hval0
  refine ((marketPays_run sh0 sh1 sh2 (allD W.heap) [] [] [] W.heap _ (SAt.all W.heap) (.cons (.u hr0) (.cons (.u hr1) (.cons (.u hr2) (.nil))))).2 W rfl).mono ?_
  rintro e W' ⟨v, rfl, ⟨D', ρ', chs', x, m', le, M', hv, rfl⟩, hsm⟩
  obtain rfl : v = .bool true := by cases hv with | u h => cases h; rfl
  have hb := belowOf (St.kept le M'.st) hsm
  have hlt0 : ∀ x ∈ p0, x.block < W.heap.size := fun x hx => by simpa using hW'.lt x (by simp [hx])
  have hlt1 : ∀ x ∈ p1, x.block < W.heap.size := fun x hx => by simpa using hW'.lt x (by simp [hx])
  have hlt2 : ∀ x ∈ p2, x.block < W.heap.size := fun x hx => by simpa using hW'.lt x (by simp [hx])
  exact ⟨_, rfl, _, _, _, [], _, [], hW', trodAll_mk1 (shut_bool Tryz.underlying4 true), trodAll_mk3 (hb.trod Tryz.laidOut (by kernel_rfl) (of_decide_eq_true (by kernel_rfl)) h0 hlt0) (hb.trod Tryz.laidOut (by kernel_rfl) (of_decide_eq_true (by kernel_rfl)) h1 hlt1) (hb.trod Tryz.laidOut (by kernel_rfl) (of_decide_eq_true (by kernel_rfl)) h2 hlt2), rfl, hb.frame _, fun h => by cases h⟩
theorem marketPays_holds : Rows.MarketPaysSaid :=
  OpenClaim.holds_of_wide 3 Tryz.f3 rfl rfl rfl rfl rfl rfl rfl ⟨rfl, rfl, rfl, rfl, rfl⟩ rfl rfl rfl rfl rfl (by kernel_rfl) Tryz.func3 (by kernel_rfl)
    (of_decide_eq_true (by kernel_rfl)) (by unfold Func.isWrapper; first | (rw [if_pos (by decide +kernel)]; kernel_rfl) | (rw [if_neg (by decide +kernel)]; exact ⟨rfl, rfl⟩))
    (fun os started H enc _ => marketPays_lifted os started H enc)
end Go.Proofs.YtalglagdgabafaaGreat
