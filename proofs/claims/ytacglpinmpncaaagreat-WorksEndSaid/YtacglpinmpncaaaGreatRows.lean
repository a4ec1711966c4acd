/-
  No cell of these rows narrows 'for every input' (looked for: loops, veiled, ifaces, maps, wideKeys, modest, calm, conditions, laid).
  DERIVED. THE GIVEN ROWS OF THIS SEAT. 4 by the template 'for every input the law returns true; each argument reads behind the call as it read before'; 0 by the template 'total and deterministic' (their statements: YtacglpinmpncaaaGreatTotals.lean).
  GIVEN WITH THE SEED: the statements are not yours to turn. If you find one false, say at which input.
  Laid BY PROGRAM, IN A SANDBOX (cutbox-rows.mjs): the forced cells as the released guide's own fill.sh prints them over the translation 397d3972296f8c74… (all of the seat's roots in one cut). By AI agents, Wed Nov 11 2026. No macro, syntax, notation, axiom, sorry.
-/
import Derived.Test.YtacglpinmpncaaaGreatChecked
import GoSem.Claim
import GoSem.ClaimJoined
import GoSem.ClaimMapViews
import Derived.JoinedTies
import Derived.KernelRfl
namespace Go.Proofs.YtacglpinmpncaaaGreat
/- THE CELL 'sum', in the pinned program and in every row, IS THE sha256 OF THE DUMP (.gsa) THAT YtacglpinmpncaaaGreatProg.lean LOADS. Nothing in Lean hashes anything: it is a label: what it is worth is what the hold of that sum in a sandbox is worth. -/
noncomputable def Tryz.pinned : Pinned := { name := "ytacglpinmpncaaagreat", sum := "397d3972296f8c74f58b0f0ce5b62112ec25bf1d8edfbe740919d667fa18a8e8", checked := Tryz.checked }
namespace Rows
def none {H : Type} : Left H := { results := [], args := [] }

/-- 'bottomrylaw22.WorksEnd': WHATEVER THE INPUT: true; the input reads as it did. -/
def worksEndSpec : ChangeSpec := { name := "worksEnd", fn := fun _ => fun
  | [d1, d2] => { results := [.lit (.bool true)], args := [d1, d2] }
  | _ => none }
def worksEndRow : OpenClaim := { program := "ytacglpinmpncaaagreat", sum := "397d3972296f8c74f58b0f0ce5b62112ec25bf1d8edfbe740919d667fa18a8e8", func := "bottomry/bottomrylaw22.WorksEnd", spec := "worksEnd", inPlace := ["slices.overlaps[int]"], unfollowed := true, recurses := true, named := ["math/bits.divideError", "math/bits.overflowError"], plainKeys := false, apart := false }
def WorksEndSaid : Prop := worksEndRow.holds Tryz.pinned (OpenSpec.ofChange worksEndSpec)

/-- ITS FALSE NEIGHBOUR: 'it returns false'. Refute it at one input. -/
def worksEndWrong : ChangeSpec := { name := "worksEnd", fn := fun _ => fun
  | [d1, d2] => { results := [.lit (.bool false)], args := [d1, d2] }
  | _ => none }
def WorksEndWrongFalsely : Prop := worksEndRow.holds Tryz.pinned (OpenSpec.ofChange worksEndWrong)

/-- 'bottomrylaw22.WorksKeep': WHATEVER THE INPUT: true; the input reads as it did. -/
def worksKeepSpec : ChangeSpec := { name := "worksKeep", fn := fun _ => fun
  | [d1, d2] => { results := [.lit (.bool true)], args := [d1, d2] }
  | _ => none }
def worksKeepRow : OpenClaim := { program := "ytacglpinmpncaaagreat", sum := "397d3972296f8c74f58b0f0ce5b62112ec25bf1d8edfbe740919d667fa18a8e8", func := "bottomry/bottomrylaw22.WorksKeep", spec := "worksKeep", inPlace := ["slices.overlaps[int]"], unfollowed := true, recurses := true, named := ["math/bits.divideError", "math/bits.overflowError"], plainKeys := false, apart := false }
def WorksKeepSaid : Prop := worksKeepRow.holds Tryz.pinned (OpenSpec.ofChange worksKeepSpec)

/-- ITS FALSE NEIGHBOUR: 'it returns false'. Refute it at one input. -/
def worksKeepWrong : ChangeSpec := { name := "worksKeep", fn := fun _ => fun
  | [d1, d2] => { results := [.lit (.bool false)], args := [d1, d2] }
  | _ => none }
def WorksKeepWrongFalsely : Prop := worksKeepRow.holds Tryz.pinned (OpenSpec.ofChange worksKeepWrong)

/-- 'bottomrylaw22.WorksPlay': WHATEVER THE INPUT: true; the input reads as it did. -/
def worksPlaySpec : ChangeSpec := { name := "worksPlay", fn := fun _ => fun
  | [d1, d2] => { results := [.lit (.bool true)], args := [d1, d2] }
  | _ => none }
def worksPlayRow : OpenClaim := { program := "ytacglpinmpncaaagreat", sum := "397d3972296f8c74f58b0f0ce5b62112ec25bf1d8edfbe740919d667fa18a8e8", func := "bottomry/bottomrylaw22.WorksPlay", spec := "worksPlay", inPlace := ["slices.overlaps[int]"], unfollowed := true, recurses := true, named := ["math/bits.divideError", "math/bits.overflowError"], plainKeys := false, apart := false }
def WorksPlaySaid : Prop := worksPlayRow.holds Tryz.pinned (OpenSpec.ofChange worksPlaySpec)

/-- ITS FALSE NEIGHBOUR: 'it returns false'. Refute it at one input. -/
def worksPlayWrong : ChangeSpec := { name := "worksPlay", fn := fun _ => fun
  | [d1, d2] => { results := [.lit (.bool false)], args := [d1, d2] }
  | _ => none }
def WorksPlayWrongFalsely : Prop := worksPlayRow.holds Tryz.pinned (OpenSpec.ofChange worksPlayWrong)

/-- 'bottomrylaw22.WorksLoad': WHATEVER THE INPUT: true; the input reads as it did. -/
def worksLoadSpec : ChangeSpec := { name := "worksLoad", fn := fun _ => fun
  | [d1, d2, d3] => { results := [.lit (.bool true)], args := [d1, d2, d3] }
  | _ => none }
def worksLoadRow : OpenClaim := { program := "ytacglpinmpncaaagreat", sum := "397d3972296f8c74f58b0f0ce5b62112ec25bf1d8edfbe740919d667fa18a8e8", func := "bottomry/bottomrylaw22.WorksLoad", spec := "worksLoad", inPlace := ["slices.overlaps[int]"], unfollowed := true, recurses := true, named := ["math/bits.divideError", "math/bits.overflowError"], plainKeys := false, apart := false }
def WorksLoadSaid : Prop := worksLoadRow.holds Tryz.pinned (OpenSpec.ofChange worksLoadSpec)

/-- ITS FALSE NEIGHBOUR: 'it returns false'. Refute it at one input. -/
def worksLoadWrong : ChangeSpec := { name := "worksLoad", fn := fun _ => fun
  | [d1, d2, d3] => { results := [.lit (.bool false)], args := [d1, d2, d3] }
  | _ => none }
def WorksLoadWrongFalsely : Prop := worksLoadRow.holds Tryz.pinned (OpenSpec.ofChange worksLoadWrong)

/- THE SECOND FORM. 'bulk': how many values and letters a reading holds, each counted each time it is reached (what is shared counts as often as it is met; a slice's spare places count too). A statement '..UptoSaid' is the law's where the arguments, and the package variables that the reading takes, are together of bulk at most 1048576: NARROWER than '..Said'. Prove '..Said' where nothing that the law and all that it calls make is longer than what came in: it says more and counts as full. Else prove '..UptoSaid'. A law counts once. -/
mutual
def uptoBulk {H : Type} : DataW H → Nat
  | .lit (.string bytes) => bytes.length + 1
  | .lit _ => 1
  | .nil => 1
  | .ptr d => uptoBulk d + 1
  | .slice elems spare => uptoBulkAll elems + uptoBulkAll spare + 1
  | .agg parts => uptoBulkAll parts + 1
  | .iface _ d => uptoBulk d + 1
  | .map entries => uptoBulkEntries entries + 1
  | .held _ => 1
def uptoBulkAll {H : Type} : List (DataW H) → Nat
  | [] => 0
  | d :: r => uptoBulk d + uptoBulkAll r
def uptoBulkEntries {H : Type} : List (Lit × DataW H) → Nat
  | [] => 0
  | x :: r => uptoBulkEntry x + uptoBulkEntries r
def uptoBulkEntry {H : Type} : Lit × DataW H → Nat
  | (.string bytes, d) => bytes.length + uptoBulk d + 1
  | (_, d) => uptoBulk d + 1
 end
def uptoSmall : (H : Type) → List (DataW H) → Bool := fun _ ds => decide (uptoBulkAll ds ≤ 1048576)
def OpenSpec.upto (s : _root_.Go.ChangeSpec) : _root_.Go.OpenSpec := { _root_.Go.OpenSpec.ofChange s with cond := some uptoSmall }

/-- 'bottomrylaw22.WorksEnd', WHERE WHAT IT READS IS OF BULK AT MOST 1048576: true; the input reads as it did. -/
def worksEndUptoRow : OpenClaim := { program := "ytacglpinmpncaaagreat", sum := "397d3972296f8c74f58b0f0ce5b62112ec25bf1d8edfbe740919d667fa18a8e8", func := "bottomry/bottomrylaw22.WorksEnd", spec := "worksEnd", inPlace := ["slices.overlaps[int]"], unfollowed := true, recurses := true, named := ["math/bits.divideError", "math/bits.overflowError"], plainKeys := false, apart := false, narrowed := true }
def WorksEndUptoSaid : Prop := worksEndUptoRow.holds Tryz.pinned (OpenSpec.upto worksEndSpec)

/-- 'bottomrylaw22.WorksKeep', WHERE WHAT IT READS IS OF BULK AT MOST 1048576: true; the input reads as it did. -/
def worksKeepUptoRow : OpenClaim := { program := "ytacglpinmpncaaagreat", sum := "397d3972296f8c74f58b0f0ce5b62112ec25bf1d8edfbe740919d667fa18a8e8", func := "bottomry/bottomrylaw22.WorksKeep", spec := "worksKeep", inPlace := ["slices.overlaps[int]"], unfollowed := true, recurses := true, named := ["math/bits.divideError", "math/bits.overflowError"], plainKeys := false, apart := false, narrowed := true }
def WorksKeepUptoSaid : Prop := worksKeepUptoRow.holds Tryz.pinned (OpenSpec.upto worksKeepSpec)

/-- 'bottomrylaw22.WorksPlay', WHERE WHAT IT READS IS OF BULK AT MOST 1048576: true; the input reads as it did. -/
def worksPlayUptoRow : OpenClaim := { program := "ytacglpinmpncaaagreat", sum := "397d3972296f8c74f58b0f0ce5b62112ec25bf1d8edfbe740919d667fa18a8e8", func := "bottomry/bottomrylaw22.WorksPlay", spec := "worksPlay", inPlace := ["slices.overlaps[int]"], unfollowed := true, recurses := true, named := ["math/bits.divideError", "math/bits.overflowError"], plainKeys := false, apart := false, narrowed := true }
def WorksPlayUptoSaid : Prop := worksPlayUptoRow.holds Tryz.pinned (OpenSpec.upto worksPlaySpec)

/-- 'bottomrylaw22.WorksLoad', WHERE WHAT IT READS IS OF BULK AT MOST 1048576: true; the input reads as it did. -/
def worksLoadUptoRow : OpenClaim := { program := "ytacglpinmpncaaagreat", sum := "397d3972296f8c74f58b0f0ce5b62112ec25bf1d8edfbe740919d667fa18a8e8", func := "bottomry/bottomrylaw22.WorksLoad", spec := "worksLoad", inPlace := ["slices.overlaps[int]"], unfollowed := true, recurses := true, named := ["math/bits.divideError", "math/bits.overflowError"], plainKeys := false, apart := false, narrowed := true }
def WorksLoadUptoSaid : Prop := worksLoadUptoRow.holds Tryz.pinned (OpenSpec.upto worksLoadSpec)

end Rows
end Go.Proofs.YtacglpinmpncaaaGreat
