/-
  No cell of these rows narrows 'for every input' (looked for: loops, veiled, ifaces, maps, wideKeys, modest, calm, conditions, laid).
  DERIVED. THE GIVEN ROWS OF THIS SEAT. 4 by the template 'for every input the law returns true; each argument reads behind the call as it read before'; 0 by the template 'total and deterministic' (their statements: YtalglagdgabafaaGreatTotals.lean).
  GIVEN WITH THE SEED: the statements are not yours to turn. If you find one false, say at which input.
  Laid BY PROGRAM, IN A SANDBOX (cutbox-rows.mjs): the forced cells as the released guide's own fill.sh prints them over the translation 108599e278b4b149… (all of the seat's roots in one cut). By AI agents, Wed Nov 11 2026. No macro, syntax, notation, axiom, sorry.
-/
import Derived.Test.YtalglagdgabafaaGreatChecked
import GoSem.Claim
import GoSem.ClaimJoined
import GoSem.ClaimMapViews
import Derived.JoinedTies
import Derived.KernelRfl
namespace Go.Proofs.YtalglagdgabafaaGreat
/- THE CELL 'sum', in the pinned program and in every row, IS THE sha256 OF THE DUMP (.gsa) THAT YtalglagdgabafaaGreatProg.lean LOADS. Nothing in Lean hashes anything: it is a label: what it is worth is what the hold of that sum in a sandbox is worth. -/
noncomputable def Tryz.pinned : Pinned := { name := "ytalglagdgabafaagreat", sum := "108599e278b4b149c84a2e1c728cb723a2a9a1c3adec28fb074f182600729777", checked := Tryz.checked }
namespace Rows
def none {H : Type} : Left H := { results := [], args := [] }

/-- 'bottomrylaw24.MarketPays': WHATEVER THE INPUT: true; the input reads as it did. -/
def marketPaysSpec : ChangeSpec := { name := "marketPays", fn := fun _ => fun
  | [d1, d2, d3] => { results := [.lit (.bool true)], args := [d1, d2, d3] }
  | _ => none }
def marketPaysRow : OpenClaim := { program := "ytalglagdgabafaagreat", sum := "108599e278b4b149c84a2e1c728cb723a2a9a1c3adec28fb074f182600729777", func := "bottomry/bottomrylaw24.MarketPays", spec := "marketPays", unfollowed := true, recurses := true, named := ["math/bits.divideError", "math/bits.overflowError"], plainKeys := false, apart := false }
def MarketPaysSaid : Prop := marketPaysRow.holds Tryz.pinned (OpenSpec.ofChange marketPaysSpec)

/-- ITS FALSE NEIGHBOUR: 'it returns false'. Refute it at one input. -/
def marketPaysWrong : ChangeSpec := { name := "marketPays", fn := fun _ => fun
  | [d1, d2, d3] => { results := [.lit (.bool false)], args := [d1, d2, d3] }
  | _ => none }
def MarketPaysWrongFalsely : Prop := marketPaysRow.holds Tryz.pinned (OpenSpec.ofChange marketPaysWrong)

/-- 'bottomrylaw24.MarketEnds': WHATEVER THE INPUT: true; the input reads as it did. -/
def marketEndsSpec : ChangeSpec := { name := "marketEnds", fn := fun _ => fun
  | [d1, d2] => { results := [.lit (.bool true)], args := [d1, d2] }
  | _ => none }
def marketEndsRow : OpenClaim := { program := "ytalglagdgabafaagreat", sum := "108599e278b4b149c84a2e1c728cb723a2a9a1c3adec28fb074f182600729777", func := "bottomry/bottomrylaw24.MarketEnds", spec := "marketEnds", unfollowed := true, recurses := true, named := ["math/bits.divideError", "math/bits.overflowError"], plainKeys := false, apart := false }
def MarketEndsSaid : Prop := marketEndsRow.holds Tryz.pinned (OpenSpec.ofChange marketEndsSpec)

/-- ITS FALSE NEIGHBOUR: 'it returns false'. Refute it at one input. -/
def marketEndsWrong : ChangeSpec := { name := "marketEnds", fn := fun _ => fun
  | [d1, d2] => { results := [.lit (.bool false)], args := [d1, d2] }
  | _ => none }
def MarketEndsWrongFalsely : Prop := marketEndsRow.holds Tryz.pinned (OpenSpec.ofChange marketEndsWrong)

/-- 'bottomrylaw24.MarketNobody': WHATEVER THE INPUT: true; the input reads as it did. -/
def marketNobodySpec : ChangeSpec := { name := "marketNobody", fn := fun _ => fun
  | [d1, d2] => { results := [.lit (.bool true)], args := [d1, d2] }
  | _ => none }
def marketNobodyRow : OpenClaim := { program := "ytalglagdgabafaagreat", sum := "108599e278b4b149c84a2e1c728cb723a2a9a1c3adec28fb074f182600729777", func := "bottomry/bottomrylaw24.MarketNobody", spec := "marketNobody", unfollowed := true, recurses := true, named := ["math/bits.divideError", "math/bits.overflowError"], plainKeys := false, apart := false }
def MarketNobodySaid : Prop := marketNobodyRow.holds Tryz.pinned (OpenSpec.ofChange marketNobodySpec)

/-- ITS FALSE NEIGHBOUR: 'it returns false'. Refute it at one input. -/
def marketNobodyWrong : ChangeSpec := { name := "marketNobody", fn := fun _ => fun
  | [d1, d2] => { results := [.lit (.bool false)], args := [d1, d2] }
  | _ => none }
def MarketNobodyWrongFalsely : Prop := marketNobodyRow.holds Tryz.pinned (OpenSpec.ofChange marketNobodyWrong)

/-- 'bottomrylaw24.MarketKeeps': WHATEVER THE INPUT: true; the input reads as it did. -/
def marketKeepsSpec : ChangeSpec := { name := "marketKeeps", fn := fun _ => fun
  | [d1, d2] => { results := [.lit (.bool true)], args := [d1, d2] }
  | _ => none }
def marketKeepsRow : OpenClaim := { program := "ytalglagdgabafaagreat", sum := "108599e278b4b149c84a2e1c728cb723a2a9a1c3adec28fb074f182600729777", func := "bottomry/bottomrylaw24.MarketKeeps", spec := "marketKeeps", unfollowed := true, recurses := true, named := ["math/bits.divideError", "math/bits.overflowError"], plainKeys := false, apart := false }
def MarketKeepsSaid : Prop := marketKeepsRow.holds Tryz.pinned (OpenSpec.ofChange marketKeepsSpec)

/-- ITS FALSE NEIGHBOUR: 'it returns false'. Refute it at one input. -/
def marketKeepsWrong : ChangeSpec := { name := "marketKeeps", fn := fun _ => fun
  | [d1, d2] => { results := [.lit (.bool false)], args := [d1, d2] }
  | _ => none }
def MarketKeepsWrongFalsely : Prop := marketKeepsRow.holds Tryz.pinned (OpenSpec.ofChange marketKeepsWrong)

/- THE SECOND FORM. 'bulk': how many values and letters a reading holds, each counted each time it is reached (what is shared counts as often as it is met; a slice's spare places count too). A statement '..UptoSaid' is the law's where the arguments, and the package variables that the reading takes, are together of bulk at most 1048576: NARROWER than '..Said'. Prove '..Said' where nothing that the law and all that it calls make is longer than what came in: it says more and counts as full. Else prove '..UptoSaid'. A law counts once. -/
mutual
def uptoBulk {H : Type} : DataW H → Nat
  | .lit (.string bytes) => bytes.length + 1
  | .lit _ => 1
  | .nil => 1
  | .ptr d => uptoBulk d + 1
  | .slice elems spare => uptoBulkAll elems + uptoBulkAll spare + 1
  | .agg parts => uptoBulkAll parts + 1
  | .iface _ d => uptoBulk d + 1
  | .map entries => uptoBulkEntries entries + 1
  | .held _ => 1
def uptoBulkAll {H : Type} : List (DataW H) → Nat
  | [] => 0
  | d :: r => uptoBulk d + uptoBulkAll r
def uptoBulkEntries {H : Type} : List (Lit × DataW H) → Nat
  | [] => 0
  | x :: r => uptoBulkEntry x + uptoBulkEntries r
def uptoBulkEntry {H : Type} : Lit × DataW H → Nat
  | (.string bytes, d) => bytes.length + uptoBulk d + 1
  | (_, d) => uptoBulk d + 1
 end
def uptoSmall : (H : Type) → List (DataW H) → Bool := fun _ ds => decide (uptoBulkAll ds ≤ 1048576)
def OpenSpec.upto (s : _root_.Go.ChangeSpec) : _root_.Go.OpenSpec := { _root_.Go.OpenSpec.ofChange s with cond := some uptoSmall }

/-- 'bottomrylaw24.MarketPays', WHERE WHAT IT READS IS OF BULK AT MOST 1048576: true; the input reads as it did. -/
def marketPaysUptoRow : OpenClaim := { program := "ytalglagdgabafaagreat", sum := "108599e278b4b149c84a2e1c728cb723a2a9a1c3adec28fb074f182600729777", func := "bottomry/bottomrylaw24.MarketPays", spec := "marketPays", unfollowed := true, recurses := true, named := ["math/bits.divideError", "math/bits.overflowError"], plainKeys := false, apart := false, narrowed := true }
def MarketPaysUptoSaid : Prop := marketPaysUptoRow.holds Tryz.pinned (OpenSpec.upto marketPaysSpec)

/-- 'bottomrylaw24.MarketEnds', WHERE WHAT IT READS IS OF BULK AT MOST 1048576: true; the input reads as it did. -/
def marketEndsUptoRow : OpenClaim := { program := "ytalglagdgabafaagreat", sum := "108599e278b4b149c84a2e1c728cb723a2a9a1c3adec28fb074f182600729777", func := "bottomry/bottomrylaw24.MarketEnds", spec := "marketEnds", unfollowed := true, recurses := true, named := ["math/bits.divideError", "math/bits.overflowError"], plainKeys := false, apart := false, narrowed := true }
def MarketEndsUptoSaid : Prop := marketEndsUptoRow.holds Tryz.pinned (OpenSpec.upto marketEndsSpec)

/-- 'bottomrylaw24.MarketNobody', WHERE WHAT IT READS IS OF BULK AT MOST 1048576: true; the input reads as it did. -/
def marketNobodyUptoRow : OpenClaim := { program := "ytalglagdgabafaagreat", sum := "108599e278b4b149c84a2e1c728cb723a2a9a1c3adec28fb074f182600729777", func := "bottomry/bottomrylaw24.MarketNobody", spec := "marketNobody", unfollowed := true, recurses := true, named := ["math/bits.divideError", "math/bits.overflowError"], plainKeys := false, apart := false, narrowed := true }
def MarketNobodyUptoSaid : Prop := marketNobodyUptoRow.holds Tryz.pinned (OpenSpec.upto marketNobodySpec)

/-- 'bottomrylaw24.MarketKeeps', WHERE WHAT IT READS IS OF BULK AT MOST 1048576: true; the input reads as it did. -/
def marketKeepsUptoRow : OpenClaim := { program := "ytalglagdgabafaagreat", sum := "108599e278b4b149c84a2e1c728cb723a2a9a1c3adec28fb074f182600729777", func := "bottomry/bottomrylaw24.MarketKeeps", spec := "marketKeeps", unfollowed := true, recurses := true, named := ["math/bits.divideError", "math/bits.overflowError"], plainKeys := false, apart := false, narrowed := true }
def MarketKeepsUptoSaid : Prop := marketKeepsUptoRow.holds Tryz.pinned (OpenSpec.upto marketKeepsSpec)

end Rows
end Go.Proofs.YtalglagdgabafaaGreat
