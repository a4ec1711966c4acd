/- Bills, plain: what is told fits; with one less it does not. -/
import Derived.Test.YtljgfkiiikcaaaaKb3
import Derived.Test.YtljgfkiiikcaaaaProg
import Derived.Test.YtljgfkiiikcaaaaRows
import Derived.ProofKit
import Derived.Deep.SlicePairs
/- What the functions do, written by program (psv.py) and held against the program by the kernel. -/
set_option linter.unusedVariables false
set_option maxRecDepth 100000
namespace Go.Proofs.Ytljgfkiiikcaaaa
open Go Go.Proofs
theorem mixTb : Try.prog.follows .mixedOrders = true := by kernel_rfl
/- math/bits.Div64 -/
theorem S73 {hi : Int} {lo : Int} {y : Int} {Q : V → Mem → Prop} (hh : bif y == 0 then False else (bif decide (y ≤ hi) then False else (bif hi == 0 then y ≠ 0 ∧ (y ≠ 0 ∧ (Q (.t [.u (.i .u64 (IntKind.wrap .u64 (Int.tdiv lo y))), .u (.i .u64 (Int.tmod lo y))]) [])) else PRun Try.prog 89 [] [.u (.i .u64 y)] (post [.I] [] (fun x1 => (0 ≤ IntKind.wrap .u64 x1 ∧ (0 ≤ (32 : Int) ∧ (0 ≤ IntKind.wrap .u64 x1 ∧ (0 ≤ IntKind.wrap .u64 (64 - IntKind.wrap .u64 x1) ∧ (0 ≤ IntKind.wrap .u64 x1 ∧ (0 ≤ (32 : Int) ∧ (Int.fdiv (IntKind.wrap .u64 (y * 2 ^ (min (Int.toNat (IntKind.wrap .u64 x1)) 64))) (2 ^ (32)) ≠ 0 ∧ (∀ k1 : Int → Prop, (∀ x2 : Int, (Int.fdiv (IntKind.wrap .u64 (y * 2 ^ (min (Int.toNat (IntKind.wrap .u64 x1)) 64))) (2 ^ (32)) ≠ 0 ∧ (∃ (I1 : Int → Int → Prop) (f1 : Int → Int → Nat), I1 (IntKind.wrap .u64 (IntKind.wrap .u64 (IntKind.wrap .u64 (IntKind.wrap .u64 (IntKind.wrap .u64 (BitVec.toNat (BitVec.ofInt 64 (IntKind.wrap .u64 (hi * 2 ^ (min (Int.toNat (IntKind.wrap .u64 x1)) 64))) ||| (BitVec.ofInt 64 (Int.fdiv lo (2 ^ (min (Int.toNat (IntKind.wrap .u64 (64 - IntKind.wrap .u64 x1))) 64))))) : Int) * 4294967296) + Int.fdiv (IntKind.wrap .u64 (lo * 2 ^ (min (Int.toNat (IntKind.wrap .u64 x1)) 64))) (2 ^ (32))) - IntKind.wrap .u64 (x2 * IntKind.wrap .u64 (y * 2 ^ (min (Int.toNat (IntKind.wrap .u64 x1)) 64)))) - IntKind.wrap .u64 (IntKind.wrap .u64 (Int.tdiv (IntKind.wrap .u64 (IntKind.wrap .u64 (IntKind.wrap .u64 (IntKind.wrap .u64 (BitVec.toNat (BitVec.ofInt 64 (IntKind.wrap .u64 (hi * 2 ^ (min (Int.toNat (IntKind.wrap .u64 x1)) 64))) ||| (BitVec.ofInt 64 (Int.fdiv lo (2 ^ (min (Int.toNat (IntKind.wrap .u64 (64 - IntKind.wrap .u64 x1))) 64))))) : Int) * 4294967296) + Int.fdiv (IntKind.wrap .u64 (lo * 2 ^ (min (Int.toNat (IntKind.wrap .u64 x1)) 64))) (2 ^ (32))) - IntKind.wrap .u64 (x2 * IntKind.wrap .u64 (y * 2 ^ (min (Int.toNat (IntKind.wrap .u64 x1)) 64))))) (Int.fdiv (IntKind.wrap .u64 (y * 2 ^ (min (Int.toNat (IntKind.wrap .u64 x1)) 64))) (2 ^ (32)))) * Int.fdiv (IntKind.wrap .u64 (y * 2 ^ (min (Int.toNat (IntKind.wrap .u64 x1)) 64))) (2 ^ (32))))) (IntKind.wrap .u64 (Int.tdiv (IntKind.wrap .u64 (IntKind.wrap .u64 (IntKind.wrap .u64 (IntKind.wrap .u64 (BitVec.toNat (BitVec.ofInt 64 (IntKind.wrap .u64 (hi * 2 ^ (min (Int.toNat (IntKind.wrap .u64 x1)) 64))) ||| (BitVec.ofInt 64 (Int.fdiv lo (2 ^ (min (Int.toNat (IntKind.wrap .u64 (64 - IntKind.wrap .u64 x1))) 64))))) : Int) * 4294967296) + Int.fdiv (IntKind.wrap .u64 (lo * 2 ^ (min (Int.toNat (IntKind.wrap .u64 x1)) 64))) (2 ^ (32))) - IntKind.wrap .u64 (x2 * IntKind.wrap .u64 (y * 2 ^ (min (Int.toNat (IntKind.wrap .u64 x1)) 64))))) (Int.fdiv (IntKind.wrap .u64 (y * 2 ^ (min (Int.toNat (IntKind.wrap .u64 x1)) 64))) (2 ^ (32))))) ∧ (∀ x3 : Int, ∀ x4 : Int, I1 x3 x4 → (bif decide (x4 ≥ 4294967296) then (bif decide (IntKind.wrap .u64 (x3 + Int.fdiv (IntKind.wrap .u64 (y * 2 ^ (min (Int.toNat (IntKind.wrap .u64 x1)) 64))) (2 ^ (32))) ≥ 4294967296) then 0 ≤ IntKind.wrap .u64 x1 ∧ (Q (.t [.u (.i .u64 (IntKind.wrap .u64 (IntKind.wrap .u64 (x2 * 4294967296) + IntKind.wrap .u64 (x4 - 1)))), .u (.i .u64 (Int.fdiv (IntKind.wrap .u64 (IntKind.wrap .u64 (IntKind.wrap .u64 (IntKind.wrap .u64 (IntKind.wrap .u64 (IntKind.wrap .u64 (IntKind.wrap .u64 (BitVec.toNat (BitVec.ofInt 64 (IntKind.wrap .u64 (hi * 2 ^ (min (Int.toNat (IntKind.wrap .u64 x1)) 64))) ||| (BitVec.ofInt 64 (Int.fdiv lo (2 ^ (min (Int.toNat (IntKind.wrap .u64 (64 - IntKind.wrap .u64 x1))) 64))))) : Int) * 4294967296) + Int.fdiv (IntKind.wrap .u64 (lo * 2 ^ (min (Int.toNat (IntKind.wrap .u64 x1)) 64))) (2 ^ (32))) - IntKind.wrap .u64 (x2 * IntKind.wrap .u64 (y * 2 ^ (min (Int.toNat (IntKind.wrap .u64 x1)) 64)))) * 4294967296) + IntKind.wrap .u64 (BitVec.toNat (BitVec.ofInt 64 (IntKind.wrap .u64 (lo * 2 ^ (min (Int.toNat (IntKind.wrap .u64 x1)) 64))) &&& (BitVec.ofInt 64 4294967295)) : Int)) - IntKind.wrap .u64 (IntKind.wrap .u64 (x4 - 1) * IntKind.wrap .u64 (y * 2 ^ (min (Int.toNat (IntKind.wrap .u64 x1)) 64))))) (2 ^ (min (Int.toNat (IntKind.wrap .u64 x1)) 64))))]) []) else I1 (IntKind.wrap .u64 (x3 + Int.fdiv (IntKind.wrap .u64 (y * 2 ^ (min (Int.toNat (IntKind.wrap .u64 x1)) 64))) (2 ^ (32)))) (IntKind.wrap .u64 (x4 - 1)) ∧ f1 (IntKind.wrap .u64 (x3 + Int.fdiv (IntKind.wrap .u64 (y * 2 ^ (min (Int.toNat (IntKind.wrap .u64 x1)) 64))) (2 ^ (32)))) (IntKind.wrap .u64 (x4 - 1)) < f1 x3 x4) else (bif decide (IntKind.wrap .u64 (x4 * IntKind.wrap .u64 (BitVec.toNat (BitVec.ofInt 64 (IntKind.wrap .u64 (y * 2 ^ (min (Int.toNat (IntKind.wrap .u64 x1)) 64))) &&& (BitVec.ofInt 64 4294967295)) : Int)) > IntKind.wrap .u64 (IntKind.wrap .u64 (4294967296 * x3) + IntKind.wrap .u64 (BitVec.toNat (BitVec.ofInt 64 (IntKind.wrap .u64 (lo * 2 ^ (min (Int.toNat (IntKind.wrap .u64 x1)) 64))) &&& (BitVec.ofInt 64 4294967295)) : Int))) then (bif decide (IntKind.wrap .u64 (x3 + Int.fdiv (IntKind.wrap .u64 (y * 2 ^ (min (Int.toNat (IntKind.wrap .u64 x1)) 64))) (2 ^ (32))) ≥ 4294967296) then 0 ≤ IntKind.wrap .u64 x1 ∧ (Q (.t [.u (.i .u64 (IntKind.wrap .u64 (IntKind.wrap .u64 (x2 * 4294967296) + IntKind.wrap .u64 (x4 - 1)))), .u (.i .u64 (Int.fdiv (IntKind.wrap .u64 (IntKind.wrap .u64 (IntKind.wrap .u64 (IntKind.wrap .u64 (IntKind.wrap .u64 (IntKind.wrap .u64 (IntKind.wrap .u64 (BitVec.toNat (BitVec.ofInt 64 (IntKind.wrap .u64 (hi * 2 ^ (min (Int.toNat (IntKind.wrap .u64 x1)) 64))) ||| (BitVec.ofInt 64 (Int.fdiv lo (2 ^ (min (Int.toNat (IntKind.wrap .u64 (64 - IntKind.wrap .u64 x1))) 64))))) : Int) * 4294967296) + Int.fdiv (IntKind.wrap .u64 (lo * 2 ^ (min (Int.toNat (IntKind.wrap .u64 x1)) 64))) (2 ^ (32))) - IntKind.wrap .u64 (x2 * IntKind.wrap .u64 (y * 2 ^ (min (Int.toNat (IntKind.wrap .u64 x1)) 64)))) * 4294967296) + IntKind.wrap .u64 (BitVec.toNat (BitVec.ofInt 64 (IntKind.wrap .u64 (lo * 2 ^ (min (Int.toNat (IntKind.wrap .u64 x1)) 64))) &&& (BitVec.ofInt 64 4294967295)) : Int)) - IntKind.wrap .u64 (IntKind.wrap .u64 (x4 - 1) * IntKind.wrap .u64 (y * 2 ^ (min (Int.toNat (IntKind.wrap .u64 x1)) 64))))) (2 ^ (min (Int.toNat (IntKind.wrap .u64 x1)) 64))))]) []) else I1 (IntKind.wrap .u64 (x3 + Int.fdiv (IntKind.wrap .u64 (y * 2 ^ (min (Int.toNat (IntKind.wrap .u64 x1)) 64))) (2 ^ (32)))) (IntKind.wrap .u64 (x4 - 1)) ∧ f1 (IntKind.wrap .u64 (x3 + Int.fdiv (IntKind.wrap .u64 (y * 2 ^ (min (Int.toNat (IntKind.wrap .u64 x1)) 64))) (2 ^ (32)))) (IntKind.wrap .u64 (x4 - 1)) < f1 x3 x4) else 0 ≤ IntKind.wrap .u64 x1 ∧ (Q (.t [.u (.i .u64 (IntKind.wrap .u64 (IntKind.wrap .u64 (x2 * 4294967296) + x4))), .u (.i .u64 (Int.fdiv (IntKind.wrap .u64 (IntKind.wrap .u64 (IntKind.wrap .u64 (IntKind.wrap .u64 (IntKind.wrap .u64 (IntKind.wrap .u64 (IntKind.wrap .u64 (BitVec.toNat (BitVec.ofInt 64 (IntKind.wrap .u64 (hi * 2 ^ (min (Int.toNat (IntKind.wrap .u64 x1)) 64))) ||| (BitVec.ofInt 64 (Int.fdiv lo (2 ^ (min (Int.toNat (IntKind.wrap .u64 (64 - IntKind.wrap .u64 x1))) 64))))) : Int) * 4294967296) + Int.fdiv (IntKind.wrap .u64 (lo * 2 ^ (min (Int.toNat (IntKind.wrap .u64 x1)) 64))) (2 ^ (32))) - IntKind.wrap .u64 (x2 * IntKind.wrap .u64 (y * 2 ^ (min (Int.toNat (IntKind.wrap .u64 x1)) 64)))) * 4294967296) + IntKind.wrap .u64 (BitVec.toNat (BitVec.ofInt 64 (IntKind.wrap .u64 (lo * 2 ^ (min (Int.toNat (IntKind.wrap .u64 x1)) 64))) &&& (BitVec.ofInt 64 4294967295)) : Int)) - IntKind.wrap .u64 (x4 * IntKind.wrap .u64 (y * 2 ^ (min (Int.toNat (IntKind.wrap .u64 x1)) 64))))) (2 ^ (min (Int.toNat (IntKind.wrap .u64 x1)) 64))))]) [])))))) → k1 x2) → ∃ (I2 : Int → Int → Prop) (f2 : Int → Int → Nat), I2 (IntKind.wrap .u64 (Int.tdiv (IntKind.wrap .u64 (BitVec.toNat (BitVec.ofInt 64 (IntKind.wrap .u64 (hi * 2 ^ (min (Int.toNat (IntKind.wrap .u64 x1)) 64))) ||| (BitVec.ofInt 64 (Int.fdiv lo (2 ^ (min (Int.toNat (IntKind.wrap .u64 (64 - IntKind.wrap .u64 x1))) 64))))) : Int)) (Int.fdiv (IntKind.wrap .u64 (y * 2 ^ (min (Int.toNat (IntKind.wrap .u64 x1)) 64))) (2 ^ (32))))) (IntKind.wrap .u64 (IntKind.wrap .u64 (BitVec.toNat (BitVec.ofInt 64 (IntKind.wrap .u64 (hi * 2 ^ (min (Int.toNat (IntKind.wrap .u64 x1)) 64))) ||| (BitVec.ofInt 64 (Int.fdiv lo (2 ^ (min (Int.toNat (IntKind.wrap .u64 (64 - IntKind.wrap .u64 x1))) 64))))) : Int) - IntKind.wrap .u64 (IntKind.wrap .u64 (Int.tdiv (IntKind.wrap .u64 (BitVec.toNat (BitVec.ofInt 64 (IntKind.wrap .u64 (hi * 2 ^ (min (Int.toNat (IntKind.wrap .u64 x1)) 64))) ||| (BitVec.ofInt 64 (Int.fdiv lo (2 ^ (min (Int.toNat (IntKind.wrap .u64 (64 - IntKind.wrap .u64 x1))) 64))))) : Int)) (Int.fdiv (IntKind.wrap .u64 (y * 2 ^ (min (Int.toNat (IntKind.wrap .u64 x1)) 64))) (2 ^ (32)))) * Int.fdiv (IntKind.wrap .u64 (y * 2 ^ (min (Int.toNat (IntKind.wrap .u64 x1)) 64))) (2 ^ (32))))) ∧ (∀ x5 : Int, ∀ x6 : Int, I2 x5 x6 → (bif decide (x5 ≥ 4294967296) then (bif decide (IntKind.wrap .u64 (x6 + Int.fdiv (IntKind.wrap .u64 (y * 2 ^ (min (Int.toNat (IntKind.wrap .u64 x1)) 64))) (2 ^ (32))) ≥ 4294967296) then k1 (IntKind.wrap .u64 (x5 - 1)) else I2 (IntKind.wrap .u64 (x5 - 1)) (IntKind.wrap .u64 (x6 + Int.fdiv (IntKind.wrap .u64 (y * 2 ^ (min (Int.toNat (IntKind.wrap .u64 x1)) 64))) (2 ^ (32)))) ∧ f2 (IntKind.wrap .u64 (x5 - 1)) (IntKind.wrap .u64 (x6 + Int.fdiv (IntKind.wrap .u64 (y * 2 ^ (min (Int.toNat (IntKind.wrap .u64 x1)) 64))) (2 ^ (32)))) < f2 x5 x6) else (bif decide (IntKind.wrap .u64 (x5 * IntKind.wrap .u64 (BitVec.toNat (BitVec.ofInt 64 (IntKind.wrap .u64 (y * 2 ^ (min (Int.toNat (IntKind.wrap .u64 x1)) 64))) &&& (BitVec.ofInt 64 4294967295)) : Int)) > IntKind.wrap .u64 (IntKind.wrap .u64 (4294967296 * x6) + Int.fdiv (IntKind.wrap .u64 (lo * 2 ^ (min (Int.toNat (IntKind.wrap .u64 x1)) 64))) (2 ^ (32)))) then (bif decide (IntKind.wrap .u64 (x6 + Int.fdiv (IntKind.wrap .u64 (y * 2 ^ (min (Int.toNat (IntKind.wrap .u64 x1)) 64))) (2 ^ (32))) ≥ 4294967296) then k1 (IntKind.wrap .u64 (x5 - 1)) else I2 (IntKind.wrap .u64 (x5 - 1)) (IntKind.wrap .u64 (x6 + Int.fdiv (IntKind.wrap .u64 (y * 2 ^ (min (Int.toNat (IntKind.wrap .u64 x1)) 64))) (2 ^ (32)))) ∧ f2 (IntKind.wrap .u64 (x5 - 1)) (IntKind.wrap .u64 (x6 + Int.fdiv (IntKind.wrap .u64 (y * 2 ^ (min (Int.toNat (IntKind.wrap .u64 x1)) 64))) (2 ^ (32)))) < f2 x5 x6) else k1 x5)))))))))) : Prop)))))) : PRun Try.prog 73 [] [.u (.i .u64 hi), .u (.i .u64 lo), .u (.i .u64 y)] Q :=
  funS2 mixTb Try.func73 (by kernel_rfl) (H := ⟨[((73, 17, 0), ⟨[(15, .one (.i .u64)), (16, .one (.i .u64))], []⟩), ((73, 24, 0), ⟨[(16, .one (.i .u64)), (18, .one (.i .u64))], []⟩)], [((73, 21, 0), ⟨[(15, .one (.i .u64))], []⟩)], [], [], [], false, 64⟩) (n := 2) (by kernel_rfl) hh

/- math/bits.LeadingZeros64 -/
theorem S89 {x : Int} {Q : V → Mem → Prop} (hh : PRun Try.prog 68 [] [.u (.i .u64 x)] (post [.I] [] (fun x1 => (Q (.i (IntKind.wrap .i64 (64 - x1))) [] : Prop)))) : PRun Try.prog 89 [] [.u (.i .u64 x)] Q :=
  funS2 mixTb Try.func89 (by kernel_rfl) (H := ⟨[], [], [], [], [], false, 64⟩) (n := 2) (by kernel_rfl) hh

/- math/bits.Len64 -/
theorem S68 {x : Int} {Q : V → Mem → Prop} (hh : ∀ k1 : Int → Int → Prop, (∀ x1 : Int, ∀ x2 : Int, (∀ k2 : Int → Int → Prop, (∀ x3 : Int, ∀ x4 : Int, (∀ k3 : Int → Int → Prop, (∀ x5 : Int, ∀ x6 : Int, (0 ≤ IntKind.wrap .u8 x5 ∧ IntKind.wrap .u8 x5 < (ByteArray.size (ByteArray.mk #[0, 1, 2, 2, 3, 3, 3, 3, 4, 4, 4, 4, 4, 4, 4, 4, 5, 5, 5, 5, 5, 5, 5, 5, 5, 5, 5, 5, 5, 5, 5, 5, 6, 6, 6, 6, 6, 6, 6, 6, 6, 6, 6, 6, 6, 6, 6, 6, 6, 6, 6, 6, 6, 6, 6, 6, 6, 6, 6, 6, 6, 6, 6, 6, 7, 7, 7, 7, 7, 7, 7, 7, 7, 7, 7, 7, 7, 7, 7, 7, 7, 7, 7, 7, 7, 7, 7, 7, 7, 7, 7, 7, 7, 7, 7, 7, 7, 7, 7, 7, 7, 7, 7, 7, 7, 7, 7, 7, 7, 7, 7, 7, 7, 7, 7, 7, 7, 7, 7, 7, 7, 7, 7, 7, 7, 7, 7, 7, 8, 8, 8, 8, 8, 8, 8, 8, 8, 8, 8, 8, 8, 8, 8, 8, 8, 8, 8, 8, 8, 8, 8, 8, 8, 8, 8, 8, 8, 8, 8, 8, 8, 8, 8, 8, 8, 8, 8, 8, 8, 8, 8, 8, 8, 8, 8, 8, 8, 8, 8, 8, 8, 8, 8, 8, 8, 8, 8, 8, 8, 8, 8, 8, 8, 8, 8, 8, 8, 8, 8, 8, 8, 8, 8, 8, 8, 8, 8, 8, 8, 8, 8, 8, 8, 8, 8, 8, 8, 8, 8, 8, 8, 8, 8, 8, 8, 8, 8, 8, 8, 8, 8, 8, 8, 8, 8, 8, 8, 8, 8, 8, 8, 8, 8, 8, 8, 8, 8, 8, 8, 8, 8, 8, 8, 8, 8, 8]) : Int) ∧ (Q (.i (IntKind.wrap .i64 (x6 + IntKind.wrap .i64 (UInt8.toNat (Array.getD (ByteArray.mk #[0, 1, 2, 2, 3, 3, 3, 3, 4, 4, 4, 4, 4, 4, 4, 4, 5, 5, 5, 5, 5, 5, 5, 5, 5, 5, 5, 5, 5, 5, 5, 5, 6, 6, 6, 6, 6, 6, 6, 6, 6, 6, 6, 6, 6, 6, 6, 6, 6, 6, 6, 6, 6, 6, 6, 6, 6, 6, 6, 6, 6, 6, 6, 6, 7, 7, 7, 7, 7, 7, 7, 7, 7, 7, 7, 7, 7, 7, 7, 7, 7, 7, 7, 7, 7, 7, 7, 7, 7, 7, 7, 7, 7, 7, 7, 7, 7, 7, 7, 7, 7, 7, 7, 7, 7, 7, 7, 7, 7, 7, 7, 7, 7, 7, 7, 7, 7, 7, 7, 7, 7, 7, 7, 7, 7, 7, 7, 7, 8, 8, 8, 8, 8, 8, 8, 8, 8, 8, 8, 8, 8, 8, 8, 8, 8, 8, 8, 8, 8, 8, 8, 8, 8, 8, 8, 8, 8, 8, 8, 8, 8, 8, 8, 8, 8, 8, 8, 8, 8, 8, 8, 8, 8, 8, 8, 8, 8, 8, 8, 8, 8, 8, 8, 8, 8, 8, 8, 8, 8, 8, 8, 8, 8, 8, 8, 8, 8, 8, 8, 8, 8, 8, 8, 8, 8, 8, 8, 8, 8, 8, 8, 8, 8, 8, 8, 8, 8, 8, 8, 8, 8, 8, 8, 8, 8, 8, 8, 8, 8, 8, 8, 8, 8, 8, 8, 8, 8, 8, 8, 8, 8, 8, 8, 8, 8, 8, 8, 8, 8, 8, 8, 8, 8, 8, 8, 8]).data (Int.toNat (IntKind.wrap .u8 x5)) 0) : Int)))) [])) → k3 x5 x6) → (bif decide (x3 ≥ 256) then 0 ≤ (8 : Int) ∧ (k3 (Int.fdiv x3 (2 ^ (8))) (IntKind.wrap .i64 (x4 + 8))) else k3 x3 x4)) → k2 x3 x4) → (bif decide (x1 ≥ 65536) then 0 ≤ (16 : Int) ∧ (k2 (Int.fdiv x1 (2 ^ (16))) (IntKind.wrap .i64 (x2 + 16))) else k2 x1 x2)) → k1 x1 x2) → (bif decide (x ≥ 4294967296) then 0 ≤ (32 : Int) ∧ (k1 (Int.fdiv x (2 ^ (32))) 32) else k1 x 0)) : PRun Try.prog 68 [] [.u (.i .u64 x)] Q :=
  funS2 mixTb Try.func68 (by kernel_rfl) (H := ⟨[], [((68, 4, 0), ⟨[(0, .one (.i .u64)), (2, .I)], []⟩), ((68, 7, 0), ⟨[(0, .one (.i .u64)), (2, .I)], []⟩), ((68, 10, 0), ⟨[(0, .one (.i .u64)), (2, .I)], []⟩)], [], [], [], false, 64⟩) (n := 2) (by kernel_rfl) hh

end Go.Proofs.Ytljgfkiiikcaaaa

/- Library: math/bits: Len64, LeadingZeros64, Div64, by the symbolic engine. -/
set_option linter.unusedVariables false
namespace Go.Proofs.Ytljgfkiiikcaaaa
open Go Go.Proofs

/- ## Plain -/
theorem fdiv_nat (a b : Nat) : Int.fdiv (a : Int) (b : Int) = ((a / b : Nat) : Int) := by
  rw [Int.fdiv_eq_ediv_of_nonneg _ (Int.natCast_nonneg b)]; rfl
theorem tdiv_nat (a b : Nat) : Int.tdiv (a : Int) (b : Int) = ((a / b : Nat) : Int) := by
  rw [Int.tdiv_eq_ediv_of_nonneg (Int.natCast_nonneg a)]; rfl
theorem u64_id {x : Int} (h : 0 ≤ x) (h2 : x < 18446744073709551616) : IntKind.wrap .u64 x = x := by rw [IntKind.wrap_u64]; omega
theorem or_sum (a b s : Nat) (hb : b < 2 ^ s) : a * 2 ^ s ||| b = a * 2 ^ s + b := by
  have := Nat.shiftLeft_add_eq_or_of_lt hb a
  rw [Nat.shiftLeft_eq] at this
  exact this.symm
theorem bv_or (a b s : Nat) (hb : b < 2 ^ s) (h : a * 2 ^ s + b < 18446744073709551616) : ((BitVec.toNat (BitVec.ofInt 64 ((a * 2 ^ s : Nat) : Int) ||| (BitVec.ofInt 64 (b : Int))) : Nat) : Int) = ((a * 2 ^ s + b : Nat) : Int) := by
  rw [BitVec.toNat_or, BitVec.toNat_ofInt, BitVec.toNat_ofInt]
  have e1 : (((a * 2 ^ s : Nat) : Int) % ((2 ^ 64 : Nat) : Int)).toNat = a * 2 ^ s := by
    rw [← Int.natCast_emod, Int.toNat_natCast, Nat.mod_eq_of_lt (by omega)]
  have e2 : ((b : Int) % ((2 ^ 64 : Nat) : Int)).toNat = b := by
    rw [← Int.natCast_emod, Int.toNat_natCast, Nat.mod_eq_of_lt (by omega)]
  rw [e1, e2, or_sum _ _ _ hb]
theorem bv_mask (a : Nat) (h : a < 18446744073709551616) : ((BitVec.toNat (BitVec.ofInt 64 (a : Int) &&& (BitVec.ofInt 64 4294967295)) : Nat) : Int) = ((a % 4294967296 : Nat) : Int) := by
  rw [BitVec.toNat_and, BitVec.toNat_ofInt, BitVec.toNat_ofInt]
  have e1 : ((a : Int) % ((2 ^ 64 : Nat) : Int)).toNat = a := by
    rw [← Int.natCast_emod, Int.toNat_natCast, Nat.mod_eq_of_lt (by omega)]
  rw [e1]
  exact congrArg Nat.cast (Nat.and_two_pow_sub_one_eq_mod a 32)

/- ## One step of a division by two halves -/
structure DInv (Y1 Y0 u d q r : Int) : Prop where
  e : r = u - q * Y1
  r0 : 0 ≤ r
  rb : r < 4294967296
  q0 : 0 ≤ q
  qb : q ≤ 4294967297
  up : u * 4294967296 + d < q * Y1 * 4294967296 + q * Y0 + Y1 * 4294967296 + Y0
structure DFin (Y1 Y0 u d q : Int) : Prop where
  q0 : 0 ≤ q
  qb : q < 4294967296
  lo : q * Y1 * 4294967296 + q * Y0 ≤ u * 4294967296 + d
  up : u * 4294967296 + d < q * Y1 * 4294967296 + q * Y0 + Y1 * 4294967296 + Y0
structure DSet (Y1 Y0 u d : Int) : Prop where
  u0 : 0 ≤ u
  uY : u < Y1 * 4294967296 + Y0
  y1 : 2147483648 ≤ Y1
  y1b : Y1 < 4294967296
  y0 : 0 ≤ Y0
  y0b : Y0 < 4294967296
  d0 : 0 ≤ d
  db : d < 4294967296
theorem DSet.init {Y1 Y0 u d : Int} (s : DSet Y1 Y0 u d) : DInv Y1 Y0 u d (u / Y1) (u - (u / Y1) * Y1) := by
  obtain ⟨h1, h2, h3, h4, h5, h6, h7, h8⟩ := s
  have e := Int.mul_ediv_add_emod u Y1
  have m0 := Int.emod_nonneg u (show Y1 ≠ 0 by omega)
  have m1 := Int.emod_lt_of_pos u (show 0 < Y1 by omega)
  have q0 : 0 ≤ u / Y1 := Int.ediv_nonneg h1 (by omega)
  generalize u / Y1 = q at *
  generalize u % Y1 = r at *
  rw [Int.mul_comm] at e
  have p0 : 0 ≤ q * Y0 := Int.mul_nonneg q0 h5
  have qb : q ≤ 4294967297 := by
    refine Int.not_lt.1 fun hq => ?_
    have := Int.mul_le_mul_of_nonneg_right (show (4294967298 : Int) ≤ q by omega) (show 0 ≤ Y1 by omega)
    omega
  exact ⟨rfl, by omega, by omega, q0, qb, by omega⟩
theorem DInv.less {Y1 Y0 u d q r : Int} (s : DSet Y1 Y0 u d) (i : DInv Y1 Y0 u d q r) (hc : 4294967296 ≤ q ∨ 4294967296 * r + d < q * Y0) :
    1 ≤ q ∧ u * 4294967296 + d < q * Y1 * 4294967296 + q * Y0 := by
  obtain ⟨h1, h2, h3, h4, h5, h6, h7, h8⟩ := s
  obtain ⟨e, r0, rb, q0, qb, up⟩ := i
  have main : u * 4294967296 + d < q * Y1 * 4294967296 + q * Y0 := by
    rcases hc with hc | hc
    · have a1 := Int.mul_le_mul_of_nonneg_right hc (show 0 ≤ Y1 by omega)
      have a2 := Int.mul_le_mul_of_nonneg_right hc h5
      omega
    · omega
  refine ⟨?_, main⟩
  refine Int.not_lt.1 fun hq => ?_
  have hq0 : q = 0 := by omega
  subst hq0
  omega
theorem DInv.next {Y1 Y0 u d q r : Int} (s : DSet Y1 Y0 u d) (i : DInv Y1 Y0 u d q r) (hc : 4294967296 ≤ q ∨ 4294967296 * r + d < q * Y0) (hr : r + Y1 < 4294967296) : DInv Y1 Y0 u d (q - 1) (r + Y1) := by
  obtain ⟨a, b⟩ := i.less s hc
  obtain ⟨h1, h2, h3, h4, h5, h6, h7, h8⟩ := s
  obtain ⟨e, r0, rb, q0, qb, up⟩ := i
  have e1 : (q - 1) * Y1 = q * Y1 - Y1 := by rw [Int.sub_mul, Int.one_mul]
  have e0 : (q - 1) * Y0 = q * Y0 - Y0 := by rw [Int.sub_mul, Int.one_mul]
  exact ⟨by omega, by omega, by omega, by omega, by omega, by omega⟩
theorem DFin.qlt {Y1 Y0 u d q : Int} (s : DSet Y1 Y0 u d) (lo : q * Y1 * 4294967296 + q * Y0 ≤ u * 4294967296 + d) : q < 4294967296 := by
  obtain ⟨h1, h2, h3, h4, h5, h6, h7, h8⟩ := s
  apply Int.lt_of_not_ge; intro hq
  have a1 := Int.mul_le_mul_of_nonneg_right hq (show 0 ≤ Y1 by omega)
  have a2 := Int.mul_le_mul_of_nonneg_right hq h5
  omega
theorem DInv.stop {Y1 Y0 u d q r : Int} (s : DSet Y1 Y0 u d) (i : DInv Y1 Y0 u d q r) (hc : 4294967296 ≤ q ∨ 4294967296 * r + d < q * Y0) (hr : 4294967296 ≤ r + Y1) : DFin Y1 Y0 u d (q - 1) := by
  obtain ⟨a, b⟩ := i.less s hc
  have s' := s
  obtain ⟨h1, h2, h3, h4, h5, h6, h7, h8⟩ := s
  obtain ⟨e, r0, rb, q0, qb, up⟩ := i
  have e1 : (q - 1) * Y1 = q * Y1 - Y1 := by rw [Int.sub_mul, Int.one_mul]
  have e0 : (q - 1) * Y0 = q * Y0 - Y0 := by rw [Int.sub_mul, Int.one_mul]
  have a2 := Int.mul_le_mul_of_nonneg_right (show q - 1 ≤ 4294967296 by omega) h5
  have lo : (q - 1) * Y1 * 4294967296 + (q - 1) * Y0 ≤ u * 4294967296 + d := by omega
  exact ⟨by omega, DFin.qlt s' lo, lo, by omega⟩
theorem DInv.fin {Y1 Y0 u d q r : Int} (s : DSet Y1 Y0 u d) (i : DInv Y1 Y0 u d q r) (hq : q < 4294967296) (hc : q * Y0 ≤ 4294967296 * r + d) : DFin Y1 Y0 u d q :=
  ⟨i.q0, hq, by have := i.e; omega, i.up⟩

/- ## Len64 -/
def tab8 : ByteArray := ByteArray.mk #[0, 1, 2, 2, 3, 3, 3, 3, 4, 4, 4, 4, 4, 4, 4, 4, 5, 5, 5, 5, 5, 5, 5, 5, 5, 5, 5, 5, 5, 5, 5, 5, 6, 6, 6, 6, 6, 6, 6, 6, 6, 6, 6, 6, 6, 6, 6, 6, 6, 6, 6, 6, 6, 6, 6, 6, 6, 6, 6, 6, 6, 6, 6, 6, 7, 7, 7, 7, 7, 7, 7, 7, 7, 7, 7, 7, 7, 7, 7, 7, 7, 7, 7, 7, 7, 7, 7, 7, 7, 7, 7, 7, 7, 7, 7, 7, 7, 7, 7, 7, 7, 7, 7, 7, 7, 7, 7, 7, 7, 7, 7, 7, 7, 7, 7, 7, 7, 7, 7, 7, 7, 7, 7, 7, 7, 7, 7, 7, 8, 8, 8, 8, 8, 8, 8, 8, 8, 8, 8, 8, 8, 8, 8, 8, 8, 8, 8, 8, 8, 8, 8, 8, 8, 8, 8, 8, 8, 8, 8, 8, 8, 8, 8, 8, 8, 8, 8, 8, 8, 8, 8, 8, 8, 8, 8, 8, 8, 8, 8, 8, 8, 8, 8, 8, 8, 8, 8, 8, 8, 8, 8, 8, 8, 8, 8, 8, 8, 8, 8, 8, 8, 8, 8, 8, 8, 8, 8, 8, 8, 8, 8, 8, 8, 8, 8, 8, 8, 8, 8, 8, 8, 8, 8, 8, 8, 8, 8, 8, 8, 8, 8, 8, 8, 8, 8, 8, 8, 8, 8, 8, 8, 8, 8, 8, 8, 8, 8, 8, 8, 8, 8, 8, 8, 8, 8, 8]
theorem tab8_spec : ∀ n : Fin 256, 1 ≤ n.1 → 1 ≤ (Array.getD tab8.data n.1 0).toNat ∧ (Array.getD tab8.data n.1 0).toNat ≤ 8 ∧ 2 ^ ((Array.getD tab8.data n.1 0).toNat - 1) ≤ n.1 ∧ n.1 < 2 ^ (Array.getD tab8.data n.1 0).toNat := by decide +kernel
theorem tab8_size : tab8.size = 256 := by decide +kernel
theorem div_range {x m y : Nat} (h : x / 2 ^ m = y) {L : Nat} (h1 : 2 ^ (L - 1) ≤ y) (h2 : y < 2 ^ L) (hL : 1 ≤ L) : 2 ^ (m + L - 1) ≤ x ∧ x < 2 ^ (m + L) := by
  have hp := Nat.two_pow_pos m
  subst h
  constructor
  · rw [show m + L - 1 = (L - 1) + m by omega, Nat.pow_add]
    exact (Nat.le_div_iff_mul_le hp).1 h1
  · rw [Nat.add_comm, Nat.pow_add]
    exact (Nat.div_lt_iff_lt_mul hp).1 h2
theorem len64_S {x : Nat} (hx : x < 18446744073709551616) (h1 : 1 ≤ x) {R : V → Mem → Prop}
    (k : ∀ n : Nat, 1 ≤ n → n ≤ 64 → 2 ^ (n - 1) ≤ x → x < 2 ^ n → R (.i (n : Int)) []) : PRun Try.prog 68 [] [.u (.i .u64 (x : Int))] R := by
  refine S68 ?_
  intro k1 hk1
  have H1 : ∀ (m y : Nat), x / 2 ^ m = y → 1 ≤ y → y < 4294967296 → m ≤ 32 → k1 (y : Int) (m : Int) := by
    intro m y hy y1 yb hm
    refine hk1 _ _ fun k2 hk2 => ?_
    have H2 : ∀ (m y : Nat), x / 2 ^ m = y → 1 ≤ y → y < 65536 → m ≤ 48 → k2 (y : Int) (m : Int) := by
      intro m y hy y1 yb hm
      refine hk2 _ _ fun k3 hk3 => ?_
      have H3 : ∀ (m y : Nat), x / 2 ^ m = y → 1 ≤ y → y < 256 → m ≤ 56 → k3 (y : Int) (m : Int) := by
        intro m y hy y1 yb hm
        refine hk3 _ _ ?_
        have ey : IntKind.wrap .u8 (y : Int) = (y : Int) := by
          simp [IntKind.wrap, IntKind.bits, IntKind.signed]; omega
        obtain ⟨t1, t2, t3, t4⟩ := tab8_spec ⟨y, yb⟩ y1
        change 0 ≤ IntKind.wrap .u8 (y : Int) ∧ IntKind.wrap .u8 (y : Int) < ((ByteArray.size tab8 : Nat) : Int) ∧ R (.i (IntKind.wrap .i64 ((m : Int) + IntKind.wrap .i64 (((Array.getD tab8.data (Int.toNat (IntKind.wrap .u8 (y : Int))) 0).toNat : Nat) : Int)))) []
        rw [ey, Int.toNat_natCast]
        generalize (Array.getD tab8.data y 0).toNat = L at *
        refine ⟨by omega, by rw [tab8_size]; omega, ?_⟩
        rw [w64 (x := (L : Int)) (by omega) (by omega), w64 (by omega) (by omega), ← Int.natCast_add]
        obtain ⟨r1, r2⟩ := div_range hy t3 t4 t1
        exact k _ (by omega) (by omega) r1 r2
      refine cIf (fun hc => ?_) fun hc => H3 m y hy y1 (by omega) (by omega)
      refine ⟨by decide, ?_⟩
      rw [show (2 : Int) ^ 8 = ((256 : Nat) : Int) from rfl, fdiv_nat, w64 (by omega) (by omega), show (m : Int) + 8 = ((m + 8 : Nat) : Int) by omega]
      exact H3 _ _ (by rw [Nat.pow_add, ← Nat.div_div_eq_div_mul, hy]) (by omega) (by omega) (by omega)
    refine cIf (fun hc => ?_) fun hc => H2 m y hy y1 (by omega) (by omega)
    refine ⟨by decide, ?_⟩
    rw [show (2 : Int) ^ 16 = ((65536 : Nat) : Int) from rfl, fdiv_nat, w64 (by omega) (by omega), show (m : Int) + 16 = ((m + 16 : Nat) : Int) by omega]
    exact H2 _ _ (by rw [Nat.pow_add, ← Nat.div_div_eq_div_mul, hy]) (by omega) (by omega) (by omega)
  refine cIf (fun hc => ?_) fun hc => H1 0 x (by simp) h1 (by omega) (by omega)
  refine ⟨by decide, ?_⟩
  rw [show (2 : Int) ^ 32 = ((4294967296 : Nat) : Int) from rfl, fdiv_nat]
  exact H1 32 _ rfl (by omega) (by omega) (by omega)
theorem lead64_S {x : Nat} (hx : x < 18446744073709551616) (h1 : 1 ≤ x) {R : V → Mem → Prop}
    (k : ∀ s : Nat, s ≤ 63 → 9223372036854775808 ≤ x * 2 ^ s → x * 2 ^ s < 18446744073709551616 → R (.i (s : Int)) []) : PRun Try.prog 89 [] [.u (.i .u64 (x : Int))] R := by
  refine S89 ?_
  refine len64_S hx h1 fun n n1 n2 a b => ?_
  rw [post_I, w64 (by omega) (by omega), show 64 - (n : Int) = ((64 - n : Nat) : Int) by omega]
  have hp := Nat.two_pow_pos (64 - n)
  refine k _ (by omega) ?_ ?_
  · have := Nat.mul_le_mul_right (2 ^ (64 - n)) a
    rw [← Nat.pow_add, show n - 1 + (64 - n) = 63 by omega] at this
    exact this
  · have := Nat.mul_lt_mul_of_pos_right b hp
    rw [← Nat.pow_add, show n + (64 - n) = 64 by omega] at this
    exact this
theorem div64_shift {hi lo y s : Nat} (hs : s ≤ 63) (hlo : lo < 18446744073709551616) (hh : hi < y) (b : y * 2 ^ s < 18446744073709551616) :
    ∃ c L : Nat, lo / 2 ^ (64 - s) = c ∧ c < 2 ^ s ∧ lo * 2 ^ s % 18446744073709551616 = L ∧ hi * 2 ^ s + c < y * 2 ^ s ∧ (hi * 2 ^ s + c) * 18446744073709551616 + L = (hi * 18446744073709551616 + lo) * 2 ^ s := by
  refine ⟨_, _, rfl, ?_, rfl, ?_, ?_⟩
  all_goals have hp := Nat.two_pow_pos s
  all_goals have e64 : 2 ^ (64 - s) * 2 ^ s = 18446744073709551616 := by rw [← Nat.pow_add, show 64 - s + s = 64 by omega]
  all_goals have hc : lo / 2 ^ (64 - s) < 2 ^ s := Nat.div_lt_of_lt_mul (by rw [e64]; exact hlo)
  · exact hc
  · have := Nat.mul_le_mul_right (2 ^ s) (show hi + 1 ≤ y by omega)
    rw [Nat.succ_mul] at this
    omega
  · have e1 : lo / 2 ^ (64 - s) = lo * 2 ^ s / 18446744073709551616 := by rw [← e64, Nat.mul_div_mul_right _ _ hp]
    have e2 := Nat.div_add_mod (lo * 2 ^ s) 18446744073709551616
    rw [e1, Nat.add_mul, Nat.add_mul (hi * 18446744073709551616), Nat.mul_right_comm hi 18446744073709551616]
    omega

theorem wsub {X p r : Int} (h : X - p = r) (h0 : 0 ≤ r) (h1 : r < 18446744073709551616) {A P : Int} (hA : A % 18446744073709551616 = X % 18446744073709551616) (hP : P % 18446744073709551616 = p % 18446744073709551616) : IntKind.wrap .u64 (A - P) = r := by
  rw [IntKind.wrap_u64, Int.sub_emod, hA, hP, ← Int.sub_emod, h]; omega

set_option maxRecDepth 20000 in
theorem div64_S {hi lo y : Nat} (hy : y < 18446744073709551616) (hlo : lo < 18446744073709551616) (hh : hi < y) {R : V → Mem → Prop}
    (k : ∀ Q r : Nat, Q < 18446744073709551616 → r < y → Q * y + r = hi * 18446744073709551616 + lo → R (.t [.u (.i .u64 (Q : Int)), .u (.i .u64 (r : Int))]) []) :
    PRun Try.prog 73 [] [.u (.i .u64 (hi : Int)), .u (.i .u64 (lo : Int)), .u (.i .u64 (y : Int))] R := by
  refine S73 ?_
  refine cB (fun e => by simp at e; omega) (fun _ => ?_)
  refine cIf (fun hc => by omega) (fun _ => ?_)
  refine cB (fun e => ?_) (fun _ => ?_)
  · have e0 : hi = 0 := by simpa using e
    subst e0
    refine ⟨by omega, by omega, ?_⟩
    rw [tdiv_nat, u64_id (Int.natCast_nonneg _) (Int.ofNat_lt.2 (Nat.lt_of_le_of_lt (Nat.div_le_self lo y) hlo))]
    have := k (lo / y) (lo % y) (by have := Nat.div_le_self lo y; omega) (Nat.mod_lt _ hh) (by rw [Nat.mul_comm, Nat.div_add_mod]; omega)
    rw [Int.natCast_emod] at this
    rw [Int.tmod_eq_emod_of_nonneg (by omega)]
    exact this
  refine lead64_S hy (by omega) fun s hs a b => ?_
  rw [post_I]
  obtain ⟨c, L, ec, hc, eL, hU, eN⟩ := div64_shift hs hlo hh b
  have es : IntKind.wrap .u64 (s : Int) = (s : Int) := u64_id (by omega) (by omega)
  have em : min (Int.toNat (s : Int)) 64 = s := by omega
  have es2 : IntKind.wrap .u64 (64 - (s : Int)) = ((64 - s : Nat) : Int) := by rw [u64_id (by omega) (by omega)]; omega
  have em2 : min (Int.toNat ((64 - s : Nat) : Int)) 64 = 64 - s := by omega
  have eY : (y : Int) * 2 ^ s = ((y * 2 ^ s : Nat) : Int) := by push_cast; rfl
  have eY2 : IntKind.wrap .u64 ((y * 2 ^ s : Nat) : Int) = ((y * 2 ^ s : Nat) : Int) := u64_id (by omega) (by omega)
  have eH : (hi : Int) * 2 ^ s = ((hi * 2 ^ s : Nat) : Int) := by push_cast; rfl
  have eH2 : IntKind.wrap .u64 ((hi * 2 ^ s : Nat) : Int) = ((hi * 2 ^ s : Nat) : Int) := u64_id (by omega) (by omega)
  have eC : Int.fdiv (lo : Int) (2 ^ (64 - s)) = (c : Int) := by
    have := fdiv_nat lo (2 ^ (64 - s)); rw [ec] at this; rw [← this]; push_cast; rfl
  have eO := bv_or hi c s hc (by omega)
  have eO2 : IntKind.wrap .u64 ((hi * 2 ^ s + c : Nat) : Int) = ((hi * 2 ^ s + c : Nat) : Int) := u64_id (by omega) (by omega)
  have eL2 : IntKind.wrap .u64 ((lo : Int) * 2 ^ s) = (L : Int) := by
    rw [IntKind.wrap_u64, ← eL, Int.natCast_emod, Int.natCast_mul, Int.natCast_pow]; rfl
  have hL : L < 18446744073709551616 := by omega
  have ek : ∀ x : Nat, Int.fdiv (x : Int) (2 ^ 32) = ((x / 4294967296 : Nat) : Int) := fun x => fdiv_nat x 4294967296
  simp only [es, em, es2, em2, eY, eY2, eH, eH2, eC, eO, eO2, eL2, ek]
  have hY := b
  have eY1 := bv_mask (y * 2 ^ s) b
  have eL1 := bv_mask L hL
  have eY3 : IntKind.wrap .u64 ((y * 2 ^ s % 4294967296 : Nat) : Int) = ((y * 2 ^ s % 4294967296 : Nat) : Int) := u64_id (by omega) (by omega)
  have eL3 : IntKind.wrap .u64 ((L % 4294967296 : Nat) : Int) = ((L % 4294967296 : Nat) : Int) := u64_id (by omega) (by omega)
  simp only [eY1, eL1, eY3, eL3]
  generalize hi * 2 ^ s + c = U at *
  generalize eYY : y * 2 ^ s = Y at *
  have fY1 : (Y : Int) = ((Y / 4294967296 : Nat) : Int) * 4294967296 + ((Y % 4294967296 : Nat) : Int) := by omega
  have fL1 : (L : Int) = ((L / 4294967296 : Nat) : Int) * 4294967296 + ((L % 4294967296 : Nat) : Int) := by omega
  have fY2 : (2147483648 : Int) ≤ ((Y / 4294967296 : Nat) : Int) := by omega
  have fY3 : ((Y / 4294967296 : Nat) : Int) < 4294967296 := by omega
  have fY4 : (0 : Int) ≤ ((Y % 4294967296 : Nat) : Int) := by omega
  have fY5 : ((Y % 4294967296 : Nat) : Int) < 4294967296 := by omega
  have fL2 : (0 : Int) ≤ ((L / 4294967296 : Nat) : Int) := by omega
  have fL3 : ((L / 4294967296 : Nat) : Int) < 4294967296 := by omega
  have fL4 : (0 : Int) ≤ ((L % 4294967296 : Nat) : Int) := by omega
  have fL5 : ((L % 4294967296 : Nat) : Int) < 4294967296 := by omega
  have eNi : (U : Int) * 18446744073709551616 + L = ((hi : Int) * 18446744073709551616 + lo) * ((2 ^ s : Nat) : Int) := by
    have := congrArg (Nat.cast : Nat → Int) eN
    rw [Int.natCast_add, Int.natCast_mul, Int.natCast_mul, Int.natCast_add, Int.natCast_mul] at this
    exact this
  have eYi : (Y : Int) = (y : Int) * ((2 ^ s : Nat) : Int) := by rw [← eYY]; push_cast; rfl
  have ps : (0 : Int) < ((2 ^ s : Nat) : Int) := Int.natCast_pos.2 (Nat.two_pow_pos s)
  have u0 : (0 : Int) ≤ (U : Int) := Int.natCast_nonneg _
  have uY : (U : Int) < (Y : Int) := Int.ofNat_lt.2 hU
  clear eY1 eL1 eY eYY eN eO eL2 eC eH eH2 em em2 es2 ec hc eL ek a
  have e2s : (2 : Int) ^ s = ((2 ^ s : Nat) : Int) := by push_cast; rfl
  simp only [e2s]
  clear e2s
  have hYb : (Y : Int) < 18446744073709551616 := by omega
  generalize ((2 ^ s : Nat) : Int) = S at *
  generalize ((Y / 4294967296 : Nat) : Int) = Y1 at *
  generalize ((Y % 4294967296 : Nat) : Int) = Y0 at *
  generalize ((L / 4294967296 : Nat) : Int) = L1 at *
  generalize ((L % 4294967296 : Nat) : Int) = L0 at *
  generalize (U : Int) = u at *
  refine ⟨by omega, by decide, by omega, by omega, by omega, by decide, by omega, fun k1 hk1 => ?_⟩
  have qY : ∀ q : Int, q * (Y : Int) = q * Y1 * 4294967296 + q * Y0 := fun q => by rw [fY1, Int.mul_add, Int.mul_assoc]
  have D1 : DSet Y1 Y0 u L1 := ⟨u0, by omega, fY2, fY3, fY4, fY5, fL2, fL3⟩
  have qp : ∀ {q : Int}, 0 ≤ q → q ≤ 4294967297 → 0 ≤ q * Y0 ∧ q * Y0 < 18446744073709551616 := by
    intro q a b
    have h1 := Int.mul_nonneg a fY4
    have h2 := Int.mul_le_mul b (show Y0 ≤ 4294967295 by omega) fY4 (by omega)
    exact ⟨h1, by omega⟩
  have ini : ∀ {v d : Int}, DSet Y1 Y0 v d → IntKind.wrap .u64 (Int.tdiv v Y1) = v / Y1 ∧ IntKind.wrap .u64 (v - IntKind.wrap .u64 (v / Y1 * Y1)) = v - v / Y1 * Y1 := by
    intro v d D
    have I := D.init
    have a := Int.mul_ediv_add_emod v Y1
    have m0 := Int.emod_nonneg v (show Y1 ≠ 0 by omega)
    rw [Int.mul_comm] at a
    have hv := D.u0
    have hv2 := D.uY
    have q0 := I.q0
    have qb := I.qb
    have r0 := I.r0
    have rb := I.rb
    have tq : Int.tdiv v Y1 = v / Y1 := Int.tdiv_eq_ediv_of_nonneg hv
    rw [tq]
    have p0 := Int.mul_nonneg q0 (show 0 ≤ Y1 by omega)
    generalize v / Y1 = q at *
    refine ⟨u64_id q0 (by omega), ?_⟩
    rw [u64_id (x := q * Y1) p0 (by omega)]
    exact u64_id r0 (by omega)
  have H1 : ∀ q : Int, DFin Y1 Y0 u L1 q → k1 q := by
    intro q F
    refine hk1 q ⟨by omega, ?_⟩
    have Flo := F.lo
    have Fup := F.up
    have Fq0 := F.q0
    have Fqb := F.qb
    rw [← qY] at Flo Fup
    obtain ⟨u2, eu2⟩ : ∃ u2 : Int, u2 = u * 4294967296 + L1 - q * (Y : Int) := ⟨_, rfl⟩
    have eu : IntKind.wrap .u64 (IntKind.wrap .u64 (IntKind.wrap .u64 (u * 4294967296) + L1) - IntKind.wrap .u64 (q * (Y : Int))) = u2 :=
      wsub (X := u * 4294967296 + L1) (p := q * (Y : Int)) eu2.symm (by omega) (by omega) (by rw [IntKind.wrap_u64, IntKind.wrap_u64]; omega) (by rw [IntKind.wrap_u64]; omega)
    have D2 : DSet Y1 Y0 u2 L0 := ⟨by omega, by omega, fY2, fY3, fY4, fY5, fL4, fL5⟩
    obtain ⟨i1, i2⟩ := ini D2
    have hfin : ∀ q2 : Int, DFin Y1 Y0 u2 L0 q2 → R (.t [.u (.i .u64 (IntKind.wrap .u64 (IntKind.wrap .u64 (q * 4294967296) + q2))), .u (.i .u64 (Int.fdiv (IntKind.wrap .u64 (IntKind.wrap .u64 (IntKind.wrap .u64 (u2 * 4294967296) + L0) - IntKind.wrap .u64 (q2 * (Y : Int)))) S))]) [] := by
      intro q2 F2
      have Glo := F2.lo
      have Gup := F2.up
      have Gq0 := F2.q0
      have Gqb := F2.qb
      rw [← qY] at Glo Gup
      obtain ⟨r2, er2⟩ : ∃ r2 : Int, r2 = u2 * 4294967296 + L0 - q2 * (Y : Int) := ⟨_, rfl⟩
      rw [wsub (r := r2) (X := u2 * 4294967296 + L0) (p := q2 * (Y : Int)) er2.symm (by omega) (by omega) (by rw [IntKind.wrap_u64, IntKind.wrap_u64]; omega) (by rw [IntKind.wrap_u64]; omega)]
      rw [u64_id (x := q * 4294967296) (by omega) (by omega), u64_id (by omega) (by omega)]
      have er : r2 = ((hi : Int) * 18446744073709551616 + lo - (q * 4294967296 + q2) * y) * S := by
        rw [Int.sub_mul, ← eNi, Int.mul_assoc, ← eYi, Int.add_mul, Int.mul_right_comm q]
        omega
      have hr0 : 0 ≤ r2 := by omega
      have hr1 : r2 < (Y : Int) := by omega
      rw [er, Int.fdiv_eq_ediv_of_nonneg _ (by omega), Int.mul_ediv_cancel _ (by omega)]
      rw [er, eYi] at hr1
      rw [er] at hr0
      have t0 := Int.nonneg_of_mul_nonneg_left hr0 ps
      have t1 := Int.lt_of_mul_lt_mul_right hr1 (Int.le_of_lt ps)
      obtain ⟨Q, eQ⟩ := Int.eq_ofNat_of_zero_le (show 0 ≤ q * 4294967296 + q2 by omega)
      rw [eQ] at t0 t1 ⊢
      obtain ⟨r, er'⟩ := Int.eq_ofNat_of_zero_le t0
      rw [er'] at t1 ⊢
      refine k Q r (by omega) (by omega) ?_
      have : (Q : Int) * y + r = (hi : Int) * 18446744073709551616 + lo := by omega
      refine Int.ofNat_inj.1 ?_
      rw [Int.natCast_add, Int.natCast_mul, Int.natCast_add, Int.natCast_mul]
      exact this
    simp only [eu, i1, i2]
    refine ⟨fun r q => DInv Y1 Y0 u2 L0 q r, fun r q => q.toNat, D2.init, ?_⟩
    rintro r q2 I
    have i1 := I.r0
    have i2 := I.rb
    have i3 := I.q0
    have i4 := I.qb
    obtain ⟨i5, i6⟩ := qp i3 i4
    rw [u64_id (x := q2 * Y0) i5 i6, u64_id (x := r + Y1) (by omega) (by omega), u64_id (x := 4294967296 * r) (by omega) (by omega), u64_id (x := 4294967296 * r + L0) (by omega) (by omega)]
    have go : 4294967296 ≤ q2 ∨ 4294967296 * r + L0 < q2 * Y0 → cond (decide (r + Y1 ≥ 4294967296)) (0 ≤ (s : Int) ∧ R (.t [.u (.i .u64 (IntKind.wrap .u64 (IntKind.wrap .u64 (q * 4294967296) + IntKind.wrap .u64 (q2 - 1)))), .u (.i .u64 (Int.fdiv (IntKind.wrap .u64 (IntKind.wrap .u64 (IntKind.wrap .u64 (u2 * 4294967296) + L0) - IntKind.wrap .u64 (IntKind.wrap .u64 (q2 - 1) * (Y : Int)))) S))]) []) (DInv Y1 Y0 u2 L0 (IntKind.wrap .u64 (q2 - 1)) (r + Y1) ∧ (IntKind.wrap .u64 (q2 - 1)).toNat < q2.toNat) := by
      intro hc
      have l1 := (I.less D2 hc).1
      rw [u64_id (x := q2 - 1) (by omega) (by omega)]
      exact cIf (fun hr => ⟨by omega, hfin _ (I.stop D2 hc hr)⟩) fun hr => ⟨I.next D2 hc (by omega), by omega⟩
    refine cIf (fun hc => go (.inl hc)) fun hc => cIf (fun hd => go (.inr hd)) fun hd => ?_
    exact ⟨by omega, hfin _ (I.fin D2 (by omega) (by omega))⟩
  obtain ⟨i1, i2⟩ := ini D1
  simp only [i1, i2]
  refine ⟨fun q r => DInv Y1 Y0 u L1 q r, fun q r => q.toNat, D1.init, ?_⟩
  rintro q r I
  have i1 := I.r0
  have i2 := I.rb
  have i3 := I.q0
  have i4 := I.qb
  obtain ⟨i5, i6⟩ := qp i3 i4
  rw [u64_id (x := q * Y0) i5 i6, u64_id (x := r + Y1) (by omega) (by omega), u64_id (x := 4294967296 * r) (by omega) (by omega), u64_id (x := 4294967296 * r + L1) (by omega) (by omega)]
  have go : 4294967296 ≤ q ∨ 4294967296 * r + L1 < q * Y0 → cond (decide (r + Y1 ≥ 4294967296)) (k1 (IntKind.wrap .u64 (q - 1))) (DInv Y1 Y0 u L1 (IntKind.wrap .u64 (q - 1)) (r + Y1) ∧ (IntKind.wrap .u64 (q - 1)).toNat < q.toNat) := by
    intro hc
    have l1 := (I.less D1 hc).1
    rw [u64_id (x := q - 1) (by omega) (by omega)]
    exact cIf (fun hr => H1 _ (I.stop D1 hc hr)) fun hr => ⟨I.next D1 hc (by omega), by omega⟩
  refine cIf (fun hc => go (.inl hc)) fun hc => cIf (fun hd => go (.inr hd)) fun hd => ?_
  exact H1 _ (I.fin D1 (by omega) (by omega))
end Go.Proofs.Ytljgfkiiikcaaaa

/- Lists of numbers that are owned: the least one; the first one with something; in the style of heaps. -/
set_option linter.unusedVariables false
namespace Go.Proofs.Ytljgfkiiikcaaaa
open Go Go.Proofs
attribute [local irreducible] appK copyK delK updK lookK makeK rangeK nextM entryM mapEntryK entryStK lenMapK
variable {P : Program} {D D' : Fz} {C : List Chunk} {h h' : Heap}
section
variable {α : Type} {e : α → List U} {T E sz : Nat}
theorem rows_len (he : ∀ x, (e x).length = sz) (l : List α) : ∀ r ∈ l.map e, r.length = sz := by
  intro r hr; obtain ⟨t, -, rfl⟩ := List.mem_map.1 hr; exact he t
theorem app_e {a a2 : Option Addr} {c m n cx : Nat} {r r2 : List α} {ch : Chunk} {K : Value → Heap → Prop} (ty : ElTy P T E sz) (own : Own D E sz a c (r.map e) ch) (S : St D (ch :: C) h) (src : Src D h sz a2 (r2.map e)) (hn : n = r.length) (hm : m = r2.length) (hb : r.length + r2.length ≤ 1000000)
    (hK : ∀ a' c' ch' h', Own D E sz a' c' ((r ++ r2).map e) ch' → St D (ch' :: C) h' → K (.slice a' (r ++ r2).length c') h') : appK P #[T, T] T (.slice a n c) (.slice a2 m cx) h K := by
  obtain ⟨hT, i, z, hi, hsz, hby, hby2, hz, hzs⟩ := ty
  subst hm hn
  by_cases hr2 : r2 = []
  · subst hr2
    refine app_nil (E := E) hT hi (by simpa using own.len) ?_
    simpa using hK a c ch h (by simpa using own) S
  subst hsz
  have hl : r.length = (r.map e).length := by simp
  rw [hl]
  have hbd : (2 * ((r.map e).length + (r2.map e).length) + 512) * i.bytes ≤ 281474976710656 := by
    simp only [List.length_map]
    have := Nat.mul_le_mul (show 2 * (r.length + r2.length) + 512 ≤ 2000512 by omega) hby2
    omega
  refine Own.app own S hT hi hz hzs hby src (by simp) hbd (by simpa using hr2) fun a' c' ch' h' own' S' => ?_
  rw [← List.map_append] at own'
  rw [← List.map_append, List.length_map]
  exact hK a' c' ch' h' own' S'
theorem src_one {b : Nat} {T' : TypeId} {f : Nat × Nat} {vs : List Value} {c0 : Chunk} {x : α} (S : St D (c0 :: [(b, Obj.cells ⟨vs⟩ T' f)] :: C) h) (he : ∀ x, (e x).length = sz) (hv : RdL D vs (e x)) : Src D h sz (some ⟨b, 0, none⟩) ([x].map e) :=
  Src.one (c := []) S (List.mem_cons_of_mem _ List.mem_cons_self) hv (he x)
end
def fstI {α : Type} (p : α → Bool) : List α → Nat → Int
  | [], _ => -1
  | x :: l, k => if p x = true then k else fstI p l (k + 1)
theorem callV_1 {P : Program} {g : FuncId} {args : List Value} {c : Value} {h : Heap} {R : Value → Heap → Prop} (hr : Run P g (args ++ [c]) h R) : CallV P (.func (.func g) #[] #[c]) args h R := by
  unfold CallV
  simpa using hr
theorem callV_mono {P : Program} {f : Value} {args : List Value} {h : Heap} {R R' : Value → Heap → Prop} (hh : CallV P f args h R) (k : ∀ v h', R v h' → R' v h') : CallV P f args h R' := by
  unfold CallV at hh ⊢
  split at hh
  · exact hh.mono k
  · exact hh.elim
theorem fstI_bd {α : Type} (p : α → Bool) : ∀ (l : List α) (k : Nat), -1 ≤ fstI p l k ∧ fstI p l k < k + l.length
  | [], k => by simp [fstI]; omega
  | x :: l, k => by
    have := fstI_bd p l (k + 1)
    simp only [fstI, List.length_cons]
    split <;> omega

def eI (x : Int) : List U := [.n x]
theorem eI1 (x : Int) : (eI x).length = 1 := rfl
theorem rd_I {vs : List Value} {x : Int} : RdL D vs (eI x) ↔ vs = [.int .i64 x] := by
  simp only [eI, RdL.cons_iff, RdL.nil_iff, Rd.int_iff]
  constructor
  · rintro ⟨_, _, rfl, rfl, rfl⟩; rfl
  · rintro rfl; exact ⟨_, _, rfl, rfl, rfl⟩
theorem own_I {T : TypeId} {a : Option Addr} {c : Nat} {L : List Int} {ch : Chunk} (hx : Own D T 1 a c (L.map eI) ch) (S : St D (ch :: C) h) {z : Int} {i : Nat} (hz : z = i) {t : Int} (hi : L[i]? = some t) {K : Nat → Nat → Prop}
    (hK : ∀ b o, hcell h ⟨b, o + z.toNat * 1, none⟩ = some (.int .i64 t) → K b o) : onPtr a K :=
  hx.at S hz (r := eI t) (by simp [hi]) fun b o vs hv hc => by
    rw [rd_I] at hv; subst hv
    exact hK b o (hc 0 (by omega))
theorem eyI : ElTy Try.prog 33 3 1 := .of (by kernel_rfl)
/-- The least of numbers, and one. -/
def minI : Int → List Int → Int
  | m, [] => m
  | m, x :: l => minI (if x < m then x else m) l
theorem minI_mem : ∀ (l : List Int) (m : Int), minI m l = m ∨ minI m l ∈ l
  | [], m => .inl rfl
  | x :: l, m => by
    simp only [minI, List.mem_cons]
    rcases minI_mem l (if x < m then x else m) with h | h
    · rw [h]; split <;> simp
    · exact .inr (.inr h)
theorem minI_le : ∀ (l : List Int) (m : Int), minI m l ≤ m ∧ ∀ y ∈ l, minI m l ≤ y
  | [], m => ⟨Int.le_refl _, by simp⟩
  | x :: l, m => by
    have := minI_le l (if x < m then x else m)
    simp only [minI, List.mem_cons, forall_eq_or_imp]
    refine ⟨?_, ?_, this.2⟩
    · have h := this.1; split at h <;> omega
    · have h := this.1; split at h <;> omega
theorem min_spec {T : TypeId} {a : Option Addr} {c : Nat} {x : Int} {l : List Int} {ch : Chunk} (own : Own D T 1 a c ((x :: l).map eI) ch) (S : St D (ch :: C) h) (hn : l.length ≤ 1000) :
    Run Try.prog 29 [.slice a (l.length + 1) c] h fun v h' => v = .int .i64 (minI x l) ∧ h' = h := by
  refine V29 _ _ _ _ _ ?_
  unfold VC29
  refine cIf (fun h => by omega) fun _ => ?_
  refine own_I own S (z := 0) (i := 0) rfl rfl fun b o c0 => ⟨by decide, by omega, _, c0, ?_⟩
  refine ⟨fun m z h' => ∃ i : Nat, z = i ∧ 1 ≤ i ∧ i ≤ l.length + 1 ∧ minI x l = minI m (l.drop (i - 1)) ∧ h' = h, fun _ z _ => l.length + 1 - z.toNat, ⟨1, rfl, by omega, by omega, rfl, rfl⟩, ?_⟩
  rintro - h1 m z ⟨i, rfl, h1i, hi, he, eh⟩
  obtain rfl : h = h1 := eh.symm
  refine cIf (fun hlt => ?_) fun hge => ?_
  · obtain ⟨j, rfl⟩ : ∃ j, i = j + 1 := ⟨i - 1, by omega⟩
    have hjl : j < l.length := by omega
    rw [Nat.add_sub_cancel, List.drop_eq_getElem_cons hjl] at he
    refine own_I own S rfl (t := l[j]) (by rw [List.getElem?_cons_succ]; exact List.getElem?_eq_getElem hjl) fun b o c0 => ⟨by omega, by omega, _, c0, ?_⟩
    rw [w64n (by omega)]
    exact ⟨⟨j + 2, rfl, by omega, by omega, he, rfl⟩, by simp only [Int.toNat_natCast]; omega⟩
  · have : i = l.length + 1 := by omega
    subst this
    exact ⟨by rw [he]; simp [minI], rfl⟩
end Go.Proofs.Ytljgfkiiikcaaaa

/- Numbers without those that a predicate takes (slices.DeleteFunc). -/
set_option linter.unusedVariables false
namespace Go.Proofs.Ytljgfkiiikcaaaa
open Go Go.Proofs
attribute [local irreducible] appK copyK delK updK lookK makeK rangeK nextM entryM mapEntryK entryStK lenMapK
variable {P : Program} {D D' : Fz} {C : List Chunk} {h h' : Heap}
/-- The first k with p, from k on; -1: none (slices.IndexFunc of numbers). -/
theorem indexI_spec {T : TypeId} {a : Option Addr} {c : Nat} {l : List Int} {ch : Chunk} (own : Own D T 1 a c (l.map eI) ch) (S : St D (ch :: C) h) (hn : l.length ≤ 1000) (p : Int → Bool) (f : Value)
    (hf : ∀ x ∈ l, ∀ h, St D (ch :: C) h → CallV Try.prog f [.int .i64 x] h fun v h' => v = .bool (p x) ∧ St D (ch :: C) h') :
    Run Try.prog 69 [.slice a l.length c, f] h fun v h' => v = .int .i64 (fstI p l 0) ∧ St D (ch :: C) h' := by
  refine V69 _ _ _ _ _ _ ?_
  unfold VC69
  refine ⟨fun z h' => ∃ i : Nat, z = i ∧ i ≤ l.length ∧ fstI p l 0 = fstI p (l.drop i) i ∧ St D (ch :: C) h', fun z _ => l.length - z.toNat, ⟨0, rfl, by omega, rfl, S⟩, ?_⟩
  rintro - h1 z ⟨i, rfl, hi, he, S⟩
  refine cIf (fun hlt => ?_) fun hge => ?_
  · have hil : i < l.length := by omega
    rw [List.drop_eq_getElem_cons hil] at he
    refine own_I own S rfl (List.getElem?_eq_getElem hil) fun b o c0 => ⟨by omega, by omega, _, c0, ?_⟩
    refine callV_mono (hf _ (List.getElem_mem hil) h1 S) ?_
    rintro v h2 ⟨rfl, S⟩
    refine ⟨_, rfl, cB (fun hp => ?_) fun hp => ?_⟩
    · exact ⟨by rw [he]; simp [fstI, hp], S⟩
    · rw [w64n (by omega)]
      exact ⟨⟨i + 1, rfl, by omega, by rw [he]; simp [fstI, hp], S⟩, by simp only [Int.toNat_natCast]; omega⟩
  · have : i = l.length := by omega
    subst this
    exact ⟨by rw [he]; simp [fstI], S⟩
theorem clearI {P : Program} {T E : TypeId} {i : TypeInfo} {z : Value} {b o n c : Nat} {l : List Value} {e : TypeId} {h : Heap} {K : Value → Heap → Prop} (hu : P.underlying T = some (.slice E)) (hi : P.info? E = some i) (hz : i.zero = some z) (hzs : z.cells = #[z]) (hs : single z = true)
    (hb : h[b]? = some (.cells l.toArray e (0, 0))) (hl : o + n ≤ l.length)
    (hK : ∀ h', h'[b]? = some (.cells (splice l o (List.replicate n z)).toArray e (0, 0)) → KB [b] h h' → h'.size = h.size → K (.tuple #[]) h') : clearK P #[T] 0 (.slice (some ⟨b, o, none⟩) n c) h K := by
  unfold clearK
  show SWp P (underlying T >>= _) h K
  refine SWp_bind (SWp_underlying hu ?_)
  cases n with
  | zero =>
    show SWp P (pure (Value.tuple #[])) h K
    exact hK h (by simpa [splice] using hb) (.refl _ _) rfl
  | succ n =>
    refine SWp_bind (SWp_zero hi hz ?_)
    have hzc : (Builtin.zeroCells z.cells (n + 1)).toList = List.replicate (n + 1) z := by
      rw [hzs]
      simp [Builtin.zeroCells]
      apply List.ext_getElem
      · simp
      · intro i h1 h2
        simp [Nat.mod_one]
    rw [hzc]
    refine SWp_bind (SWp_storeCells_blk hb (by simpa using hl) (fun v hv => by rw [List.eq_of_mem_replicate hv]; exact hs) fun h' h1 k s => ?_)
    exact hK h' h1 k s
/-- One number of an own row is written anew. -/
theorem put_I {T : TypeId} {a : Option Addr} {c i : Nat} {L : List Int} {ch : Chunk} (own : Own D T 1 a c (L.map eI) ch) (S : St D (ch :: C) h) {z : Int} (hz : z = i) (hi : i < L.length) (x : Int) {K : Nat → Nat → Prop}
    (hK : ∀ b o, (∀ K' : Heap → Prop, (∀ ch' h', Own D T 1 a c ((L.set i x).map eI) ch' → St D (ch' :: C) h' → K' h') → stK h ⟨b, o + z.toNat * 1, none⟩ (.int .i64 x) K') → K b o) : onPtr a K := by
  refine own.put S hz (by simpa using hi) (r' := eI x) (vs := [.int .i64 x]) (rd_I.2 rfl) rfl fun b o f => hK b o fun K' k => ?_
  have := f K' fun ch' h' o' S' => k ch' h' (by rw [List.map_set]; exact o') S'
  simp only [storeS, addO_eq, Nat.add_zero] at this
  exact this
attribute [local irreducible] clearK
/-- The tail of an own row of numbers is cleared. -/
theorem clear_I {a : Option Addr} {c i : Nat} {L : List Int} {ch : Chunk} (own : Own D 3 1 a c (L.map eI) ch) (S : St D (ch :: C) h) (hi : i ≤ L.length) (h0 : L ≠ []) {K : Value → Heap → Prop}
    (hK : ∀ ch' h', Own D 3 1 a c ((L.take i).map eI) ch' → St D (ch' :: C) h' → K (.tuple #[]) h') : clearK Try.prog #[33] 0 (.slice (slA a c i 1) (subN L.length i) (subN c i)) h K := by
  obtain ⟨hT, y, z, hy, hsz, hby, hby2, hz, hzs⟩ := eyI
  have hz0 : z = .int .i64 0 := by
    have : (Try.prog.info? 3).map (·.zero) = some (some (.int .i64 0)) := by kernel_rfl
    rw [hy, Option.map_some, hz] at this
    simpa using this
  subst hz0
  generalize hr : L.map eI = rows at own
  cases own with
  | nil => simp at hr; exact absurd hr h0
  | row b c arr rows v h1 h2 h3 h4 h5 =>
    obtain ⟨l⟩ := arr
    subst hr
    have h1' : l.length = c := by simpa using h1
    rw [List.length_map] at h2
    obtain ⟨o, ho, hoi⟩ : ∃ o, slA (some ⟨b, 0, none⟩) c i 1 = some ⟨b, o, none⟩ ∧ o + (L.length - i) ≤ c ∧ (o = i ∨ L.length - i = 0) := by
      unfold slA
      cases i with
      | zero => exact ⟨0, rfl, by omega, .inl rfl⟩
      | succ i =>
        simp only [Nat.beq, cond_false]
        by_cases hc : c = i + 1
        · rw [if_pos hc]; exact ⟨0, rfl, by omega, .inr (by omega)⟩
        · rw [if_neg hc]; exact ⟨i + 1, by simp, by omega, .inl rfl⟩
    rw [ho, subN_eq, subN_eq]
    refine clearI hT hy hz rfl rfl (S.get (List.mem_singleton_self _)) (by omega) fun h' hb k s => ?_
    have S' : St D ([(b, .cells ⟨splice l o (List.replicate (L.length - i) (.int .i64 0))⟩ 3 (0, 0))] :: C) h' := S.upd (by simpa using k) (by simpa using hb) (by simp) (by simp)
    refine hK _ h' (.row b c _ _ v (by simp [splice_length, h1']) (by rw [List.length_map, List.length_take]; omega) (rows_len eI1 _) (fun p q r u hp hq => ?_) fun p q r u hp hq => ?_) S'
    all_goals
      have hpi : p < i := by have := (List.getElem?_eq_some_iff.1 hp).1; rw [List.length_map, List.length_take] at this; omega
      have hp' : (L.map eI)[p]? = some r := by
        rw [List.getElem?_map, List.getElem?_take_of_lt hpi, ← List.getElem?_map] at hp; exact hp
    · have hq1 : q < 1 := by have := (List.getElem?_eq_some_iff.1 hq).1; rwa [h3 r (List.mem_of_getElem? hp')] at this
      have := h4 p q r u hp' hq
      simp only [List.getElem?_toArray] at this ⊢
      rw [splice_get _ _ _ _ (by simp; omega)]
      rw [List.length_replicate]
      rcases hoi.2 with e | e
      · rw [if_pos (by omega)]; exact this
      · by_cases hpo : p * 1 + q < o
        · rw [if_pos hpo]; exact this
        · rw [if_neg hpo, if_neg (by omega)]; exact this
    · exact h5 p q r u hp' hq
theorem fstI_cases {α : Type} (p : α → Bool) : ∀ (l : List α) (k : Nat), (fstI p l k = -1 ∧ ∀ x ∈ l, p x = false) ∨ ∃ d : Nat, fstI p l k = ((k + d : Nat) : Int) ∧ d < l.length ∧ (∀ x, l[d]? = some x → p x = true) ∧ ∀ x ∈ l.take d, p x = false
  | [], k => .inl ⟨rfl, by simp⟩
  | x :: l, k => by
    simp only [fstI]
    by_cases hp : p x = true
    · rw [if_pos hp]; exact .inr ⟨0, by simp, by simp, by simp [hp], by simp⟩
    · rw [if_neg hp]
      have hp' : p x = false := by simpa using hp
      rcases fstI_cases p l (k + 1) with ⟨h1, h2⟩ | ⟨d, h1, h2, h3, h4⟩
      · exact .inl ⟨h1, by simpa [hp'] using h2⟩
      · exact .inr ⟨d + 1, by rw [h1]; congr 1; omega, by simpa using h2, by simpa using h3, by simpa [hp'] using h4⟩
def keepI (p : Int → Bool) (l : List Int) : List Int := l.filter fun x => !p x
theorem keepI_all {p : Int → Bool} {l : List Int} (h : ∀ x ∈ l, p x = false) : keepI p l = l := by
  unfold keepI; rw [List.filter_eq_self]; intro x hx; simp [h x hx]
theorem keepI_snoc {p : Int → Bool} {l : List Int} {j : Nat} {x : Int} (h : l[j]? = some x) : keepI p (l.take (j + 1)) = if p x = true then keepI p (l.take j) else keepI p (l.take j) ++ [x] := by
  unfold keepI
  rw [List.take_add_one, h, List.filter_append]
  split <;> simp_all
theorem deleteI_spec {a : Option Addr} {c : Nat} {l : List Int} {ch : Chunk} (own : Own D 3 1 a c (l.map eI) ch) (S : St D (ch :: C) h) (hn : l.length ≤ 1000) (p : Int → Bool) (f : Value)
    (hf : ∀ x ∈ l, ∀ ch h, St D (ch :: C) h → CallV Try.prog f [.int .i64 x] h fun v h' => v = .bool (p x) ∧ St D (ch :: C) h') :
    Run Try.prog 81 [.slice a l.length c, f] h fun v h' => ∃ ch', v = .slice a (keepI p l).length c ∧ Own D 3 1 a c ((keepI p l).map eI) ch' ∧ St D (ch' :: C) h' := by
  refine V81 _ _ _ _ _ _ ?_
  unfold VC81
  refine (indexI_spec own S hn p f fun x hx h S => hf x hx ch h S).mono ?_
  rintro v h1 ⟨rfl, S⟩
  refine ⟨_, rfl, ?_⟩
  rcases fstI_cases p l 0 with ⟨e, hall⟩ | ⟨d, e, hd, hpd, hall⟩
  · rw [e]
    refine cEq (fun _ => ?_) fun h => absurd rfl h
    have hk := keepI_all hall
    exact ⟨ch, by rw [hk], by rw [hk]; exact own, S⟩
  rw [e, Nat.zero_add]
  refine cEq (fun h => by omega) fun _ => ?_
  rw [w64n (by omega)]
  have hlc : l.length ≤ c := by simpa using own.len
  refine ⟨fun x y h' => ∃ (i j : Nat) (r : List Int) (ch : Chunk), x = i ∧ y = j ∧ i < j ∧ j ≤ l.length ∧ r.length = l.length ∧ r.take i = keepI p (l.take j) ∧ r.drop j = l.drop j ∧ Own D 3 1 a c (r.map eI) ch ∧ St D (ch :: C) h',
    fun _ y _ => l.length - y.toNat, ⟨d, d + 1, l, ch, rfl, rfl, by omega, by omega, rfl, ?_, rfl, own, S⟩, ?_⟩
  · rw [keepI_snoc (List.getElem?_eq_getElem hd), if_pos (hpd _ (List.getElem?_eq_getElem hd)), keepI_all hall]
  rintro - h2 x y ⟨i, j, r, ch, rfl, rfl, hij, hj, hr, htk, hdr, own, S⟩
  refine cIf (fun hlt => ?_) fun hge => ?_
  · have hjl : j < l.length := by omega
    have hgj : r[j]? = some l[j] := by
      have : (r.drop j)[0]? = (l.drop j)[0]? := by rw [hdr]
      rw [← List.getElem?_eq_getElem hjl]
      simpa using this
    refine own_I own S rfl hgj fun b o c0 => ⟨by omega, by omega, _, c0, ?_⟩
    refine callV_mono (hf _ (List.getElem_mem hjl) ch h2 S) ?_
    rintro v h3 ⟨rfl, S⟩
    have hsn := keepI_snoc (p := p) (List.getElem?_eq_getElem hjl)
    have hdr1 : r.drop (j + 1) = l.drop (j + 1) := by
      have := congrArg (List.drop 1) hdr
      simpa [List.drop_drop] using this
    refine ⟨_, rfl, cNot (cB (fun hp => ?_) fun hp => ?_)⟩
    · rw [w64n (by omega)]
      exact ⟨⟨i, j + 1, r, ch, rfl, rfl, by omega, by omega, hr, by rw [hsn, if_pos hp]; exact htk, hdr1, own, S⟩, by simp only [Int.toNat_natCast]; omega⟩
    · refine put_I own S rfl (i := i) (by omega) l[j] fun b o k => ⟨by omega, by omega, k _ fun ch' h' own S => ?_⟩
      rw [w64n (by omega), w64n (by omega)]
      refine ⟨⟨i + 1, j + 1, r.set i l[j], ch', rfl, rfl, by omega, by omega, by simpa using hr, ?_, ?_, own, S⟩, by simp only [Int.toNat_natCast]; omega⟩
      · rw [hsn, if_neg (by simp [hp]), ← htk, List.take_add_one, List.getElem?_set_self (by omega), List.take_set_of_le (by omega)]; rfl
      · rw [List.drop_set_of_lt (by omega)]; exact hdr1
  · have : j = l.length := by omega
    subst this
    refine ⟨by omega, by omega, by omega, ?_⟩
    rw [List.take_length] at htk
    simp only [Int.toNat_natCast]
    rw [← hr]
    refine clear_I own S (by omega) (by intro h0; subst h0; simp at hr; omega) fun ch' h' own S => ?_
    rw [htk] at own
    have hi : i = (keepI p l).length := by rw [← htk, List.length_take]; omega
    exact ⟨by omega, by omega, ch', by rw [← hi], own, S⟩
end Go.Proofs.Ytljgfkiiikcaaaa

/- Slots: a row of chunks, one of which is taken and put back; the cells of a web. -/
set_option linter.unusedVariables false
namespace Go.Proofs.Ytljgfkiiikcaaaa
open Go Go.Proofs
attribute [local irreducible] appK copyK delK updK lookK makeK rangeK nextM entryM mapEntryK entryStK lenMapK
variable {P : Program} {D D' : Fz} {C : List Chunk} {h h' : Heap}

def updF {α : Type} (f : Nat → α) (k : Nat) (x : α) : Nat → α := fun j => if j = k then x else f j
theorem updF_self {α : Type} (f : Nat → α) (k : Nat) (x : α) : updF f k x k = x := by simp [updF]
theorem updF_ne {α : Type} (f : Nat → α) {k j : Nat} (x : α) (h : j ≠ k) : updF f k x j = f j := by simp [updF, h]
theorem updF_id {α : Type} (f : Nat → α) (k : Nat) : updF f k (f k) = f := by funext j; unfold updF; split <;> simp_all
theorem updF_updF {α : Type} (f : Nat → α) (k : Nat) (x y : α) : updF (updF f k x) k y = updF f k y := by funext j; unfold updF; split <;> simp_all
abbrev row (N : Nat) (g : Nat → Chunk) : List Chunk := (List.range N).map g
theorem row_perm (g : Nat → Chunk) (k : Nat) (ch : Chunk) : ∀ N, k < N → (row N (updF g k ch)).flatten.Perm (ch ++ (row N (updF g k [])).flatten)
  | 0, h => by omega
  | N + 1, h => by
    have hs : ∀ x, (row (N + 1) (updF g k x)).flatten = (row N (updF g k x)).flatten ++ updF g k x N := fun x => by simp [row, List.range_succ]
    rw [hs, hs]
    by_cases hk : k = N
    · subst hk
      have he : ∀ x y, row k (updF g k x) = row k (updF g k y) := fun x y => List.map_congr_left fun j hj => by
        have := List.mem_range.1 hj
        rw [updF_ne _ _ (by omega), updF_ne _ _ (by omega)]
      rw [updF_self, updF_self, he ch [], List.append_nil]
      exact List.perm_append_comm
    · rw [updF_ne _ _ (by omega), updF_ne _ _ (by omega), ← List.append_assoc]
      exact (row_perm g k ch N (by omega)).append_right _
theorem St.take {N k : Nat} {g : Nat → Chunk} {B : Chunk} (S : St D (B :: (row N g ++ C)) h) (hk : k < N) : St D (g k :: B :: (row N (updF g k []) ++ C)) h := by
  refine S.perm ?_
  have := row_perm g k (g k) N hk
  rw [updF_id] at this
  simp only [List.flatten_cons, List.flatten_append]
  refine ((this.append_right C.flatten).append_left B).trans ?_
  rw [List.append_assoc, ← List.append_assoc, ← List.append_assoc (g k)]
  exact List.perm_append_comm.append_right _
theorem St.give {N k : Nat} {g : Nat → Chunk} {B ch : Chunk} (S : St D (ch :: B :: (row N (updF g k []) ++ C)) h) (hk : k < N) : St D (B :: (row N (updF g k ch) ++ C)) h := by
  refine S.perm ?_
  have := (row_perm g k ch N hk).symm
  simp only [List.flatten_cons, List.flatten_append]
  refine List.Perm.trans ?_ ((this.append_right C.flatten).append_left B)
  rw [List.append_assoc, ← List.append_assoc, ← List.append_assoc B]
  exact List.perm_append_comm.append_right _

def needsOf (P : List Stk) (k : Nat) : List Int := (P.filter fun p => p.1 == (k : Int)).map (·.2)
def usersOf (P : List Stk) (k : Nat) : List Int := (P.filter fun p => p.2 == (k : Int)).map (·.1)
theorem needsOf_snoc (P : List Stk) (p : Stk) (h : 0 ≤ p.1) : needsOf (P ++ [p]) = updF (needsOf P) p.1.toNat (needsOf P p.1.toNat ++ [p.2]) := by
  funext k
  unfold needsOf updF
  rw [List.filter_append, List.map_append]
  by_cases hk : k = p.1.toNat
  · subst hk
    rw [if_pos rfl]
    have : (p.1 == ((p.1.toNat : Nat) : Int)) = true := by simp; omega
    rw [List.filter_cons, if_pos this]; rfl
  · rw [if_neg hk]
    have : (p.1 == (k : Int)) = false := by simp; omega
    simp [List.filter_cons, this]
theorem usersOf_snoc (P : List Stk) (p : Stk) (h : 0 ≤ p.2) : usersOf (P ++ [p]) = updF (usersOf P) p.2.toNat (usersOf P p.2.toNat ++ [p.1]) := by
  funext k
  unfold usersOf updF
  rw [List.filter_append, List.map_append]
  by_cases hk : k = p.2.toNat
  · subst hk
    rw [if_pos rfl]
    have : (p.2 == ((p.2.toNat : Nat) : Int)) = true := by simp; omega
    rw [List.filter_cons, if_pos this]; rfl
  · rw [if_neg hk]
    have : (p.2 == (k : Int)) = false := by simp; omega
    simp [List.filter_cons, this]

/- ## Cells -/
def tab (N : Nat) (f : Nat → Value) : List Value := (List.range N).map f
theorem tab_len (N : Nat) (f : Nat → Value) : (tab N f).length = N := by simp [tab]
theorem tab_get {N k : Nat} (f : Nat → Value) (h : k < N) : (tab N f)[k]? = some (f k) := by simp [tab, h]
theorem tab_set {N k : Nat} (f : Nat → Value) (v : Value) : (tab N f).set k v = tab N (updF f k v) := by
  apply List.ext_getElem?
  intro j
  unfold tab
  by_cases hj : j < N
  · rw [List.getElem?_set]
    by_cases hk : k = j
    · subst hk; simp [hj, updF]
    · rw [if_neg hk]; simp [hj, updF, Ne.symm hk]
  · rw [List.getElem?_eq_none (by simp; omega), List.getElem?_eq_none (by simp; omega)]
def cellsW (n : Int) (A B : Nat → Value) (O : Nat → Int) : List Value := .int .i64 n :: (tab 65 A ++ (tab 65 (fun k => .int .i64 (O k)) ++ tab 65 B))
section
variable {n : Int} {A B : Nat → Value} {O : Nat → Int} {k : Nat}
theorem W_len : (cellsW n A B O).length = 196 := by simp [cellsW, tab_len]
theorem W_A (h : k < 65) : (cellsW n A B O)[1 + k]? = some (A k) := by
  unfold cellsW
  rw [Nat.add_comm, List.getElem?_cons_succ, List.getElem?_append_left (by rw [tab_len]; exact h), tab_get _ h]
theorem W_O (h : k < 65) : (cellsW n A B O)[66 + k]? = some (.int .i64 (O k)) := by
  unfold cellsW
  rw [show 66 + k = (65 + k) + 1 by omega, List.getElem?_cons_succ, List.getElem?_append_right (by rw [tab_len]; omega), tab_len, Nat.add_sub_cancel_left, List.getElem?_append_left (by rw [tab_len]; exact h), tab_get _ h]
theorem W_B (h : k < 65) : (cellsW n A B O)[131 + k]? = some (B k) := by
  unfold cellsW
  rw [show 131 + k = (65 + (65 + k)) + 1 by omega, List.getElem?_cons_succ, List.getElem?_append_right (by rw [tab_len]; omega), tab_len, Nat.add_sub_cancel_left, List.getElem?_append_right (by rw [tab_len]; omega), tab_len, Nat.add_sub_cancel_left, tab_get _ h]
theorem W_setA (h : k < 65) (v : Value) : (cellsW n A B O).set (1 + k) v = cellsW n (updF A k v) B O := by
  unfold cellsW
  rw [Nat.add_comm, List.set_cons_succ, List.set_append_left _ _ (by rw [tab_len]; exact h), tab_set]
theorem W_setO (h : k < 65) (x : Int) : (cellsW n A B O).set (66 + k) (.int .i64 x) = cellsW n A B (updF O k x) := by
  unfold cellsW
  rw [show 66 + k = (65 + k) + 1 by omega, List.set_cons_succ, List.set_append_right _ _ (by rw [tab_len]; omega), tab_len, Nat.add_sub_cancel_left, List.set_append_left _ _ (by rw [tab_len]; exact h), tab_set]
  congr 4
  funext j; unfold updF; split <;> rfl
theorem W_setB (h : k < 65) (v : Value) : (cellsW n A B O).set (131 + k) v = cellsW n A (updF B k v) O := by
  unfold cellsW
  rw [show 131 + k = (65 + (65 + k)) + 1 by omega, List.set_cons_succ, List.set_append_right _ _ (by rw [tab_len]; omega), tab_len, Nat.add_sub_cancel_left, List.set_append_right _ _ (by rw [tab_len]; omega), tab_len, Nat.add_sub_cancel_left, tab_set]
end
abbrev webB (m : Nat) (n : Int) (A B : Nat → Value) (O : Nat → Int) : Chunk := [(m, .cells ⟨cellsW n A B O⟩ 139 (0, 0))]
def Slots (D : Fz) (A : Nat → Value) (f : Nat → List Int) (g : Nat → Chunk) : Prop := ∀ k, k < 65 → ∃ a c, A k = .slice a (f k).length c ∧ Own D 3 1 a c ((f k).map eI) (g k)
theorem Slots.upd {A : Nat → Value} {f : Nat → List Int} {g : Nat → Chunk} (s : Slots D A f g) (k : Nat) {a : Option Addr} {c : Nat} {r : List Int} {ch : Chunk} (o : Own D 3 1 a c (r.map eI) ch) :
    Slots D (updF A k (.slice a r.length c)) (updF f k r) (updF g k ch) := by
  intro j hj
  unfold updF
  split
  · exact ⟨a, c, rfl, o⟩
  · exact s j hj
def RdW (D : Fz) (A : Nat → Value) (f : Nat → List Int) : Prop := ∀ k, k < 65 → ∃ a c, A k = .slice a (f k).length c ∧ Rd D (.slice a (f k).length c) (.l 1 ((f k).map eI))
theorem RdW.mono {A : Nat → Value} {f : Nat → List Int} (r : RdW D A f) (l : Le D D') : RdW D' A f := fun k hk => let ⟨a, c, e, x⟩ := r k hk; ⟨a, c, e, x.mono l⟩
theorem Own.rd {T : TypeId} {sz c : Nat} {a : Option Addr} {rows : List (List U)} {ch : Chunk} (o : Own D T sz a c rows ch) (l : Le D D') (g : ∀ p ∈ ch, D' p.1 = some p.2) : Rd D' (.slice a rows.length c) (.l sz rows) := by
  cases o with
  | nil => exact .nil _ _ _
  | row b c arr rows v h1 h2 h3 h4 h5 =>
    exact .row b 0 c arr T (0, 0) rows sz v (g (b, _) (by simp)) h2 h3 (fun i j r u a b => by rw [Nat.zero_add]; exact h4 i j r u a b) fun i j r u a b => (h5 i j r u a b).mono l
theorem Slots.rd {A : Nat → Value} {f : Nat → List Int} {g : Nat → Chunk} (s : Slots D A f g) (l : Le D D') (hg : ∀ p ∈ (row 65 g).flatten, D' p.1 = some p.2) : RdW D' A f := by
  intro k hk
  obtain ⟨a, c, e, o⟩ := s k hk
  refine ⟨a, c, e, ?_⟩
  have := o.rd l fun p hp => hg p (List.mem_flatten.2 ⟨g k, List.mem_map.2 ⟨k, List.mem_range.2 hk, rfl⟩, hp⟩)
  rwa [List.length_map] at this
theorem St.swapR {B : Chunk} {X Y : List Chunk} (S : St D (B :: (X ++ (Y ++ C))) h) : St D (B :: (Y ++ (X ++ C))) h := by
  refine S.perm ?_
  simp only [List.flatten_cons, List.flatten_append]
  refine List.Perm.append_left B ?_
  rw [← List.append_assoc, ← List.append_assoc]
  exact List.perm_append_comm.append_right _
end Go.Proofs.Ytljgfkiiikcaaaa

/- A web in memory: its cells, its slots; how it is made. -/
set_option linter.unusedVariables false
namespace Go.Proofs.Ytljgfkiiikcaaaa
open Go Go.Proofs
attribute [local irreducible] appK copyK delK updK lookK makeK rangeK nextM entryM mapEntryK entryStK lenMapK
variable {D D' : Fz} {C : List Chunk} {h h' : Heap} {x W : Chunk} {X Y : List Chunk}

theorem St.inn (S : St D (x :: W :: (X ++ (Y ++ C))) h) : St D (W :: (X ++ (Y ++ (x :: C)))) h := by
  refine S.perm ?_
  simp only [List.flatten_cons, List.flatten_append]
  refine List.perm_append_comm_assoc .. |>.trans (List.Perm.append_left W ?_)
  refine List.perm_append_comm_assoc .. |>.trans (List.Perm.append_left _ ?_)
  exact List.perm_append_comm_assoc ..
theorem St.out (S : St D (W :: (X ++ (Y ++ (x :: C)))) h) : St D (x :: W :: (X ++ (Y ++ C))) h := by
  refine S.perm (List.Perm.symm ?_)
  simp only [List.flatten_cons, List.flatten_append]
  refine List.perm_append_comm_assoc .. |>.trans (List.Perm.append_left W ?_)
  refine List.perm_append_comm_assoc .. |>.trans (List.Perm.append_left _ ?_)
  exact List.perm_append_comm_assoc ..
abbrev webC (n : Int) (A B : Nat → Value) (O : Nat → Int) (w : Nat) : Chunk := [(w, .cells ⟨cellsW n A B O⟩ 139 (0, 0))]
/-- A web at w. -/
def WS (D : Fz) (n : Int) (A B : Nat → Value) (fA fB : Nat → List Int) (O : Nat → Int) (w : Nat) (C : List Chunk) (h : Heap) : Prop :=
  ∃ gA gB, Slots D A fA gA ∧ Slots D B fB gB ∧ St D (webC n A B O w :: (row 65 gA ++ (row 65 gB ++ C))) h
section
variable {n : Int} {A B : Nat → Value} {fA fB : Nat → List Int} {O : Nat → Int} {w k : Nat}
theorem St.behind : ∀ (X : List Chunk) {C : List Chunk}, St D (X ++ C) h → St D C h
  | [], _, S => S
  | _ :: X, _, S => St.behind X S.drop
theorem WS.cc (s : WS D n A B fA fB O w C h) : St D C h := by
  obtain ⟨gA, gB, -, -, S⟩ := s
  exact St.behind (_ :: (row 65 gA ++ row 65 gB)) (by simpa using S)
theorem WS.new {o : Obj} {K : Nat → Heap → Prop} (s : WS D n A B fA fB O w C h) (hK : ∀ b h1, WS D n A B fA fB O w ([(b, o)] :: C) h1 → K b h1) : newB h o K := by
  obtain ⟨gA, gB, a, b, S⟩ := s
  exact S.new fun m h1 S => hK m h1 ⟨gA, gB, a, b, S.inn⟩
theorem WS.store {m i o : Nat} {l vs : List Value} {T : TypeId} {K : Heap → Prop} (s : WS D n A B fA fB O w ([(m, .cells ⟨l⟩ T (0, 0))] :: C) h) (hl : Nat.ble (o + i + vs.length) l.length = true) (hv : vs.all single = true)
    (hK : ∀ h', WS D n A B fA fB O w ([(m, .cells ⟨splice l (o + i) vs⟩ T (0, 0))] :: C) h' → K h') : storeS m o vs i h K := by
  obtain ⟨gA, gB, a, b, S⟩ := s
  exact S.out.st0 hl hv fun h' S => hK h' ⟨gA, gB, a, b, S.inn⟩
theorem WS.drop {x : Chunk} (s : WS D n A B fA fB O w (x :: C) h) : WS D n A B fA fB O w C h := by
  obtain ⟨gA, gB, a, b, S⟩ := s
  exact ⟨gA, gB, a, b, S.out.drop⟩
theorem WS.cell (s : WS D n A B fA fB O w C h) (o : Nat) : hcell h ⟨w, o, none⟩ = (cellsW n A B O)[o]? := by
  obtain ⟨gA, gB, a, b, S⟩ := s
  rw [S.ld0]; simp
theorem WS.nn (s : WS D n A B fA fB O w C h) : hcell h ⟨w, 0, none⟩ = some (.int .i64 n) := s.cell 0
theorem WS.a (s : WS D n A B fA fB O w C h) (hk : k < 65) : hcell h ⟨w, 1 + k, none⟩ = some (A k) := by rw [s.cell, W_A hk]
theorem WS.o (s : WS D n A B fA fB O w C h) (hk : k < 65) : hcell h ⟨w, 66 + k, none⟩ = some (.int .i64 (O k)) := by rw [s.cell, W_O hk]
theorem WS.b (s : WS D n A B fA fB O w C h) (hk : k < 65) : hcell h ⟨w, 131 + k, none⟩ = some (B k) := by rw [s.cell, W_B hk]
theorem WS.sl (s : WS D n A B fA fB O w C h) (hk : k < 65) : (∃ a c, A k = .slice a (fA k).length c) ∧ ∃ a c, B k = .slice a (fB k).length c := by
  obtain ⟨gA, gB, a, b, S⟩ := s
  obtain ⟨a1, c1, e1, -⟩ := a k hk
  obtain ⟨a2, c2, e2, -⟩ := b k hk
  exact ⟨⟨a1, c1, e1⟩, a2, c2, e2⟩
theorem WS.setO {y : Int} {K : Heap → Prop} (s : WS D n A B fA fB O w C h) (hk : k < 65) (hK : ∀ h', WS D n A B fA fB (updF O k y) w C h' → K h') : stK h ⟨w, 66 + k, none⟩ (.int .i64 y) K := by
  obtain ⟨gA, gB, a, b, S⟩ := s
  refine S.sk0 (Nat.ble_eq_true_of_le (by rw [W_len]; omega)) rfl fun h' S => hK h' ⟨gA, gB, a, b, ?_⟩
  rwa [W_setO hk] at S
/-- One is laid behind a slot's. -/
theorem WS.appA {m : Nat} {y : Int} {T : TypeId} {K : Value → Heap → Prop} (s : WS D n A B fA fB O w ([(m, .cells ⟨[.int .i64 y]⟩ T (0, 0))] :: C) h) (hk : k < 65) (hb : (fA k).length ≤ 1000)
    (hK : ∀ a' n' c' h', St D C h' → (∀ K' : Heap → Prop, (∀ h'', WS D n (updF A k (.slice a' n' c')) B (updF fA k (fA k ++ [y])) fB O w C h'' → K' h'') → stK h' ⟨w, 1 + k, none⟩ (.slice a' n' c') K') → K (.slice a' n' c') h') :
    appK Try.prog #[33, 33] 33 (A k) (.slice (some ⟨m, 0, none⟩) 1 1) h K := by
  obtain ⟨gA, gB, sa, sb, S⟩ := s
  obtain ⟨a, c, e, own⟩ := sa k hk
  rw [e]
  have S2 := St.take S hk
  have src : Src D h 1 (some ⟨m, 0, none⟩) ([y].map eI) := Src.one (T := T) (f := (0, 0)) (c := []) S2 (by simp) (rd_I.2 rfl) rfl
  refine app_e (r := fA k) (r2 := [y]) eyI own S2 src rfl rfl (by simp; omega) fun a' c' ch' h' o' S' => hK a' _ c' h' ?_ fun K' hK' => ?_
  · exact St.behind (ch' :: webC n A B O w :: (row 65 (updF gA k []) ++ (row 65 gB ++ [[(m, .cells ⟨[.int .i64 y]⟩ T (0, 0))]]))) (by simpa using S')
  · refine S'.sk1 (Nat.ble_eq_true_of_le (by rw [W_len]; omega)) rfl fun h'' S'' => hK' h'' (WS.drop (x := [(m, .cells ⟨[.int .i64 y]⟩ T (0, 0))]) ⟨updF gA k ch', gB, ?_, sb, ?_⟩)
    · exact sa.upd k o'
    · rw [W_setA hk] at S''
      exact St.give S'' hk
theorem WS.appB {m : Nat} {y : Int} {T : TypeId} {K : Value → Heap → Prop} (s : WS D n A B fA fB O w ([(m, .cells ⟨[.int .i64 y]⟩ T (0, 0))] :: C) h) (hk : k < 65) (hb : (fB k).length ≤ 1000)
    (hK : ∀ a' n' c' h', St D C h' → (∀ K' : Heap → Prop, (∀ h'', WS D n A (updF B k (.slice a' n' c')) fA (updF fB k (fB k ++ [y])) O w C h'' → K' h'') → stK h' ⟨w, 131 + k, none⟩ (.slice a' n' c') K') → K (.slice a' n' c') h') :
    appK Try.prog #[33, 33] 33 (B k) (.slice (some ⟨m, 0, none⟩) 1 1) h K := by
  obtain ⟨gA, gB, sa, sb, S⟩ := s
  obtain ⟨a, c, e, own⟩ := sb k hk
  rw [e]
  have S2 := St.take S.swapR hk
  have src : Src D h 1 (some ⟨m, 0, none⟩) ([y].map eI) := Src.one (T := T) (f := (0, 0)) (c := []) S2 (by simp) (rd_I.2 rfl) rfl
  refine app_e (r := fB k) (r2 := [y]) eyI own S2 src rfl rfl (by simp; omega) fun a' c' ch' h' o' S' => hK a' _ c' h' ?_ fun K' hK' => ?_
  · exact St.behind (ch' :: webC n A B O w :: (row 65 (updF gB k []) ++ (row 65 gA ++ [[(m, .cells ⟨[.int .i64 y]⟩ T (0, 0))]]))) (by simpa using S')
  · refine S'.sk1 (Nat.ble_eq_true_of_le (by rw [W_len]; omega)) rfl fun h'' S'' => hK' h'' (WS.drop (x := [(m, .cells ⟨[.int .i64 y]⟩ T (0, 0))]) ⟨gA, updF gB k ch', sa, ?_, ?_⟩)
    · exact sb.upd k o'
    · rw [W_setB hk] at S''
      exact (St.give S'' hk).swapR
end
structure gOK (n : Int) (L : List Stk) : Prop where
  n0 : 0 ≤ n
  n64 : n ≤ 64
  len : L.length ≤ 256
  ok : ∀ p ∈ L, inn p.1 1 n = true ∧ inn p.2 1 n = true
theorem is_spec {n node : Int} {w : Nat} {R : Value → Heap → Prop} (hc : hcell h ⟨w, 0, none⟩ = some (.int .i64 n)) (k : R (.bool (inn node 1 n)) h) : Run Try.prog 80 [.pointer (some ⟨w, 0, none⟩), .int .i64 node] h R := by
  refine V80 _ _ _ _ ?_
  unfold VC80
  refine cIf (fun h1 => onPtr_s ⟨_, hc, ?_⟩) fun h1 => ?_
  · rwa [show inn node 1 n = decide (node ≤ n) by unfold inn; simp; omega] at k
  · rwa [show inn node 1 n = false by unfold inn; simp; omega] at k
theorem row_nil (N : Nat) : (row N fun _ => []).flatten = [] := by simp [row]
theorem needsOf_len (t : List Stk) (k : Nat) : (needsOf t k).length ≤ t.length := by unfold needsOf; rw [List.length_map]; exact List.length_filter_le ..
theorem usersOf_len (t : List Stk) (k : Nat) : (usersOf t k).length ≤ t.length := by unfold usersOf; rw [List.length_map]; exact List.length_filter_le ..
theorem made_spec {a : Option Addr} {c : Nat} {L : List Stk} {n : Int} {R : Value → Heap → Prop} (S : St D C h) (hx : Rd D (.slice a L.length c) (.l 2 (L.map eS)))
    (k0 : ¬ gOK n L → ∀ h', St D C h' → R (.pointer none) h') (k1 : gOK n L → ∀ A B w h', WS D n A B (needsOf L) (usersOf L) (fun k => ((needsOf L k).length : Int)) w C h' → R (.pointer (some ⟨w, 0, none⟩)) h') :
    Run Try.prog 55 [.int .i64 n, .slice a L.length c] h R := by
  refine V55 _ _ _ _ _ _ ?_
  unfold VC55
  refine cIf (fun h1 => k0 (fun g => by have := g.n0; omega) h S) fun h1 => cIf (fun h2 => k0 (fun g => by have := g.n64; omega) h S) fun h2 => cIf (fun h3 => k0 (fun g => by have := g.len; omega) h S) fun h3 => ?_
  refine S.new fun w h1 S => ?_
  have W0 : WS D n (fun _ => .slice none 0 0) (fun _ => .slice none 0 0) (needsOf []) (usersOf []) (fun k => ((needsOf [] k).length : Int)) w C h1 :=
    ⟨fun _ => [], fun _ => [], fun k _ => ⟨none, 0, rfl, .nil⟩, fun k _ => ⟨none, 0, rfl, .nil⟩, St.perm S (by simp [row_nil]; exact .refl _)⟩
  clear S
  refine ⟨fun x h' => ∃ t l A B, x = ((List.length t : Nat) : Int) ∧ L = t ++ l ∧ (∀ p ∈ t, inn p.1 1 n = true ∧ inn p.2 1 n = true) ∧ WS D n A B (needsOf t) (usersOf t) (fun k => ((needsOf t k).length : Int)) w C h', fun x _ => L.length - x.toNat, ⟨[], L, _, _, rfl, rfl, by simp, W0⟩, ?_⟩
  clear W0
  rintro - h2 x ⟨t, l, A, B, rfl, hL, hok, W⟩
  have hlen := congrArg List.length hL
  rw [List.length_append] at hlen
  refine cIf (fun hlt => ?_) fun hge => ?_
  rotate_left
  · have : l = [] := List.eq_nil_of_length_eq_zero (by omega)
    subst this
    rw [List.append_nil] at hL
    subst hL
    exact k1 ⟨by omega, by omega, by omega, hok⟩ A B w h2 W
  rcases l with _ | ⟨p, l⟩
  · simp at hlen; omega
  have hgt : (L.map eS)[t.length]? = some (eS p) := by rw [hL]; simp
  obtain ⟨hs, h0 | ⟨bb, o, vv, rfl, hc⟩⟩ := hx.src W.cc
  · rw [h0] at hgt; simp at hgt
  have c0 := hc t.length 0 _ _ hgt rfl
  have c1 := hc t.length 1 _ _ hgt rfl
  rw [Rd.int_iff.1 c0.2] at c0
  rw [Rd.int_iff.1 c1.2] at c1
  have bad : ¬ (inn p.1 1 n = true ∧ inn p.2 1 n = true) → ∀ h', St D C h' → R (.pointer none) h' := fun hb => k0 fun g => hb (g.ok p (by rw [hL]; simp))
  refine onPtr_s ⟨by omega, by omega, _, c0.1, _, c1.1, ?_⟩
  refine W.new fun m h3 W => W.store (by rfl) (by rfl) fun h4 W => ?_
  have W : WS D n A B (needsOf t) (usersOf t) (fun k => ((needsOf t k).length : Int)) w ([(m, .cells ⟨[.int .i64 p.1, .int .i64 p.2]⟩ 87 (0, 0))] :: C) h4 := W
  have rd : ∀ {h' : Heap}, St D ([(m, .cells ⟨[.int .i64 p.1, .int .i64 p.2]⟩ 87 (0, 0))] :: C) h' → hcell h' ⟨m, 0, none⟩ = some (.int .i64 p.1) ∧ hcell h' ⟨m, 1, none⟩ = some (.int .i64 p.2) := fun S => ⟨S.ld0, S.ld0⟩
  have r4 := rd W.cc
  refine ⟨by decide, by decide, _, r4.1, is_spec W.nn ⟨_, rfl, cNot (cB (fun i1 => ?_) fun i1 => bad (by simp [i1]) _ W.cc.drop)⟩⟩
  refine ⟨by decide, by decide, _, r4.2, is_spec W.nn ⟨_, rfl, cNot (cB (fun i2 => ?_) fun i2 => bad (by simp [i2]) _ W.cc.drop)⟩⟩
  have j1 := inn_iff.1 i1
  have j2 := inn_iff.1 i2
  have k1' : p.1.toNat < 65 := by omega
  have k2' : p.2.toNat < 65 := by omega
  obtain ⟨⟨a1, cc1, e1⟩, -⟩ := W.sl k1'
  obtain ⟨-, a2, cc2, e2⟩ := W.sl k2'
  have ra := W.a k1'
  rw [e1] at ra
  refine ⟨by decide, by decide, _, r4.1, by decide, by decide, _, r4.1, by omega, by omega, _, _, _, by rw [Nat.mul_one]; exact ra, by decide, by decide, _, r4.2, W.new fun m7 h7 W => ?_⟩
  have r7 := rd W.cc.drop
  have ra := W.a k1'
  rw [e1] at ra
  refine ⟨⟨_, _, _, by rw [Nat.mul_one]; exact ra, rfl⟩, ⟨_, r7.1, rfl⟩, ⟨_, r7.1, rfl⟩, ?_⟩
  rw [← e1]
  have hbA : (needsOf t p.1.toNat).length ≤ 1000 := by have := needsOf_len t p.1.toNat; omega
  have hbB : (usersOf t p.2.toNat).length ≤ 1000 := by have := usersOf_len t p.2.toNat; omega
  refine WS.appA W k1' hbA fun a3 n3 c3 h8 S8 st => ⟨_, _, _, rfl, ⟨_, (rd S8).1, rfl⟩, by omega, by omega, ?_⟩
  rw [Nat.mul_one]
  refine st _ fun h9 W => ?_
  have r9 := rd W.cc
  have rb := W.b k2'
  rw [e2] at rb
  refine ⟨by decide, by decide, _, r9.2, by decide, by decide, _, r9.2, by omega, by omega, _, _, _, by rw [Nat.mul_one]; exact rb, by decide, by decide, _, r9.1, W.new fun m8 h10 W => ?_⟩
  have r10 := rd W.cc.drop
  have rb := W.b k2'
  rw [e2] at rb
  refine ⟨⟨_, _, _, by rw [Nat.mul_one]; exact rb, rfl⟩, ⟨_, r10.2, rfl⟩, ⟨_, r10.2, rfl⟩, ?_⟩
  rw [← e2]
  refine WS.appB W k2' hbB fun a4 n4 c4 h11 S11 st => ⟨_, _, _, rfl, ⟨_, (rd S11).2, rfl⟩, by omega, by omega, ?_⟩
  rw [Nat.mul_one]
  refine st _ fun h12 W => ?_
  have r12 := rd W.cc
  have ro := W.o k1'
  refine ⟨by decide, by decide, _, r12.1, by omega, by omega, _, by rw [Nat.mul_one]; exact ro, by omega, by omega, ?_⟩
  rw [Nat.mul_one, w64 (by omega) (by omega)]
  refine W.setO k1' fun h13 W => ?_
  rw [w64n (by omega)]
  refine ⟨⟨t ++ [p], l, updF A p.1.toNat (.slice a3 n3 c3), updF B p.2.toNat (.slice a4 n4 c4), by simp, by rw [hL]; simp, fun q hq => ?_, ?_⟩, by simp only [Int.toNat_natCast]; omega⟩
  · rcases List.mem_append.1 hq with hq | hq
    · exact hok q hq
    · simp at hq; subst hq; exact ⟨i1, i2⟩
  · have eA := needsOf_snoc t p (by omega)
    have eB := usersOf_snoc t p (by omega)
    rw [eA, eB]
    have eO : (fun k => (((updF (needsOf t) p.1.toNat (needsOf t p.1.toNat ++ [p.2])) k).length : Int)) = updF (fun k => ((needsOf t k).length : Int)) p.1.toNat (((needsOf t p.1.toNat).length : Int) + 1) := by
      funext j; unfold updF; split <;> simp
    rw [eO]
    exact W.drop
end Go.Proofs.Ytljgfkiiikcaaaa

/- Nodes by what they need: the order that is made by always taking the least node whose needs are all taken. Plain. -/
set_option linter.unusedVariables false
namespace Go.Proofs.Ytljgfkiiikcaaaa
open Go Go.Proofs

/-- May node k come behind these? -/
def Nx1 (L : List Stk) (n : Int) (out : List Int) (k : Int) : Prop := 1 ≤ k ∧ k ≤ n ∧ k ∉ out ∧ ∀ p ∈ L, p.1 = k → p.2 ∈ out
/-- Each is the least that may come. -/
inductive Greedy (L : List Stk) (n : Int) : List Int → Prop where
  | nil : Greedy L n []
  | snoc {out : List Int} {k : Int} : Greedy L n out → Nx1 L n out k → (∀ j, Nx1 L n out j → k ≤ j) → Greedy L n (out ++ [k])
section
variable {L : List Stk} {n : Int} {a b out : List Int} {k : Int}
theorem Greedy.inv (h : Greedy L n (out ++ [k])) : Greedy L n out ∧ Nx1 L n out k ∧ ∀ j, Nx1 L n out j → k ≤ j := by
  generalize hx : out ++ [k] = x at h
  cases h with
  | nil => simp at hx
  | snoc g h1 h2 =>
    obtain ⟨rfl, rfl⟩ := List.append_inj' hx rfl |>.imp id (fun h => by simpa using h)
    exact ⟨g, h1, h2⟩
theorem snoc_cases (l : List Int) : l = [] ∨ ∃ t x, l = t ++ [x] := by
  by_cases h : l = []
  · exact .inl h
  · exact .inr ⟨l.dropLast, l.getLast h, (List.dropLast_concat_getLast h).symm⟩
theorem Greedy.same : ∀ {a b : List Int}, Greedy L n a → Greedy L n b → a.length = b.length → a = b := by
  intro a
  induction h : a.length generalizing a with
  | zero =>
    intro b _ _ hl
    have := List.eq_nil_of_length_eq_zero h
    have := List.eq_nil_of_length_eq_zero hl.symm
    simp [*]
  | succ m ih =>
    intro b ga gb hl
    rcases snoc_cases a with rfl | ⟨t, x, rfl⟩
    · cases h
    rcases snoc_cases b with rfl | ⟨u, y, rfl⟩
    · cases hl
    simp at h hl
    obtain ⟨g1, n1, m1⟩ := ga.inv
    obtain ⟨g2, n2, m2⟩ := gb.inv
    have := ih h g1 g2 (by omega)
    subst this
    have h1 := m1 y n2
    have h2 := m2 x n1
    rw [show x = y by omega]
theorem Greedy.take (g : Greedy L n a) : ∀ m, Greedy L n (a.take m) := by
  induction g with
  | nil => intro m; simp; exact .nil
  | @snoc out k g h1 h2 ih =>
    intro m
    by_cases hm : m ≤ out.length
    · rw [List.take_append_of_le_length hm]; exact ih m
    · rw [List.take_of_length_le (by simp; omega)]; exact .snoc g h1 h2
/-- What none may follow is longest. -/
theorem Greedy.max (ga : Greedy L n a) (hn : ∀ k, ¬ Nx1 L n a k) (gb : Greedy L n b) : b.length ≤ a.length := by
  apply Decidable.byContradiction
  intro h
  have h1 : b.take a.length = a := (gb.take _).same ga (by rw [List.length_take]; omega)
  have h2 := gb.take (a.length + 1)
  have hb : b[a.length]? = some b[a.length] := List.getElem?_eq_getElem (by omega)
  rw [List.take_add_one, hb, h1] at h2
  exact hn _ h2.inv.2.1
theorem Greedy.nodup (g : Greedy L n a) : a.Nodup := by
  induction g with
  | nil => exact .nil
  | snoc g h1 h2 ih =>
    rw [List.nodup_append]
    refine ⟨ih, by simp, ?_⟩
    intro x hx y hy e
    simp at hy; subst hy; subst e
    exact h1.2.2.1 hx
theorem Greedy.mem (g : Greedy L n a) : ∀ x ∈ a, 1 ≤ x ∧ x ≤ n := by
  induction g with
  | nil => simp
  | snoc g h1 h2 ih =>
    intro x hx
    rcases List.mem_append.1 hx with hx | hx
    · exact ih x hx
    · simp at hx; subst hx; exact ⟨h1.1, h1.2.1⟩
theorem Greedy.met (g : Greedy L n a) : ∀ k ∈ a, ∀ p ∈ L, p.1 = k → p.2 ∈ a := by
  induction g with
  | nil => simp
  | snoc g h1 h2 ih =>
    intro k hk p hp e
    rw [List.mem_append]
    rcases List.mem_append.1 hk with hk | hk
    · exact .inl (ih k hk p hp e)
    · simp at hk; subst hk; exact .inl (h1.2.2.2 p hp e)
/-- Different numbers from 1 to n are no more than n. -/
theorem nodup_len : ∀ {a : List Int} {n : Int}, a.Nodup → (∀ x ∈ a, 1 ≤ x ∧ x ≤ n) → 0 ≤ n → (a.length : Int) ≤ n := by
  intro a n hd hm hn
  have hsub : a ⊆ (List.range n.toNat).map fun (i : Nat) => (i : Int) + 1 := fun x hx => by
    have := hm x hx
    exact List.mem_map.2 ⟨(x - 1).toNat, List.mem_range.2 (by omega), by omega⟩
  have := hd.length_le_of_subset hsub
  simp at this
  omega
/-- Needs of k that are not met. -/
def cR (L : List Stk) (out : List Int) (k : Int) : Nat := (L.filter fun p => p.1 == k && !out.contains p.2).length
theorem cR_zero : cR L out k = 0 ↔ ∀ p ∈ L, p.1 = k → p.2 ∈ out := by
  unfold cR
  rw [List.length_eq_zero_iff, List.filter_eq_nil_iff]
  simp
theorem cR_nil (k : Nat) : cR L [] (k : Int) = (needsOf L k).length := by
  unfold cR needsOf
  simp
theorem cR_snoc {x : Int} (hx : x ∉ out) : cR L out k = cR L (out ++ [x]) k + (L.filter fun p => p.1 == k && p.2 == x).length := by
  induction L with
  | nil => rfl
  | cons p L ih =>
    unfold cR at ih ⊢
    simp only [List.filter_cons]
    by_cases h1 : p.1 = k
    · by_cases h2 : p.2 = x
      · have : p.2 ∉ out := h2 ▸ hx
        simp [h1, h2, hx] at ih ⊢; omega
      · by_cases h3 : p.2 ∈ out
        · simp [h1, h2, h3] at ih ⊢; omega
        · simp [h1, h2, h3] at ih ⊢; omega
    · simp [h1] at ih ⊢; omega
theorem users_count {x : Nat} : (usersOf L x).count k = (L.filter fun p => p.1 == k && p.2 == (x : Int)).length := by
  unfold usersOf
  rw [List.count, List.countP_map, List.countP_eq_length_filter, List.filter_filter]
  congr 1
end
end Go.Proofs.Ytljgfkiiikcaaaa

/- The order of a web's nodes, in memory. -/
set_option linter.unusedVariables false
namespace Go.Proofs.Ytljgfkiiikcaaaa
open Go Go.Proofs
attribute [local irreducible] appK copyK delK updK lookK makeK rangeK nextM entryM mapEntryK entryStK lenMapK clearK
variable {D D' : Fz} {C : List Chunk} {h h' : Heap} {x W : Chunk} {X Y : List Chunk}

section
variable {n : Int} {A B : Nat → Value} {fA fB : Nat → List Int} {O : Nat → Int} {w k : Nat}
theorem WS.swap {x y : Chunk} (s : WS D n A B fA fB O w (x :: y :: C) h) : WS D n A B fA fB O w (y :: x :: C) h := by
  obtain ⟨gA, gB, a, b, S⟩ := s
  refine ⟨gA, gB, a, b, S.perm ?_⟩
  simp only [List.flatten_cons, List.flatten_append]
  refine List.Perm.append_left _ (List.Perm.append_left _ (List.Perm.append_left _ ?_))
  exact List.perm_append_comm_assoc ..
theorem WS.swap2 {x y z : Chunk} (s : WS D n A B fA fB O w (x :: y :: z :: C) h) : WS D n A B fA fB O w (y :: z :: x :: C) h := by
  obtain ⟨gA, gB, a, b, S⟩ := s
  refine ⟨gA, gB, a, b, S.perm ?_⟩
  simp only [List.flatten_cons, List.flatten_append]
  refine List.Perm.append_left _ (List.Perm.append_left _ (List.Perm.append_left _ ?_))
  refine (List.perm_append_comm_assoc ..).trans (List.Perm.append_left _ ?_)
  exact List.perm_append_comm_assoc ..
theorem WS.app {m c : Nat} {y : Int} {T : TypeId} {a : Option Addr} {r : List Int} {ch : Chunk} {K : Value → Heap → Prop} (own : Own D 3 1 a c (r.map eI) ch) (s : WS D n A B fA fB O w ([(m, .cells ⟨[.int .i64 y]⟩ T (0, 0))] :: ch :: C) h) (hb : r.length ≤ 1000)
    (hK : ∀ a' c' ch' h', Own D 3 1 a' c' ((r ++ [y]).map eI) ch' → WS D n A B fA fB O w (ch' :: C) h' → K (.slice a' (r ++ [y]).length c') h') :
    appK Try.prog #[33, 33] 33 (.slice a r.length c) (.slice (some ⟨m, 0, none⟩) 1 1) h K := by
  obtain ⟨gA, gB, sa, sb, S⟩ := s
  have src : Src D h 1 (some ⟨m, 0, none⟩) ([y].map eI) := Src.one (T := T) (f := (0, 0)) (c := []) S (by simp) (rd_I.2 rfl) rfl
  exact app_e (r := r) (r2 := [y]) eyI own S.out.drop.out src rfl rfl (by simp; omega) fun a' c' ch' h' o' S' => hK a' c' ch' h' o' ⟨gA, gB, sa, sb, S'.inn⟩
theorem WS.sk {m i : Nat} {l : List Value} {v : Value} {T : TypeId} {K : Heap → Prop} (s : WS D n A B fA fB O w ([(m, .cells ⟨l⟩ T (0, 0))] :: C) h) (hl : Nat.ble (i + 1) l.length = true) (hv : single v = true)
    (hK : ∀ h', WS D n A B fA fB O w ([(m, .cells ⟨l.set i v⟩ T (0, 0))] :: C) h' → K h') : stK h ⟨m, i, none⟩ v K := by
  obtain ⟨gA, gB, a, b, S⟩ := s
  exact S.out.sk0 hl hv fun h' S => hK h' ⟨gA, gB, a, b, S.inn⟩
theorem WS.user {a : Option Addr} {m c i : Nat} {y : Int} {z : Int} {K : Nat → Nat → Prop} (s : WS D n A B fA fB O w C h) (hk : k < 65) (e : B k = .slice a m c) (hz : z = (i : Int)) (hi : (fB k)[i]? = some y) (hK : ∀ b o, hcell h ⟨b, o + z.toNat * 1, none⟩ = some (.int .i64 y) → K b o) : onPtr a K := by
  obtain ⟨gA, gB, sa, sb, S⟩ := s
  obtain ⟨a', c', e', own⟩ := sb k hk
  rw [e] at e'
  cases e'
  exact own_I own (St.take S.swapR hk) hz hi hK
theorem St.cellOf {b o : Nat} {l : List Value} {T : TypeId} {f : Nat × Nat} (S : St D C h) (hm : ([(b, Obj.cells ⟨l⟩ T f)] : Chunk) ∈ C) : hcell h ⟨b, o, Option.none⟩ = l[o]? := by
  have := S.own (b, .cells ⟨l⟩ T f) (List.mem_flatten.2 ⟨_, hm, by simp⟩)
  rw [hcell_of this]; simp
end
theorem keepI_mem {p : Int → Bool} {l : List Int} {x : Int} : x ∈ keepI p l ↔ x ∈ l ∧ p x = false := by simp [keepI]
theorem nx1_iff {L : List Stk} {n : Int} {out : List Int} {k : Int} : Nx1 L n out k ↔ 1 ≤ k ∧ k ≤ n ∧ k ∉ out ∧ cR L out k = 0 := by rw [cR_zero]; rfl
theorem order_spec {L : List Stk} {n : Int} {A B : Nat → Value} {w : Nat} (g : gOK n L) (W : WS D n A B (needsOf L) (usersOf L) (fun k => ((needsOf L k).length : Int)) w C h) :
    Run Try.prog 56 [.pointer (some ⟨w, 0, none⟩)] h fun v h' => ∃ a c out ch O, v = .slice a (List.length out) c ∧ Greedy L n out ∧ (∀ k, ¬ Nx1 L n out k) ∧ Own D 3 1 a c (out.map eI) ch ∧ WS D n A B (needsOf L) (usersOf L) O w (ch :: C) h' := by
  obtain ⟨g0, g1, g2, g3⟩ := g
  have hp1 : ∀ p ∈ L, 1 ≤ p.1 ∧ p.1 ≤ n := fun p hp => inn_iff.1 (g3 p hp).1
  refine V56 _ _ _ ?_
  unfold VC56
  refine ⟨fun p m c x h1 => ∃ (r : List Int) (ch : Chunk), 1 ≤ x ∧ x ≤ n + 1 ∧ m = List.length r ∧ Own D 3 1 p c (r.map eI) ch ∧ WS D n A B (needsOf L) (usersOf L) (fun k => ((needsOf L k).length : Int)) w (ch :: C) h1 ∧ r.Nodup ∧ ∀ k, k ∈ r ↔ 1 ≤ k ∧ k < x ∧ cR L [] k = 0,
    fun _ _ _ x _ => (n + 1 - x).toNat, ⟨[], [], by decide, by omega, rfl, .nil, by obtain ⟨gA, gB, a, b, S⟩ := W; exact ⟨gA, gB, a, b, S.nil.swap.perm (by simp)⟩, .nil, fun k => by simp; omega⟩, ?_⟩
  clear W
  rintro - h1 p m c x ⟨r, ch, hx1, hx2, rfl, own, W, hnd, hr⟩
  refine onPtr_s ⟨_, W.nn, ?_⟩
  refine cIf (fun hle => ?_) fun hgt => ?_
  · have hk : x.toNat < 65 := by omega
    have hrl : r.length ≤ 64 := by
      have := nodup_len hnd (fun y hy => by have := (hr y).1 hy; exact ⟨this.1, show y ≤ n by omega⟩) g0
      omega
    have ho := W.o hk
    have hcx : cR L [] x = (needsOf L x.toNat).length := by
      have := cR_nil (L := L) x.toNat
      rwa [show ((x.toNat : Nat) : Int) = x by omega] at this
    have hstep : ∀ r' : List Int, (∀ k, k ∈ r' ↔ k ∈ r ∨ (k = x ∧ cR L [] x = 0)) → ∀ k, k ∈ r' ↔ 1 ≤ k ∧ k < x + 1 ∧ cR L [] k = 0 := by
      intro r' h k
      rw [h, hr]
      constructor
      · rintro (h | ⟨rfl, h⟩)
        · exact ⟨h.1, by omega, h.2.2⟩
        · exact ⟨hx1, by omega, h⟩
      · rintro ⟨h1, h2, h3⟩
        by_cases hkx : k = x
        · subst hkx; exact .inr ⟨rfl, h3⟩
        · exact .inl ⟨h1, by omega, h3⟩
    refine onPtr_s ⟨by omega, by omega, _, by rw [Nat.mul_one, Nat.zero_add]; exact ho, ?_⟩
    rw [w64 (by omega) (by omega)]
    refine cEq (fun h0 => W.new fun m7 h2 W => WS.app own W (by omega) fun a' c' ch' h3 own W => ⟨_, _, _, rfl, ⟨r ++ [x], ch', by omega, by omega, rfl, own, W, ?_, ?_⟩, by show (n + 1 - (x + 1)).toNat < (n + 1 - x).toNat; omega⟩) fun h0 => ⟨⟨r, ch, by omega, by omega, rfl, own, W, hnd, ?_⟩, by show (n + 1 - (x + 1)).toNat < (n + 1 - x).toNat; omega⟩
    · rw [List.nodup_append]
      refine ⟨hnd, by simp, fun a ha b hb e => ?_⟩
      simp at hb; subst hb; subst e
      have := (hr _).1 ha; omega
    · refine hstep _ fun k => ?_
      rw [List.mem_append, List.mem_singleton]
      constructor
      · rintro (h | rfl)
        · exact .inl h
        · exact .inr ⟨rfl, by omega⟩
      · rintro (h | ⟨rfl, -⟩)
        · exact .inl h
        · exact .inr rfl
    · refine hstep _ fun k => ⟨.inl, ?_⟩
      rintro (h | ⟨rfl, h⟩)
      · exact h
      · omega
  have hxn : x = n + 1 := by omega
  subst hxn
  refine ⟨fun p m c q m' c' h2 => ∃ (r out : List Int) (ch ch' : Chunk) (O : Nat → Int), m = List.length r ∧ m' = List.length out ∧ Own D 3 1 p c (r.map eI) ch ∧ Own D 3 1 q c' (out.map eI) ch' ∧ WS D n A B (needsOf L) (usersOf L) O w (ch :: ch' :: C) h2 ∧ r.Nodup ∧ Greedy L n out ∧
    (∀ k : Nat, 1 ≤ k → (k : Int) ≤ n → O k = (cR L out k : Int)) ∧ ∀ k, k ∈ r ↔ Nx1 L n out k,
    fun _ _ _ _ m' _ _ => 64 - m', ⟨r, [], ch, [], fun k => ((needsOf L k).length : Int), rfl, rfl, own, .nil, by obtain ⟨gA, gB, a, b, S⟩ := W; exact ⟨gA, gB, a, b, S.perm (by simp)⟩, hnd, .nil, fun k _ _ => by rw [cR_nil], fun k => by rw [hr, nx1_iff]; simp; omega⟩, ?_⟩
  clear hgt hx1 hx2 hr hnd own W r ch
  rintro - h2 p m c q m' c' ⟨r, out, ch, ch', O, rfl, rfl, ownR, ownO, W, hnd, hG, hO, hr⟩
  refine cIf (fun hlt => ?_) fun hge => ?_
  rotate_left
  · have : r = [] := List.eq_nil_of_length_eq_zero (by omega)
    subst this
    exact ⟨_, _, out, ch', O, rfl, hG, fun k hk => by have := (hr k).2 hk; simp at this, ownO, W.drop⟩
  rcases r with _ | ⟨y, r⟩
  · simp at hlt
  have hmem : ∀ k ∈ y :: r, 1 ≤ k ∧ k ≤ n := fun k hk => by have := (hr k).1 hk; exact ⟨this.1, this.2.1⟩
  have hrl : (y :: r).length ≤ 64 := by have := nodup_len hnd hmem g0; omega
  have hol : out.length ≤ 64 := by have := nodup_len hG.nodup hG.mem g0; omega
  obtain ⟨gA, gB, sa, sb, S⟩ := W
  refine (min_spec ownR S.out (by simp at hrl; omega)).mono ?_
  rintro v h3 ⟨rfl, rfl⟩
  have W : WS D n A B (needsOf L) (usersOf L) O w (ch :: ch' :: C) _ := ⟨gA, gB, sa, sb, S⟩
  clear S sa sb gA gB
  have hx : minI y r ∈ y :: r := by rcases minI_mem r y with h | h <;> simp [h]
  have hle : ∀ j ∈ y :: r, minI y r ≤ j := by
    intro j hj
    rcases List.mem_cons.1 hj with rfl | hj
    · exact (minI_le r j).1
    · exact (minI_le r y).2 j hj
  generalize minI y r = x at *
  have hnx := (hr x).1 hx
  have hxb := hmem x hx
  refine ⟨_, rfl, W.new fun m1 h3 W => ?_⟩
  refine WS.sk (i := 0) W rfl rfl fun h4 W => ?_
  have W : WS D n A B (needsOf L) (usersOf L) O w ([(m1, .cells ⟨[.int .i64 x]⟩ 3 (0, 0))] :: ch :: ch' :: C) h4 := W
  have W := W.swap
  obtain ⟨gA, gB, sa, sb, S⟩ := W
  refine (deleteI_spec ownR S.out (by omega) (fun z => z == x) _ fun z hz ch h S => ?_).mono ?_
  · refine callV_1 (V82 _ _ _ _ (onPtr_s ⟨x, ?_, rfl, S⟩))
    exact (St.cellOf (T := 3) (f := (0, 0)) (l := [.int .i64 x]) S (by simp)).trans rfl
  rintro v h5 ⟨chR, rfl, ownR, S⟩
  have W : WS D n A B (needsOf L) (usersOf L) O w (chR :: [(m1, .cells ⟨[.int .i64 x]⟩ 3 (0, 0))] :: ch' :: C) h5 := ⟨gA, gB, sa, sb, S.inn⟩
  have W := W.swap2
  have rd : ∀ {h' : Heap} {X : List Chunk}, St D ([(m1, .cells ⟨[.int .i64 x]⟩ 3 (0, 0))] :: X) h' → hcell h' ⟨m1, 0, none⟩ = some (.int .i64 x) := fun S => S.ld0
  refine ⟨_, _, _, rfl, _, rd W.cc, W.swap.new fun m2 h6 W => ?_⟩
  refine WS.app ownO W (by omega) fun aO cO chO h7 ownO W => ⟨_, _, _, rfl, ?_⟩
  have W := W.swap
  have hxt : x.toNat < 65 := by omega
  have hxe : ((x.toNat : Nat) : Int) = x := by omega
  obtain ⟨-, aB, cB, eB⟩ := W.sl hxt
  have rb := W.b hxt
  rw [eB] at rb
  refine ⟨_, rd W.cc, onPtr_s ⟨by omega, by omega, _, _, _, by rw [Nat.mul_one, Nat.zero_add]; exact rb, ?_⟩⟩
  have hout : ∀ k ∈ out, ∀ p ∈ L, p.1 = k → p.2 ∈ out := hG.met
  have hG2 : Greedy L n (out ++ [x]) := .snoc hG hnx fun j hj => hle j ((hr j).2 hj)
  have hol2 : (out ++ [x]).length ≤ 64 := by have := nodup_len hG2.nodup hG2.mem g0; omega
  refine ⟨fun p m c z h => ∃ (t l r' : List Int) (chR : Chunk) (O' : Nat → Int), usersOf L x.toNat = t ++ l ∧ z = ((List.length t : Nat) : Int) ∧ m = List.length r' ∧ Own D 3 1 p c (r'.map eI) chR ∧ WS D n A B (needsOf L) (usersOf L) O' w (chR :: chO :: C) h ∧ r'.Nodup ∧
    (∀ k : Nat, 1 ≤ k → (k : Int) ≤ n → O' k = (cR L out k : Int) - t.count (k : Int)) ∧ ∀ k, k ∈ r' ↔ 1 ≤ k ∧ k ≤ n ∧ k ∉ out ++ [x] ∧ O' k.toNat = 0,
    fun _ _ _ z _ => (usersOf L x.toNat).length - z.toNat, ⟨[], _, _, chR, O, rfl, rfl, rfl, ownR, W.drop.swap, ?_, fun k a b => by simpa using hO k a b, fun k => ?_⟩, ?_⟩
  · exact List.Pairwise.filter _ hnd
  · rw [keepI_mem, hr, nx1_iff]
    simp
    constructor
    · rintro ⟨⟨a, b, c, d⟩, e⟩
      have := hO k.toNat (by omega) (by omega)
      rw [show ((k.toNat : Nat) : Int) = k by omega] at this
      exact ⟨a, b, ⟨c, e⟩, by omega⟩
    · rintro ⟨a, b, ⟨c, e⟩, d⟩
      have := hO k.toNat (by omega) (by omega)
      rw [show ((k.toNat : Nat) : Int) = k by omega] at this
      exact ⟨⟨a, b, c, by omega⟩, e⟩
  clear rb W rd ownR
  rintro - h8 p m c z ⟨t, l, r', chR, O', hU, rfl, rfl, ownR, W, hnd', hO', hr'⟩
  have hUl := congrArg List.length hU
  rw [List.length_append] at hUl
  refine cIf (fun hlt => ?_) fun hge => ?_
  · rcases l with _ | ⟨u, l⟩
    · simp at hUl; omega
    have hum : u ∈ usersOf L x.toNat := by rw [hU]; simp
    obtain ⟨q, hq, rfl⟩ := List.mem_map.1 hum
    obtain ⟨hqL, hqx⟩ := List.mem_filter.1 hq
    have hqx : q.2 = x := by simpa [hxe] using hqx
    have hb := hp1 q hqL
    have hqt : q.1.toNat < 65 := by omega
    have hqe : ((q.1.toNat : Nat) : Int) = q.1 := by omega
    have hcnt : (usersOf L x.toNat).count q.1 = t.count q.1 + (l.count q.1 + 1) := by rw [hU, List.count_append, List.count_cons_self]
    have hc1 := cR_snoc (L := L) (k := q.1) hnx.2.2.1
    have hc2 := users_count (L := L) (k := q.1) (x := x.toNat)
    rw [hxe] at hc2
    have ho := hO' q.1.toNat (by omega) (by omega)
    rw [hqe] at ho
    have hpos : 1 ≤ O' q.1.toNat := by omega
    have hcl : cR L out q.1 ≤ L.length := List.length_filter_le ..
    have hno : q.1 ∉ out ++ [x] := by
      intro hm
      have : cR L out q.1 = 0 := by
        rcases List.mem_append.1 hm with hm | hm
        · exact cR_zero.2 (hout _ hm)
        · simp at hm; rw [hm]; exact (nx1_iff.1 hnx).2.2.2
      omega
    have hnr : q.1 ∉ r' := fun hm => by have := ((hr' _).1 hm).2.2.2; omega
    have hrl' : r'.length ≤ 64 := by have := nodup_len hnd' (fun k hk => ⟨((hr' k).1 hk).1, ((hr' k).1 hk).2.1⟩) g0; omega
    have hgu : (usersOf L x.toNat)[t.length]? = some q.1 := by rw [hU]; simp
    have rO := W.o hqt
    refine WS.user W hxt eB rfl hgu fun b o c0 => ⟨by omega, by omega, _, c0, onPtr_s ⟨by omega, by omega, _, by rw [Nat.mul_one, Nat.zero_add]; exact rO, onPtr_s ⟨by omega, by omega, ?_⟩⟩⟩
    rw [Nat.mul_one, Nat.zero_add, w64 (x := O' q.1.toNat - 1) (by omega) (by omega)]
    refine W.setO hqt fun h9 W => ?_
    have rO := W.o hqt
    rw [updF_self] at rO
    refine onPtr_s ⟨by omega, by omega, _, by rw [Nat.zero_add]; exact rO, ?_⟩
    have hul := usersOf_len L x.toNat
    rw [w64n (by omega)]
    have hOn : ∀ k : Nat, 1 ≤ k → (k : Int) ≤ n → updF O' q.1.toNat (O' q.1.toNat - 1) k = (cR L out k : Int) - (t ++ [q.1]).count (k : Int) := by
      intro k a b
      have := hO' k a b
      unfold updF
      rw [List.count_append]
      by_cases hk : k = q.1.toNat
      · subst hk; rw [if_pos rfl, hqe, List.count_singleton_self]; omega
      · rw [if_neg hk, List.count_eq_zero_of_not_mem (a := (k : Int)) (l := [q.1]) (by simp; omega)]; omega
    have hme : (usersOf L x.toNat).length - Int.toNat ((t.length + 1 : Nat) : Int) < (usersOf L x.toNat).length - Int.toNat ((t.length : Nat) : Int) := by simp only [Int.toNat_natCast]; simp at hUl; omega
    have hrn : ∀ k, k ∉ r' ∨ k ∈ r' → (1 ≤ k ∧ k ≤ n ∧ k ∉ out ++ [x] ∧ updF O' q.1.toNat (O' q.1.toNat - 1) k.toNat = 0 ↔ k ∈ r' ∨ k = q.1 ∧ O' q.1.toNat - 1 = 0) := by
      intro k _
      rw [hr']
      unfold updF
      constructor
      · rintro ⟨a, b, c, d⟩
        by_cases hk : k = q.1
        · subst hk; rw [if_pos rfl] at d; exact .inr ⟨rfl, d⟩
        · rw [if_neg (by omega)] at d; exact .inl ⟨a, b, c, d⟩
      · rintro (⟨a, b, c, d⟩ | ⟨rfl, d⟩)
        · have : k ≠ q.1 := by rintro rfl; omega
          rw [if_neg (by omega)]; exact ⟨a, b, c, d⟩
        · rw [if_pos rfl]; exact ⟨hb.1, hb.2, hno, d⟩
    refine cEq (fun h0 => W.new fun m3 h10 W => WS.app ownR W (by omega) fun a' c' ch' h11 own W => ⟨_, _, _, rfl, ⟨t ++ [q.1], l, r' ++ [q.1], ch', _, by rw [hU]; simp, by simp, rfl, own, W, ?_, hOn, fun k => ?_⟩, hme⟩) fun h0 => ⟨⟨t ++ [q.1], l, r', chR, _, by rw [hU]; simp, by simp, rfl, ownR, W, hnd', hOn, fun k => ?_⟩, hme⟩
    · rw [List.nodup_append]
      refine ⟨hnd', by simp, fun a ha b hb e => ?_⟩
      simp at hb; subst hb; subst e
      exact hnr ha
    · rw [hrn k (Classical.em _).symm, List.mem_append, List.mem_singleton]
      constructor
      · rintro (h | rfl)
        · exact .inl h
        · exact .inr ⟨rfl, h0⟩
      · rintro (h | ⟨rfl, -⟩)
        · exact .inl h
        · exact .inr rfl
    · rw [hrn k (Classical.em _).symm]
      exact ⟨.inl, fun h => h.resolve_right fun e => h0 e.2⟩
  · have : l = [] := List.eq_nil_of_length_eq_zero (by omega)
    subst this
    rw [List.append_nil] at hU
    have hOe : ∀ k : Nat, 1 ≤ k → (k : Int) ≤ n → O' k = (cR L (out ++ [x]) k : Int) := by
      intro k a b
      have h1 := hO' k a b
      have h2 := cR_snoc (L := L) (k := (k : Int)) hnx.2.2.1
      have h3 := users_count (L := L) (k := (k : Int)) (x := x.toNat)
      rw [hxe] at h3
      rw [hU] at h3
      omega
    refine ⟨⟨r', out ++ [x], chR, chO, O', rfl, rfl, ownR, ownO, W, hnd', hG2, hOe, fun k => ?_⟩, by simp at hol2 ⊢; omega⟩
    rw [hr', nx1_iff]
    constructor
    · rintro ⟨a, b, c, d⟩
      have := hOe k.toNat (by omega) (by omega)
      rw [show ((k.toNat : Nat) : Int) = k by omega] at this
      exact ⟨a, b, c, by omega⟩
    · rintro ⟨a, b, c, d⟩
      have := hOe k.toNat (by omega) (by omega)
      rw [show ((k.toNat : Nat) : Int) = k by omega] at this
      exact ⟨a, b, c, by omega⟩
end Go.Proofs.Ytljgfkiiikcaaaa

/- Nodes in order: graph.ordered, told in the symbolic engine's words. -/
set_option linter.unusedVariables false
namespace Go.Proofs.Ytljgfkiiikcaaaa
open Go Go.Proofs
attribute [local irreducible] appK copyK delK updK lookK makeK rangeK nextM entryM mapEntryK entryStK lenMapK clearK
variable {Q : V → Mem → Prop}

theorem PRun.fz {P : Program} {g : FuncId} {args : List V} {Q : V → Mem → Prop}
    (hh : ∀ (D : Fz) (C : List Chunk) (h : Heap) (vs : List Value), St D C h → RpL D [] vs args → Run P g vs h fun v h' => ∃ D', Le D D' ∧ St D' C h' ∧ ∃ x, Rp D' [] v x ∧ Q x []) : PRun P g [] args Q := by
  intro D ρ chs C h vs M F
  have h1 : ρ = [] := List.eq_nil_of_length_eq_zero M.len
  have h2 : chs = [] := List.eq_nil_of_length_eq_zero M.lch
  subst h1; subst h2
  refine (hh D C h vs (by simpa using M.st) F).mono ?_
  rintro v h' ⟨D', l, S, x, hx, hQ⟩
  exact ⟨D', [], [], x, [], l, ⟨rfl, rfl, fun i L ab ch h => (by simp at h), by simpa using S⟩, hx, hQ⟩
def tabU (N : Nat) (f : Nat → U) : List U := (List.range N).map f
theorem tabU_len (N : Nat) (f : Nat → U) : (tabU N f).length = N := by simp [tabU]
theorem tabU_get {N k : Nat} (f : Nat → U) (h : k < N) : (tabU N f)[k]? = some (f k) := by simp [tabU, h]
/-- A web's cells as data. -/
def webU (n : Int) (L : List Stk) (O : Nat → Int) : List U := .n n :: (tabU 65 (fun k => .l 1 ((needsOf L k).map eI)) ++ (tabU 65 (fun k => .n (O k)) ++ tabU 65 (fun k => .l 1 ((usersOf L k).map eI))))
theorem ug_get : ∀ (l : List U) (k : Nat), ug l k = l[k]?
  | [], k => by cases k <;> rfl
  | x :: l, 0 => rfl
  | x :: l, k + 1 => by simp only [ug, List.getElem?_cons_succ]; exact ug_get l k
theorem web_needs {n : Int} {L : List Stk} {O : Nat → Int} {k : Nat} (h : k < 65) : ug (webU n L O) (1 + k) = some (.l 1 ((needsOf L k).map eI)) := by
  rw [ug_get, webU, Nat.add_comm, List.getElem?_cons_succ, List.getElem?_append_left (by rw [tabU_len]; exact h), tabU_get _ h]
theorem rd_web {D : Fz} {n : Int} {A B : Nat → Value} {L : List Stk} {O : Nat → Int} {w : Nat} {T : TypeId} (hw : D w = some (.cells ⟨cellsW n A B O⟩ T (0, 0))) (ha : RdW D A (needsOf L)) (hb : RdW D B (usersOf L)) :
    Rd D (.pointer (some ⟨w, 0, none⟩)) (.p (some (webU n L O))) := by
  refine .pp w 0 _ T _ _ (fun j => ((cellsW n A B O)[j]?).getD undef) hw ?_ ?_
  · intro j u hu
    have hj : j < 196 := by have := (List.getElem?_eq_some_iff.1 hu).1; simpa [webU, tabU_len] using this
    have : j < (cellsW n A B O).length := by rw [W_len]; exact hj
    simp [this]
  · intro j u hu
    have hj : j < 196 := by have := (List.getElem?_eq_some_iff.1 hu).1; simpa [webU, tabU_len] using this
    rcases Nat.eq_zero_or_pos j with rfl | h0
    · simp [webU] at hu; subst hu
      exact .int _ _
    obtain ⟨j, rfl⟩ : ∃ i, j = i + 1 := ⟨j - 1, by omega⟩
    rw [webU, List.getElem?_cons_succ] at hu
    by_cases h1 : j < 65
    · rw [List.getElem?_append_left (by rw [tabU_len]; exact h1), tabU_get _ h1] at hu
      cases hu
      obtain ⟨a, c, e, r⟩ := ha j h1
      rw [Nat.add_comm, W_A h1, Option.getD_some, e]; exact r
    rw [List.getElem?_append_right (by rw [tabU_len]; omega), tabU_len] at hu
    by_cases h2 : j - 65 < 65
    · rw [List.getElem?_append_left (by rw [tabU_len]; exact h2), tabU_get _ h2] at hu
      cases hu
      rw [show j + 1 = 66 + (j - 65) by omega, W_O h2]
      exact .int _ _
    · have h3 : j - 65 - 65 < 65 := by omega
      rw [List.getElem?_append_right (by rw [tabU_len]; omega), tabU_len, tabU_get _ h3] at hu
      cases hu
      obtain ⟨a, c, e, r⟩ := hb _ h3
      rw [show j + 1 = 131 + (j - 65 - 65) by omega, W_B h3, Option.getD_some, e]; exact r
theorem ordered_S {n : Int} {L : List Stk} (k1 : ¬ gOK n L → Q (.t [.u (.p none), .l 1 [], .i 1]) [])
    (k2 : gOK n L → ∀ out : List Int, Greedy L n out → (∀ k, ¬ Nx1 L n out k) → (out.length : Int) < n → Q (.t [.u (.p none), .l 1 [], .i 9]) [])
    (k3 : gOK n L → ∀ (out : List Int) (O : Nat → Int), Greedy L n out → (∀ k, ¬ Nx1 L n out k) → ¬ (out.length : Int) < n → Q (.t [.u (.p (some (webU n L O))), .l 1 (out.map eI), .i 0]) []) :
    PRun Try.prog 37 [] [.i n, .l 2 (L.map eS)] Q := by
  refine .fz fun D C h vs S F => ?_
  obtain ⟨v, z, rfl, h1, h2⟩ := F.two
  rw [Rd.int_iff.1 h1.u_inv]
  have hx := h2.u_inv
  obtain ⟨a, c, rfl, -, -⟩ := hx.shape
  rw [List.length_map] at hx ⊢
  refine V37 _ _ _ _ _ _ ?_
  unfold VC37
  refine made_spec S hx (fun hg h' S => ⟨_, rfl, ⟨D, .refl _, S, _, .t (.cons (.u .pn) (.cons (.u (.nil _ _ _)) (.cons (.u (.int _ _)) .nil))), k1 hg⟩⟩) fun hg A B w h' W => ⟨_, rfl, ?_⟩
  rw [Option.isNone_some, cond_false]
  refine (order_spec hg W).mono ?_
  rintro v h2 ⟨aO, cO, out, ch, O, rfl, hG, hN, own, W⟩
  refine ⟨_, _, _, rfl, cIf (fun hlt => ⟨D, .refl _, W.cc.drop, _, .t (.cons (.u .pn) (.cons (.u (.nil _ _ _)) (.cons (.u (.int _ _)) .nil))), k2 hg out hG hN hlt⟩) fun hge => ?_⟩
  obtain ⟨gA, gB, sa, sb, S⟩ := W
  have S2 : St D ((webC n A B O w ++ ((row 65 gA).flatten ++ ((row 65 gB).flatten ++ ch))) :: C) h2 := S.perm (by simp)
  obtain ⟨D', l, hf, S3⟩ := S2.freeze
  have ra := sa.rd l fun p hp => hf p (by simp only [List.mem_append]; exact .inr (.inl hp))
  have rb := sb.rd l fun p hp => hf p (by simp only [List.mem_append]; exact .inr (.inr (.inl hp)))
  have ro := own.rd l fun p hp => hf p (by simp only [List.mem_append]; exact .inr (.inr (.inr hp)))
  rw [List.length_map] at ro
  exact ⟨D', l, S3, _, .t (.cons (.u (rd_web (hf (w, .cells ⟨cellsW n A B O⟩ 139 (0, 0)) (by simp)) ra rb)) (.cons (.u ro) (.cons (.u (.int _ _)) .nil))), k3 hg out O hG hN hge⟩
end Go.Proofs.Ytljgfkiiikcaaaa

/- What the functions do, written by program (psv.py) and held against the program by the kernel. -/
set_option linter.unusedVariables false
set_option maxRecDepth 100000
namespace Go.Proofs.Ytljgfkiiikcaaaa
open Go Go.Proofs
theorem mixT2 : Try.prog.follows .mixedOrders = true := by kernel_rfl
/- bom.plan.wants -/
theorem S41w {p_0 : Int} {p_1 : List (List U)} {p_2 : Int} {p_3 : List (List U)} {p_4 : Int} {p_5 : Int} {p_6 : Int} {p_7 : Int} {p_8 : Int} {p_9 : List Int} {p_10 : List (List U)} {p_11 : List (List U)} {p_12 : List (List U)} {s_0 : Int} {s_1 : Int} {Q : V → Mem → Prop} (hh : 0 ≤ s_0 ∧ s_0 < (33 : Int) ∧ (elL p_9 s_0 (fun x1 => PRun Try.prog 51 [] [.i x1, .i s_1] (post [.I, .I] [] (fun x2 x3 => (bif x3 != 0 then Q (.i 5) [.c [.i p_0, .l 7 p_1, .i p_2, .l 4 p_3, .i p_4, .i p_5, .i p_6, .i p_7, .i p_8, .n .i64 33 p_9, .w 1, .w 2, .w 3], .w 43 2 p_10, .w 3 1 p_11, .w 43 2 p_12] else (bif decide (x2 > 1125899906842624) then Q (.i 5) [.c [.i p_0, .l 7 p_1, .i p_2, .l 4 p_3, .i p_4, .i p_5, .i p_6, .i p_7, .i p_8, .n .i64 33 p_9, .w 1, .w 2, .w 3], .w 43 2 p_10, .w 3 1 p_11, .w 43 2 p_12] else 0 ≤ s_0 ∧ s_0 < (33 : Int) ∧ (Q (.i 0) [.c [.i p_0, .l 7 p_1, .i p_2, .l 4 p_3, .i p_4, .i p_5, .i p_6, .i p_7, .i p_8, .n .i64 33 (List.set p_9 (Int.toNat s_0) x2), .w 1, .w 2, .w 3], .w 43 2 p_10, .w 3 1 p_11, .w 43 2 p_12])) : Prop)))))) : PRun Try.prog 41 [.c [.i p_0, .l 7 p_1, .i p_2, .l 4 p_3, .i p_4, .i p_5, .i p_6, .i p_7, .i p_8, .n .i64 33 p_9, .w 1, .w 2, .w 3], .w 43 2 p_10, .w 3 1 p_11, .w 43 2 p_12] [.r 0 0, .a [.i s_0, .i s_1]] Q :=
  funS2 mixT2 Try.func41 (by kernel_rfl) (H := ⟨[], [], [], [], [], false, 64⟩) (n := 2) (by kernel_rfl) hh

/- bom.plan.makes -/
theorem S22 {p_0 : Int} {p_1 : List (List U)} {p_2 : Int} {p_3 : List (List U)} {p_4 : Int} {p_5 : Int} {p_6 : Int} {p_7 : Int} {p_8 : Int} {p_9 : List Int} {p_10 : List (List U)} {p_11 : List (List U)} {p_12 : List (List U)} {kind : Int} {n : Int} {Q : V → Mem → Prop} (hh : PRun Try.prog 32 [] [.a [.i p_0, .l 7 p_1, .i p_2, .l 4 p_3, .i p_4, .i p_5, .i p_6, .i p_7], .i kind] (post [.I] [] (fun x1 => (bif x1 == 0 then apOk p_10 [[.n kind, .n n]] ∧ (Q (.i 0) [.c [.i p_0, .l 7 p_1, .i p_2, .l 4 p_3, .i p_4, .i p_5, .i p_6, .i p_7, .i p_8, .n .i64 33 p_9, .w 4, .w 2, .w 3], .x, .w 3 1 p_11, .w 43 2 p_12, .w 43 2 (p_10 ++ [[.n kind, .n n]])]) else elL p_1 (IntKind.wrap .i64 (x1 - 1)) (fun r1 => dI .i64 (ug r1 0) (fun x2 => dI .i64 (ug r1 1) (fun x3 => dI .i64 (ug r1 2) (fun x4 => dL 2 (ug r1 3) (fun l1 => dI .i64 (ug r1 4) (fun x5 => dI .i64 (ug r1 5) (fun x6 => dI .i64 (ug r1 6) (fun x7 => PRun Try.prog 40 [] [.a [.i x2, .i x3, .i x4, .l 2 l1, .i x5, .i x6, .i x7], .i n] (post [.I, .I] [] (fun x8 x9 => (bif x9 != 0 then Q (.i 5) [.c [.i p_0, .l 7 p_1, .i p_2, .l 4 p_3, .i p_4, .i p_5, .i p_6, .i p_7, .i p_8, .n .i64 33 p_9, .w 1, .w 2, .w 3], .w 43 2 p_10, .w 3 1 p_11, .w 43 2 p_12] else (bif decide (x8 > 1000) then Q (.i 5) [.c [.i p_0, .l 7 p_1, .i p_2, .l 4 p_3, .i p_4, .i p_5, .i p_6, .i p_7, .i p_8, .n .i64 33 p_9, .w 1, .w 2, .w 3], .w 43 2 p_10, .w 3 1 p_11, .w 43 2 p_12] else 0 ≤ IntKind.wrap .i64 (x1 - 1) ∧ IntKind.wrap .i64 (x1 - 1) < (List.length p_11 : Int) ∧ (∀ k1 : Int → List (List U) → Int → List (List U) → Int → Int → Int → Int → Int → List Int → List (List U) → List (List U) → List (List U) → Prop, (∀ x10 : Int, ∀ l2 : List (List U), ∀ x11 : Int, ∀ l3 : List (List U), ∀ x12 : Int, ∀ x13 : Int, ∀ x14 : Int, ∀ x15 : Int, ∀ x16 : Int, ∀ a1 : List Int, ∀ l4 : List (List U), ∀ l5 : List (List U), ∀ l6 : List (List U), (PRun Try.prog 28 [] [.a [.i x2, .i x3, .i x4, .l 2 l1, .i x5, .i x6, .i x7], .i x16, .i x8] (post [.L 2, .I] [] (fun l7 x17 => ∃ (I1 : Int → Int → Int → List (List U) → Int → List (List U) → Int → Int → Int → Int → Int → List Int → List (List U) → List (List U) → List (List U) → Prop) (f1 : Int → Int → Int → List (List U) → Int → List (List U) → Int → Int → Int → Int → Int → List Int → List (List U) → List (List U) → List (List U) → Nat), I1 x17 0 x10 l2 x11 l3 x12 x13 x14 x15 x16 a1 l4 l5 l6 ∧ (∀ x18 : Int, ∀ x19 : Int, ∀ x20 : Int, ∀ l8 : List (List U), ∀ x21 : Int, ∀ l9 : List (List U), ∀ x22 : Int, ∀ x23 : Int, ∀ x24 : Int, ∀ x25 : Int, ∀ x26 : Int, ∀ a2 : List Int, ∀ l10 : List (List U), ∀ l11 : List (List U), ∀ l12 : List (List U), I1 x18 x19 x20 l8 x21 l9 x22 x23 x24 x25 x26 a2 l10 l11 l12 → (bif decide (x19 < (List.length l7 : Int)) then elL l7 x19 (fun r2 => dI .i64 (ug r2 0) (fun x27 => dI .i64 (ug r2 1) (fun x28 => (bif x18 == 0 then PRun Try.prog 41 [.c [.i x20, .l 7 l8, .i x21, .l 4 l9, .i x22, .i x23, .i x24, .i x25, .i x26, .n .i64 33 a2, .w 1, .w 2, .w 3], .w 43 2 l10, .w 3 1 l11, .w 43 2 l12] [.r 0 0, .a [.i x27, .i x28]] (post [.I] [.c [.i .i64, .l 7, .i .i64, .l 4, .i .i64, .i .i64, .i .i64, .i .i64, .i .i64, .n 33, .ow 43 2, .ow 3 1, .ow 43 2], .X, .X, .X] (fun x29 x30 l13 x31 l14 x32 x33 x34 x35 x36 a3 l15 l16 l17 => (I1 x29 (IntKind.wrap .i64 (x19 + 1)) x30 l13 x31 l14 x32 x33 x34 x35 x36 a3 l15 l16 l17 ∧ f1 x29 (IntKind.wrap .i64 (x19 + 1)) x30 l13 x31 l14 x32 x33 x34 x35 x36 a3 l15 l16 l17 < f1 x18 x19 x20 l8 x21 l9 x22 x23 x24 x25 x26 a2 l10 l11 l12 : Prop))) else I1 x18 (IntKind.wrap .i64 (x19 + 1)) x20 l8 x21 l9 x22 x23 x24 x25 x26 a2 l10 l11 l12 ∧ f1 x18 (IntKind.wrap .i64 (x19 + 1)) x20 l8 x21 l9 x22 x23 x24 x25 x26 a2 l10 l11 l12 < f1 x18 x19 x20 l8 x21 l9 x22 x23 x24 x25 x26 a2 l10 l11 l12)))) else Q (.i x18) [.c [.i x20, .l 7 l8, .i x21, .l 4 l9, .i x22, .i x23, .i x24, .i x25, .i x26, .n .i64 33 a2, .w 4, .w 5, .w 6], .x, .x, .x, .w 43 2 l10, .w 3 1 l11, .w 43 2 l12]))))) → k1 x10 l2 x11 l3 x12 x13 x14 x15 x16 a1 l4 l5 l6) → (bif decide (IntKind.wrap .i64 (IntKind.wrap .i64 (x8 * x3) - n) > 0) then apOk p_12 [[.n kind, .n (IntKind.wrap .i64 (IntKind.wrap .i64 (x8 * x3) - n))]] ∧ (k1 p_0 p_1 p_2 p_3 p_4 p_5 p_6 p_7 p_8 p_9 p_10 (List.set p_11 (Int.toNat (IntKind.wrap .i64 (x1 - 1))) [.n x8]) (p_12 ++ [[.n kind, .n (IntKind.wrap .i64 (IntKind.wrap .i64 (x8 * x3) - n))]])) else k1 p_0 p_1 p_2 p_3 p_4 p_5 p_6 p_7 p_8 p_9 p_10 (List.set p_11 (Int.toNat (IntKind.wrap .i64 (x1 - 1))) [.n x8]) p_12))) : Prop))))))))))) : Prop)))) : PRun Try.prog 22 [.c [.i p_0, .l 7 p_1, .i p_2, .l 4 p_3, .i p_4, .i p_5, .i p_6, .i p_7, .i p_8, .n .i64 33 p_9, .w 1, .w 2, .w 3], .w 43 2 p_10, .w 3 1 p_11, .w 43 2 p_12] [.r 0 0, .i kind, .i n] Q :=
  funS2 mixT2 Try.func22 (by kernel_rfl) (H := ⟨[((22, 15, 8), ⟨[(10, .I), (101, .I)], [(0, .c [.i .i64, .l 7, .i .i64, .l 4, .i .i64, .i .i64, .i .i64, .i .i64, .i .i64, .n 33, .ow 43 2, .ow 3 1, .ow 43 2])]⟩)], [((22, 13, 5), ⟨[], [(0, .c [.i .i64, .l 7, .i .i64, .l 4, .i .i64, .i .i64, .i .i64, .i .i64, .i .i64, .n 33, .ow 43 2, .ow 3 1, .ow 43 2])]⟩)], [], [], [], false, 64⟩) (n := 2) (by kernel_rfl) hh

/- bom.Expand -/
theorem S7 {c_0 : Int} {c_1 : List (List U)} {c_2 : Int} {c_3 : List (List U)} {c_4 : Int} {c_5 : Int} {c_6 : Int} {c_7 : Int} {kind : Int} {n : Int} {level : Int} {have0 : List (List U)} {Q : V → Mem → Prop} (hh : PRun Try.prog 16 [] [.a [.i c_0, .l 7 c_1, .i c_2, .l 4 c_3, .i c_4, .i c_5, .i c_6, .i c_7], .i kind, .i level, .l 2 have0] (post [.I] [] (fun x1 => (bif x1 != 0 then Q (.t [.a [.l 2 [], .l 1 [], .l 2 []], .i x1]) [] else PRun Try.prog 17 [] [.i n, .i 1, .i 1125899906842624] (post [.B] [] (fun b1 => (bif !b1 then Q (.t [.a [.l 2 [], .l 1 [], .l 2 []], .i 1]) [] else (0 ≤ (List.length c_1 : Int) ∧ (List.length c_1 : Int) ≤ 1000000 ∧ (List.length c_1 : Int) = (List.length c_1 : Int) ∧ (dup2 (0 ≤ kind ∧ kind < (33 : Int) ∧ ((PRun Try.prog 19 [] [.a [.i c_0, .l 7 c_1, .i c_2, .l 4 c_3, .i c_4, .i c_5, .i c_6, .i c_7]] (post [.L 2] [] (fun l1 => (dup2 (PRun Try.prog 18 [] [.i c_0, .l 2 l1] (post [.L 1, .I] [] (fun l2 x2 => ∀ X1 : Ob, ∃ (I1 : Int → Int → List (List U) → Int → List (List U) → Int → Int → Int → Int → Int → List Int → List (List U) → List (List U) → List (List U) → Int → Prop) (f1 : Int → Int → List (List U) → Int → List (List U) → Int → Int → Int → Int → Int → List Int → List (List U) → List (List U) → List (List U) → Int → Nat), I1 (IntKind.wrap .i64 ((List.length l2 : Int) - 1)) c_0 c_1 c_2 c_3 c_4 c_5 c_6 c_7 level (List.set (List.replicate 33 0) (Int.toNat kind) n) [] (List.replicate (Int.toNat (List.length c_1 : Int)) ([.n 0] : List U)) [] x2 ∧ (∀ x3 : Int, ∀ x4 : Int, ∀ l3 : List (List U), ∀ x5 : Int, ∀ l4 : List (List U), ∀ x6 : Int, ∀ x7 : Int, ∀ x8 : Int, ∀ x9 : Int, ∀ x10 : Int, ∀ a1 : List Int, ∀ l5 : List (List U), ∀ l6 : List (List U), ∀ l7 : List (List U), ∀ x11 : Int, I1 x3 x4 l3 x5 l4 x6 x7 x8 x9 x10 a1 l5 l6 l7 x11 → (bif decide (x3 ≥ 0) then elL l2 x3 (fun r1 => dI .i64 (ug r1 0) (fun x12 => (.o X1 : AB) = .o X1 ∧ (0 ≤ x12 ∧ x12 < (33 : Int) ∧ (elL a1 x12 (fun x13 => PRun Try.prog 21 [] [.l 2 have0, .i x12] (post [.I] [] (fun x14 => ∀ k1 : Bool → Prop, (∀ b2 : Bool, ((bif b2 then PRun Try.prog 22 [.c [.i x4, .l 7 l3, .i x5, .l 4 l4, .i x6, .i x7, .i x8, .i x9, .i x10, .n .i64 33 a1, .w 1, .w 2, .w 3], .w 43 2 l5, .w 3 1 l6, .w 43 2 l7] [.r 0 0, .i x12, .i (IntKind.wrap .i64 (x13 - x14))] (post [.I] [.c [.i .i64, .l 7, .i .i64, .l 4, .i .i64, .i .i64, .i .i64, .i .i64, .i .i64, .n 33, .ow 43 2, .ow 3 1, .ow 43 2], .X, .X, .X] (fun x15 x16 l8 x17 l9 x18 x19 x20 x21 x22 a2 l10 l11 l12 => (I1 (IntKind.wrap .i64 (x3 - 1)) x16 l8 x17 l9 x18 x19 x20 x21 x22 a2 l10 l11 l12 x15 ∧ f1 (IntKind.wrap .i64 (x3 - 1)) x16 l8 x17 l9 x18 x19 x20 x21 x22 a2 l10 l11 l12 x15 < f1 x3 x4 l3 x5 l4 x6 x7 x8 x9 x10 a1 l5 l6 l7 x11 : Prop))) else I1 (IntKind.wrap .i64 (x3 - 1)) x4 l3 x5 l4 x6 x7 x8 x9 x10 a1 l5 l6 l7 x11 ∧ f1 (IntKind.wrap .i64 (x3 - 1)) x4 l3 x5 l4 x6 x7 x8 x9 x10 a1 l5 l6 l7 x11 < f1 x3 x4 l3 x5 l4 x6 x7 x8 x9 x10 a1 l5 l6 l7 x11)) → k1 b2) → (bif x11 == 0 then k1 (decide (IntKind.wrap .i64 (x13 - x14) > 0)) else k1 false)))))))) else (.o X1 : AB) = .o X1 ∧ (bif x11 != 0 then Q (.t [.a [.l 2 [], .l 1 [], .l 2 []], .i x11]) [] else PRun Try.prog 24 [.w 43 2 l5] [.w 0, .f 23 [] []] (post [] [.row 43 2] (fun l13 => (PRun Try.prog 24 [.w 43 2 l7] [.w 0, .f 23 [] []] (post [] [.row 43 2] (fun l14 => (Q (.t [.a [.l 2 l13, .l 1 l6, .l 2 l14], .i 0]) [] : Prop))) : Prop))))))))) : Prop)))) ∧ (PRun Try.prog 19 [] [.a [.i c_0, .l 7 c_1, .i c_2, .l 4 c_3, .i c_4, .i c_5, .i c_6, .i c_7]] (post [.L 2] [] (fun l1 => (PRun Try.prog 18 [] [.i c_0, .l 2 l1] (post [.L 1, .I] [] (fun l2 x2 => ∀ X1 : Ob, ∃ (I1 : Int → Int → List (List U) → Int → List (List U) → Int → Int → Int → Int → Int → List Int → List (List U) → List (List U) → List (List U) → Int → Prop) (f1 : Int → Int → List (List U) → Int → List (List U) → Int → Int → Int → Int → Int → List Int → List (List U) → List (List U) → List (List U) → Int → Nat), I1 (IntKind.wrap .i64 ((List.length l2 : Int) - 1)) c_0 c_1 c_2 c_3 c_4 c_5 c_6 c_7 level (List.set (List.replicate 33 0) (Int.toNat kind) n) [] (List.replicate (Int.toNat (List.length c_1 : Int)) ([.n 0] : List U)) [] x2 ∧ (∀ x3 : Int, ∀ x4 : Int, ∀ l3 : List (List U), ∀ x5 : Int, ∀ l4 : List (List U), ∀ x6 : Int, ∀ x7 : Int, ∀ x8 : Int, ∀ x9 : Int, ∀ x10 : Int, ∀ a1 : List Int, ∀ l5 : List (List U), ∀ l6 : List (List U), ∀ l7 : List (List U), ∀ x11 : Int, I1 x3 x4 l3 x5 l4 x6 x7 x8 x9 x10 a1 l5 l6 l7 x11 → (bif decide (x3 ≥ 0) then elL l2 x3 (fun r1 => dI .i64 (ug r1 0) (fun x12 => (.o X1 : AB) = .o X1 ∧ (0 ≤ x12 ∧ x12 < (33 : Int) ∧ (elL a1 x12 (fun x13 => PRun Try.prog 21 [] [.l 2 have0, .i x12] (post [.I] [] (fun x14 => ∀ k1 : Bool → Prop, (∀ b2 : Bool, ((bif b2 then PRun Try.prog 22 [.c [.i x4, .l 7 l3, .i x5, .l 4 l4, .i x6, .i x7, .i x8, .i x9, .i x10, .n .i64 33 a1, .w 1, .w 2, .w 3], .w 43 2 l5, .w 3 1 l6, .w 43 2 l7] [.r 0 0, .i x12, .i (IntKind.wrap .i64 (x13 - x14))] (post [.I] [.c [.i .i64, .l 7, .i .i64, .l 4, .i .i64, .i .i64, .i .i64, .i .i64, .i .i64, .n 33, .ow 43 2, .ow 3 1, .ow 43 2], .X, .X, .X] (fun x15 x16 l8 x17 l9 x18 x19 x20 x21 x22 a2 l10 l11 l12 => (I1 (IntKind.wrap .i64 (x3 - 1)) x16 l8 x17 l9 x18 x19 x20 x21 x22 a2 l10 l11 l12 x15 ∧ f1 (IntKind.wrap .i64 (x3 - 1)) x16 l8 x17 l9 x18 x19 x20 x21 x22 a2 l10 l11 l12 x15 < f1 x3 x4 l3 x5 l4 x6 x7 x8 x9 x10 a1 l5 l6 l7 x11 : Prop))) else I1 (IntKind.wrap .i64 (x3 - 1)) x4 l3 x5 l4 x6 x7 x8 x9 x10 a1 l5 l6 l7 x11 ∧ f1 (IntKind.wrap .i64 (x3 - 1)) x4 l3 x5 l4 x6 x7 x8 x9 x10 a1 l5 l6 l7 x11 < f1 x3 x4 l3 x5 l4 x6 x7 x8 x9 x10 a1 l5 l6 l7 x11)) → k1 b2) → (bif x11 == 0 then k1 (decide (IntKind.wrap .i64 (x13 - x14) > 0)) else k1 false)))))))) else (.o X1 : AB) = .o X1 ∧ (bif x11 != 0 then Q (.t [.a [.l 2 [], .l 1 [], .l 2 []], .i x11]) [] else PRun Try.prog 24 [.w 43 2 l5] [.w 0, .f 23 [] []] (post [] [.row 43 2] (fun l13 => (PRun Try.prog 24 [.w 43 2 l7] [.w 0, .f 23 [] []] (post [] [.row 43 2] (fun l14 => (Q (.t [.a [.l 2 l13, .l 1 l6, .l 2 l14], .i 0]) [] : Prop))) : Prop)))))))) : Prop)))))))) ∧ (0 ≤ (List.length c_1 : Int) ∧ (List.length c_1 : Int) ≤ 1000000 ∧ (List.length c_1 : Int) = (List.length c_1 : Int) ∧ (0 ≤ kind ∧ kind < (33 : Int) ∧ ((PRun Try.prog 19 [] [.a [.i c_0, .l 7 c_1, .i c_2, .l 4 c_3, .i c_4, .i c_5, .i c_6, .i c_7]] (post [.L 2] [] (fun l1 => (dup2 (PRun Try.prog 18 [] [.i c_0, .l 2 l1] (post [.L 1, .I] [] (fun l2 x2 => ∀ X1 : Ob, ∃ (I1 : Int → Int → List (List U) → Int → List (List U) → Int → Int → Int → Int → Int → List Int → List (List U) → List (List U) → List (List U) → Int → Prop) (f1 : Int → Int → List (List U) → Int → List (List U) → Int → Int → Int → Int → Int → List Int → List (List U) → List (List U) → List (List U) → Int → Nat), I1 (IntKind.wrap .i64 ((List.length l2 : Int) - 1)) c_0 c_1 c_2 c_3 c_4 c_5 c_6 c_7 level (List.set (List.replicate 33 0) (Int.toNat kind) n) [] (List.replicate (Int.toNat (List.length c_1 : Int)) ([.n 0] : List U)) [] x2 ∧ (∀ x3 : Int, ∀ x4 : Int, ∀ l3 : List (List U), ∀ x5 : Int, ∀ l4 : List (List U), ∀ x6 : Int, ∀ x7 : Int, ∀ x8 : Int, ∀ x9 : Int, ∀ x10 : Int, ∀ a1 : List Int, ∀ l5 : List (List U), ∀ l6 : List (List U), ∀ l7 : List (List U), ∀ x11 : Int, I1 x3 x4 l3 x5 l4 x6 x7 x8 x9 x10 a1 l5 l6 l7 x11 → (bif decide (x3 ≥ 0) then elL l2 x3 (fun r1 => dI .i64 (ug r1 0) (fun x12 => (.o X1 : AB) = .o X1 ∧ (0 ≤ x12 ∧ x12 < (33 : Int) ∧ (elL a1 x12 (fun x13 => PRun Try.prog 21 [] [.l 2 have0, .i x12] (post [.I] [] (fun x14 => ∀ k1 : Bool → Prop, (∀ b2 : Bool, ((bif b2 then PRun Try.prog 22 [.c [.i x4, .l 7 l3, .i x5, .l 4 l4, .i x6, .i x7, .i x8, .i x9, .i x10, .n .i64 33 a1, .w 1, .w 2, .w 3], .w 43 2 l5, .w 3 1 l6, .w 43 2 l7] [.r 0 0, .i x12, .i (IntKind.wrap .i64 (x13 - x14))] (post [.I] [.c [.i .i64, .l 7, .i .i64, .l 4, .i .i64, .i .i64, .i .i64, .i .i64, .i .i64, .n 33, .ow 43 2, .ow 3 1, .ow 43 2], .X, .X, .X] (fun x15 x16 l8 x17 l9 x18 x19 x20 x21 x22 a2 l10 l11 l12 => (I1 (IntKind.wrap .i64 (x3 - 1)) x16 l8 x17 l9 x18 x19 x20 x21 x22 a2 l10 l11 l12 x15 ∧ f1 (IntKind.wrap .i64 (x3 - 1)) x16 l8 x17 l9 x18 x19 x20 x21 x22 a2 l10 l11 l12 x15 < f1 x3 x4 l3 x5 l4 x6 x7 x8 x9 x10 a1 l5 l6 l7 x11 : Prop))) else I1 (IntKind.wrap .i64 (x3 - 1)) x4 l3 x5 l4 x6 x7 x8 x9 x10 a1 l5 l6 l7 x11 ∧ f1 (IntKind.wrap .i64 (x3 - 1)) x4 l3 x5 l4 x6 x7 x8 x9 x10 a1 l5 l6 l7 x11 < f1 x3 x4 l3 x5 l4 x6 x7 x8 x9 x10 a1 l5 l6 l7 x11)) → k1 b2) → (bif x11 == 0 then k1 (decide (IntKind.wrap .i64 (x13 - x14) > 0)) else k1 false)))))))) else (.o X1 : AB) = .o X1 ∧ (bif x11 != 0 then Q (.t [.a [.l 2 [], .l 1 [], .l 2 []], .i x11]) [] else PRun Try.prog 24 [.w 43 2 l5] [.w 0, .f 23 [] []] (post [] [.row 43 2] (fun l13 => (PRun Try.prog 24 [.w 43 2 l7] [.w 0, .f 23 [] []] (post [] [.row 43 2] (fun l14 => (Q (.t [.a [.l 2 l13, .l 1 l6, .l 2 l14], .i 0]) [] : Prop))) : Prop))))))))) : Prop)))) ∧ (PRun Try.prog 19 [] [.a [.i c_0, .l 7 c_1, .i c_2, .l 4 c_3, .i c_4, .i c_5, .i c_6, .i c_7]] (post [.L 2] [] (fun l1 => (PRun Try.prog 18 [] [.i c_0, .l 2 l1] (post [.L 1, .I] [] (fun l2 x2 => ∀ X1 : Ob, ∃ (I1 : Int → Int → List (List U) → Int → List (List U) → Int → Int → Int → Int → Int → List Int → List (List U) → List (List U) → List (List U) → Int → Prop) (f1 : Int → Int → List (List U) → Int → List (List U) → Int → Int → Int → Int → Int → List Int → List (List U) → List (List U) → List (List U) → Int → Nat), I1 (IntKind.wrap .i64 ((List.length l2 : Int) - 1)) c_0 c_1 c_2 c_3 c_4 c_5 c_6 c_7 level (List.set (List.replicate 33 0) (Int.toNat kind) n) [] (List.replicate (Int.toNat (List.length c_1 : Int)) ([.n 0] : List U)) [] x2 ∧ (∀ x3 : Int, ∀ x4 : Int, ∀ l3 : List (List U), ∀ x5 : Int, ∀ l4 : List (List U), ∀ x6 : Int, ∀ x7 : Int, ∀ x8 : Int, ∀ x9 : Int, ∀ x10 : Int, ∀ a1 : List Int, ∀ l5 : List (List U), ∀ l6 : List (List U), ∀ l7 : List (List U), ∀ x11 : Int, I1 x3 x4 l3 x5 l4 x6 x7 x8 x9 x10 a1 l5 l6 l7 x11 → (bif decide (x3 ≥ 0) then elL l2 x3 (fun r1 => dI .i64 (ug r1 0) (fun x12 => (.o X1 : AB) = .o X1 ∧ (0 ≤ x12 ∧ x12 < (33 : Int) ∧ (elL a1 x12 (fun x13 => PRun Try.prog 21 [] [.l 2 have0, .i x12] (post [.I] [] (fun x14 => ∀ k1 : Bool → Prop, (∀ b2 : Bool, ((bif b2 then PRun Try.prog 22 [.c [.i x4, .l 7 l3, .i x5, .l 4 l4, .i x6, .i x7, .i x8, .i x9, .i x10, .n .i64 33 a1, .w 1, .w 2, .w 3], .w 43 2 l5, .w 3 1 l6, .w 43 2 l7] [.r 0 0, .i x12, .i (IntKind.wrap .i64 (x13 - x14))] (post [.I] [.c [.i .i64, .l 7, .i .i64, .l 4, .i .i64, .i .i64, .i .i64, .i .i64, .i .i64, .n 33, .ow 43 2, .ow 3 1, .ow 43 2], .X, .X, .X] (fun x15 x16 l8 x17 l9 x18 x19 x20 x21 x22 a2 l10 l11 l12 => (I1 (IntKind.wrap .i64 (x3 - 1)) x16 l8 x17 l9 x18 x19 x20 x21 x22 a2 l10 l11 l12 x15 ∧ f1 (IntKind.wrap .i64 (x3 - 1)) x16 l8 x17 l9 x18 x19 x20 x21 x22 a2 l10 l11 l12 x15 < f1 x3 x4 l3 x5 l4 x6 x7 x8 x9 x10 a1 l5 l6 l7 x11 : Prop))) else I1 (IntKind.wrap .i64 (x3 - 1)) x4 l3 x5 l4 x6 x7 x8 x9 x10 a1 l5 l6 l7 x11 ∧ f1 (IntKind.wrap .i64 (x3 - 1)) x4 l3 x5 l4 x6 x7 x8 x9 x10 a1 l5 l6 l7 x11 < f1 x3 x4 l3 x5 l4 x6 x7 x8 x9 x10 a1 l5 l6 l7 x11)) → k1 b2) → (bif x11 == 0 then k1 (decide (IntKind.wrap .i64 (x13 - x14) > 0)) else k1 false)))))))) else (.o X1 : AB) = .o X1 ∧ (bif x11 != 0 then Q (.t [.a [.l 2 [], .l 1 [], .l 2 []], .i x11]) [] else PRun Try.prog 24 [.w 43 2 l5] [.w 0, .f 23 [] []] (post [] [.row 43 2] (fun l13 => (PRun Try.prog 24 [.w 43 2 l7] [.w 0, .f 23 [] []] (post [] [.row 43 2] (fun l14 => (Q (.t [.a [.l 2 l13, .l 1 l6, .l 2 l14], .i 0]) [] : Prop))) : Prop)))))))) : Prop))))))) : Prop))) : Prop)))) : PRun Try.prog 7 [] [.a [.i c_0, .l 7 c_1, .i c_2, .l 4 c_3, .i c_4, .i c_5, .i c_6, .i c_7], .i kind, .i n, .i level, .l 2 have0] Q :=
  funS2 mixT2 Try.func7 (by kernel_rfl) (H := ⟨[((38, 1, 9), ⟨[(3, .I)], [(4, .c [.i .i64, .l 7, .i .i64, .l 4, .i .i64, .i .i64, .i .i64, .i .i64, .i .i64, .n 33, .ow 43 2, .ow 3 1, .ow 43 2]), (6, .c [.i .i64])]⟩)], [((7, 13, 12), ⟨[(75, .B)], []⟩)], [20], [24], [], false, 64⟩) (n := 3) (by kernel_rfl) hh

/- bom.Expand$1 -/
theorem S23 {a_0 : Int} {a_1 : Int} {b_0 : Int} {b_1 : Int} {Q : V → Mem → Prop} (hh : Q (.i (IntKind.wrap .i64 (a_0 - b_0))) []) : PRun Try.prog 23 [] [.a [.i a_0, .i a_1], .a [.i b_0, .i b_1]] Q :=
  funS2 mixT2 Try.func23 (by kernel_rfl) (H := ⟨[], [], [], [], [], false, 64⟩) (n := 2) (by kernel_rfl) hh

end Go.Proofs.Ytljgfkiiikcaaaa

/- slices.SortFunc on an own row of numbers' rows, by the symbolic engine. -/
set_option linter.unusedVariables false
namespace Go.Proofs.Ytljgfkiiikcaaaa
open Go Go.Sort Go.Shelf Go.Proofs

theorem PRun.run0 {P : Program} {g : FuncId} {args : List V} {Q : V → Mem → Prop} (hh : PRun P g [] args Q) {vs : List Value} (F : RpL (fun _ => none) [] vs args) (h : Heap) :
    Run P g vs h fun v h' => Keep h h' ∧ ∃ D ρ x m', Rp D ρ v x ∧ Q x m' := by
  have hS : St (fun _ => none) [(List.range h.size).pmap (fun i hi => (i, h[i]'(by simpa using hi))) (fun i hi => List.mem_range.1 hi)] h := by
    refine ⟨?_, fun p hp => ?_, fun b o hb => by cases hb⟩
    · simp only [ids, List.flatten_cons, List.flatten_nil, List.append_nil, List.map_pmap]
      have : (List.pmap (fun i (hi : i < h.size) => i) (List.range h.size) (fun i hi => List.mem_range.1 hi)) = List.range h.size := by
        rw [List.pmap_eq_map, List.map_id']
      rw [this]; exact List.nodup_range
    · simp only [List.flatten_cons, List.flatten_nil, List.append_nil, List.mem_pmap] at hp
      obtain ⟨i, hi, rfl⟩ := hp
      have := List.mem_range.1 hi
      simp [this]
  refine (hh (fun _ => none) [] [] _ h vs ⟨rfl, rfl, fun i L ab ch h => by simp at h, by simpa using hS⟩ F).mono ?_
  rintro v h' ⟨D', ρ', chs', x, m', -, M, hv, hq⟩
  have key : ∀ i (hi : i < h.size), h'[i]? = some h[i] := fun i hi => by
    refine M.st.own (i, h[i]) ?_
    simp only [List.flatten_append, List.mem_append, List.flatten_cons, List.flatten_nil, List.append_nil, List.mem_pmap]
    exact .inr ⟨i, List.mem_range.2 hi, rfl⟩
  refine ⟨⟨?_, fun b hb _ => by rw [key b hb]; simp [hb]⟩, D', _, x, m', hv, hq⟩
  rcases Nat.eq_zero_or_pos h.size with h0 | h0
  · omega
  · have := lt_of_get (key (h.size - 1) (by omega))
    omega
theorem rp_ints : ∀ (l : List Int), RpC (fun _ => none) [] (l.map (Value.int .i64)) (l.map V.i)
  | [] => .nil
  | x :: l => .cons (.u (.int _ _)) (by simp) (rp_ints l)
theorem sortP {α : Type} [Inhabited α] {P : Program} {ρ0 : Go.Shelf.Ren} (L : SlLaysF0.n6 P ρ0) {f g : FuncId} (hf : ρ0.f 6 = f) (hc : Callable P f) (k : Nat) (aE : ∀ w, (isAgg (ρ0.t 24)).run P w = .ok true w) (zE : ∀ w, (Go.sizeOf (ρ0.t 24)).run P w = .ok k w)
    (en : α → List Int) (hk : ∀ x, (en x).length = k) (cf : α → α → Int) (hO : SWO (ltOf cf)) (hg : Callable P g) (hrun : ∀ x y, PRun P g [] [.a ((en x).map V.i), .a ((en y).map V.i)] fun v _ => v = .i (cf x y))
    {E : TypeId} {rows : List α} (hl : rows.length ≤ 1000000) {Q : V → Mem → Prop} (kk : ∀ r : List α, r.Perm rows → r.Pairwise (fun x y => cf y x < 0 → False) → Q (.t []) [.w E k (r.map fun x => (en x).map U.n)]) :
    PRun P f [.w E k (rows.map fun x => (en x).map U.n)] [.w 0, .f g [] []] Q := by
  intro D ρ chs C h vs M F
  cases F with
  | cons a1 F =>
  cases F with
  | cons a2 F =>
  cases F
  obtain ⟨L0, hL0, rfl⟩ := a1.w_inv
  obtain ⟨xs, ys, rfl, b1, b2⟩ := a2.f_inv
  cases b1; cases b2
  obtain ⟨L1, ch, g1, g2, g3⟩ := M.get (b := 0) (by simp [mg])
  rw [hL0] at g1; cases g1
  have hch : chs = [ch] := by
    have := M.lch
    match chs, this, g2 with
    | [c], _, g2 => simp at g2; rw [g2]
  subst hch
  have hρ : ρ = [L0] := by
    have := M.len
    match ρ, this, hL0 with
    | [c], _, g2 => simp at g2; rw [g2]
  subst hρ
  simp only [mg] at g3
  have S : St D (ch :: C) h := M.st
  cases g3 with
  | w own hn =>
    rw [List.length_map] at hn
    generalize hrr : rows.map (fun x => (en x).map U.n) = rr at own
    obtain ⟨Lb, La, Ln, Lc⟩ := L0
    simp only at own hn
    subst hn
    cases own with
    | nil =>
      have h0 : rows = [] := by simpa using hrr
      subst h0
      refine (sortRun_none L hf hc).mono ?_
      rintro v h' ⟨rfl, rfl⟩
      exact ⟨D, [], [[]], .t [], _, .refl D, M, .t .nil, kk [] (.refl _) .nil⟩
    | row b Lc arr rr v h1 h2 h3 h4 h5 =>
      have hb := S.get (List.mem_singleton_self _)
      refine (sortRun L hf hc k aE zE (fun x => (en x).map (Value.int .i64)) (fun x => by simp [hk]) (fun x v hv => by simp at hv; obtain ⟨n, -, rfl⟩ := hv; rfl) cf hO g hg (fun x y h => ?_) (d := rows) (cap := Lc) hb (fun i x hx j v' hv' => ?_) (by omega) (by rw [← hrr] at h2; simpa using h2)).mono ?_
      · refine ((hrun x y).run0 (vs := [.agg ((en x).map (Value.int .i64)).toArray, .agg ((en y).map (Value.int .i64)).toArray]) (.cons (.a (rp_ints _)) (.cons (.a (rp_ints _)) .nil)) h).mono ?_
        rintro v h' ⟨hkp, D', ρ', x', m', hv, rfl⟩
        refine ⟨?_, hkp⟩
        cases hv with | u hv => cases hv; rfl
      · have hr : rr[i]? = some ((en x).map U.n) := by rw [← hrr, List.getElem?_map, hx]; rfl
        rw [List.getElem?_map] at hv'
        obtain ⟨n, hn, rfl⟩ := Option.map_eq_some_iff.1 hv'
        have hu : ((en x).map U.n)[j]? = some (.n n) := by rw [List.getElem?_map, hn]; rfl
        have := h5 i j _ _ hr hu
        rw [h4 i j _ _ hr hu, Rd.int_iff.1 this]
      · rintro w h' ⟨rfl, kb, r, hp, hs, hsl, l', hl', hsz'⟩
        have hlen := hp.length_eq
        have own' : Own D E k (some ⟨b, 0, none⟩) Lc (r.map fun x => (en x).map U.n) [(b, .cells l' E (0, 0))] := by
          refine .row b Lc l' _ (fun i j => match r[i]? with | some x => .int .i64 ((en x).getD j 0) | none => undef) (by rw [hsz']; exact h1) (by rw [← hrr] at h2; simp at h2 ⊢; omega) (fun q hq => by obtain ⟨x, -, rfl⟩ := List.mem_map.1 hq; simp [hk]) (fun i j q u hi hj => ?_) (fun i j q u hi hj => ?_)
          · rw [List.getElem?_map] at hi
            obtain ⟨x, hx, rfl⟩ := Option.map_eq_some_iff.1 hi
            rw [List.getElem?_map] at hj
            obtain ⟨n, hn, rfl⟩ := Option.map_eq_some_iff.1 hj
            obtain ⟨b', o', e, hcell⟩ := hsl.2.2 i x hx
            cases e
            have := hcell j (.int .i64 n) (by rw [List.getElem?_map, hn]; rfl)
            rw [hcell_of hl', Nat.zero_add] at this
            rw [this]
            simp only [hx, List.getD_eq_getElem?_getD, hn, Option.getD_some]
          · rw [List.getElem?_map] at hi
            obtain ⟨x, hx, rfl⟩ := Option.map_eq_some_iff.1 hi
            rw [List.getElem?_map] at hj
            obtain ⟨n, hn, rfl⟩ := Option.map_eq_some_iff.1 hj
            simp only [hx, List.getD_eq_getElem?_getD, hn, Option.getD_some]
            exact .int _ _
        have S' : St D ([(b, .cells l' E (0, 0))] :: C) h' := S.upd (by simpa using kb) (by simpa using hl') (by simp) (by simp)
        refine ⟨D, [], [[(b, .cells l' E (0, 0))]], .t [], _, .refl D, ⟨rfl, rfl, fun i L ab ch h1 h2 h3 => ?_, S'⟩, .t .nil, kk r hp hs⟩
        cases i with
        | zero =>
          simp at h1 h2 h3
          subst h1 h2 h3
          exact .w own' (by simp [hlen])
        | succ i => simp at h2
end Go.Proofs.Ytljgfkiiikcaaaa

/- What the functions do, written by program (psv.py) and held against the program by the kernel. -/
set_option linter.unusedVariables false
set_option maxRecDepth 100000
namespace Go.Proofs.Ytljgfkiiikcaaaa
open Go Go.Proofs
theorem mixT3 : Try.prog.follows .mixedOrders = true := by kernel_rfl
/- l15.awake -/
theorem S6 {Q : V → Mem → Prop} (hh : PRun Try.prog 14 [] [] (post [.agg [.i .i64, .l 7, .i .i64, .l 4, .i .i64, .i .i64, .i .i64, .i .i64]] [] (fun x1 l1 x2 l2 x3 x4 x5 x6 => (PRun Try.prog 7 [] [.a [.i x1, .l 7 l1, .i x2, .l 4 l2, .i x3, .i x4, .i x5, .i x6], .i 3, .i 1, .i 0, .l 2 []] (post [.agg [.l 2, .l 1, .l 2], .I] [] (fun l3 l4 l5 x7 => (PRun Try.prog 14 [] [] (post [.agg [.i .i64, .l 7, .i .i64, .l 4, .i .i64, .i .i64, .i .i64, .i .i64]] [] (fun x8 l6 x9 l7 x10 x11 x12 x13 => (PRun Try.prog 11 [] [.a [.i x8, .l 7 l6, .i x9, .l 4 l7, .i x10, .i x11, .i x12, .i x13], .i 3, .l 1 [[.n 1], [.n 1]], .i 0] (post [.I, .I] [] (fun x14 x15 => (PRun Try.prog 14 [] [] (post [.agg [.i .i64, .l 7, .i .i64, .l 4, .i .i64, .i .i64, .i .i64, .i .i64]] [] (fun x16 l8 x17 l9 x18 x19 x20 x21 => (PRun Try.prog 12 [] [.a [.i x16, .l 7 l8, .i x17, .l 4 l9, .i x18, .i x19, .i x20, .i x21], .l 1 [[.n 2], [.n 0]], .i 0] (post [.I, .I] [] (fun x22 x23 => ∀ k1 : Bool → Prop, (∀ b1 : Bool, (Q (.u (.b b1)) []) → k1 b1) → (dup2 (PRun Try.prog 15 [] [.a [.l 2 l3, .l 1 l4, .l 2 l5], .a [.l 2 [[.n 1, .n 3]], .l 1 [[.n 1], [.n 1]], .l 2 [[.n 2, .n 3]]]] (post [.B] [] (fun b2 => (bif b2 then (bif x7 == 0 then (bif x14 == 17 then (bif x15 == 0 then (bif x22 == 20 then (bif x23 == 0 then PRun Try.prog 14 [] [] (post [.agg [.i .i64, .l 7, .i .i64, .l 4, .i .i64, .i .i64, .i .i64, .i .i64]] [] (fun x24 l10 x25 l11 x26 x27 x28 x29 => (PRun Try.prog 9 [] [.a [.i x24, .l 7 l10, .i x25, .l 4 l11, .i x26, .i x27, .i x28, .i x29], .i 3, .i 1, .i 0, .l 2 l3, .l 1 l4] (post [.B] [] (fun b3 => (bif b3 then PRun Try.prog 14 [] [] (post [.agg [.i .i64, .l 7, .i .i64, .l 4, .i .i64, .i .i64, .i .i64, .i .i64]] [] (fun x30 l12 x31 l13 x32 x33 x34 x35 => (PRun Try.prog 9 [] [.a [.i x30, .l 7 l12, .i x31, .l 4 l13, .i x32, .i x33, .i x34, .i x35], .i 3, .i 2, .i 0, .l 2 l3, .l 1 l4] (post [.B] [] (fun b4 => (k1 (!b4) : Prop))) : Prop))) else k1 false : Prop))) : Prop))) else k1 false) else k1 false) else k1 false) else k1 false) else k1 false) else k1 false : Prop))))) ∧ dup2 (dup2 (PRun Try.prog 15 [] [.a [.l 2 l3, .l 1 l4, .l 2 l5], .a [.l 2 [[.n 1, .n 3]], .l 1 [[.n 1], [.n 1]], .l 2 [[.n 2, .n 3]]]] (post [.B] [] (fun b2 => (bif b2 then (bif x7 == 0 then (bif x14 == 17 then (bif x15 == 0 then (bif x22 == 20 then (bif x23 == 0 then PRun Try.prog 14 [] [] (post [.agg [.i .i64, .l 7, .i .i64, .l 4, .i .i64, .i .i64, .i .i64, .i .i64]] [] (fun x24 l10 x25 l11 x26 x27 x28 x29 => (PRun Try.prog 9 [] [.a [.i x24, .l 7 l10, .i x25, .l 4 l11, .i x26, .i x27, .i x28, .i x29], .i 3, .i 1, .i 0, .l 2 l3, .l 1 l4] (post [.B] [] (fun b3 => (bif b3 then PRun Try.prog 14 [] [] (post [.agg [.i .i64, .l 7, .i .i64, .l 4, .i .i64, .i .i64, .i .i64, .i .i64]] [] (fun x30 l12 x31 l13 x32 x33 x34 x35 => (PRun Try.prog 9 [] [.a [.i x30, .l 7 l12, .i x31, .l 4 l13, .i x32, .i x33, .i x34, .i x35], .i 3, .i 2, .i 0, .l 2 l3, .l 1 l4] (post [.B] [] (fun b4 => (k1 (!b4) : Prop))) : Prop))) else k1 false : Prop))) : Prop))) else k1 false) else k1 false) else k1 false) else k1 false) else k1 false) else k1 false : Prop))))))) : Prop))) : Prop))) : Prop))) : Prop))) : Prop)))) : PRun Try.prog 6 [] [] Q :=
  funS2 mixT3 Try.func6 (by kernel_rfl) (H := ⟨[], [((6, 0, 3), ⟨[(0, .B)], []⟩)], [], [], [], false, 64⟩) (n := 2) (by kernel_rfl) hh

/- r14.Few -/
theorem S5 {c_0 : Int} {c_1 : List (List U)} {c_2 : Int} {c_3 : List (List U)} {c_4 : Int} {c_5 : Int} {c_6 : Int} {c_7 : Int} {Q : V → Mem → Prop} (hh : ∃ (I1 : Int → Prop) (f1 : Int → Nat), I1 0 ∧ (∀ x1 : Int, I1 x1 → (bif decide (x1 < (List.length c_1 : Int)) then (bif decide (x1 < 20) then elL c_1 x1 (fun r1 => dL 2 (ug r1 3) (fun l1 => (bif decide ((List.length l1 : Int) > 12) then Q (.u (.b false)) [] else I1 (IntKind.wrap .i64 (x1 + 1)) ∧ f1 (IntKind.wrap .i64 (x1 + 1)) < f1 x1))) else (bif decide ((List.length c_1 : Int) ≤ 20) then Q (.u (.b (decide ((List.length c_3 : Int) ≤ 12)))) [] else Q (.u (.b false)) [])) else (bif decide ((List.length c_1 : Int) ≤ 20) then Q (.u (.b (decide ((List.length c_3 : Int) ≤ 12)))) [] else Q (.u (.b false)) [])))) : PRun Try.prog 5 [] [.a [.i c_0, .l 7 c_1, .i c_2, .l 4 c_3, .i c_4, .i c_5, .i c_6, .i c_7]] Q :=
  funS2 mixT3 Try.func5 (by kernel_rfl) (H := ⟨[((5, 2, 1), ⟨[(3, .I)], []⟩)], [], [], [], [], false, 64⟩) (n := 2) (by kernel_rfl) hh

end Go.Proofs.Ytljgfkiiikcaaaa

/- What the functions do, written by program (psv.py) and held against the program by the kernel. -/
set_option linter.unusedVariables false
set_option maxRecDepth 100000
namespace Go.Proofs.Ytljgfkiiikcaaaa
open Go Go.Proofs
theorem mixT4 : Try.prog.follows .mixedOrders = true := by kernel_rfl
/- r08.both -/
theorem S25 {a : List (List U)} {b : List (List U)} {Q : V → Mem → Prop} (hh : PRun Try.prog 26 [] [.l 2 a] (post [.L 2, .I] [] (fun l1 x1 => (bif x1 != 0 then Q (.t [.l 2 [], .l 2 [], .i x1]) [] else PRun Try.prog 26 [] [.l 2 b] (post [.L 2, .I] [] (fun l2 x2 => (bif x2 != 0 then Q (.t [.l 2 [], .l 2 [], .i x2]) [] else Q (.t [.l 2 l1, .l 2 l2, .i 0]) [] : Prop))) : Prop)))) : PRun Try.prog 25 [] [.l 2 a, .l 2 b] Q :=
  funS2 mixT4 Try.func25 (by kernel_rfl) (H := ⟨[], [], [], [], [], false, 64⟩) (n := 2) (by kernel_rfl) hh

/- r08.Add -/
theorem S8 {a : List (List U)} {b : List (List U)} {Q : V → Mem → Prop} (hh : PRun Try.prog 25 [] [.l 2 a, .l 2 b] (post [.L 2, .L 2, .I] [] (fun l1 l2 x1 => (bif x1 != 0 then Q (.t [.l 2 [], .i x1]) [] else apOk [] l1 ∧ (apOk l1 l2 ∧ (PRun Try.prog 26 [] [.l 2 (l1 ++ l2)] (post [.L 2, .I] [] (fun l3 x2 => (Q (.t [.l 2 l3, .i x2]) [] : Prop))))) : Prop)))) : PRun Try.prog 8 [] [.l 2 a, .l 2 b] Q :=
  funS2 mixT4 Try.func8 (by kernel_rfl) (H := ⟨[], [], [], [], [], false, 64⟩) (n := 2) (by kernel_rfl) hh

/- r08.Sub -/
theorem S10 {a : List (List U)} {b : List (List U)} {Q : V → Mem → Prop} (hh : PRun Try.prog 25 [] [.l 2 a, .l 2 b] (post [.L 2, .L 2, .I] [] (fun l1 l2 x1 => (bif x1 != 0 then Q (.t [.l 2 [], .i x1]) [] else ∃ (I1 : Int → Prop) (f1 : Int → Nat), I1 0 ∧ (∀ x2 : Int, I1 x2 → (bif decide (x2 < (List.length l2 : Int)) then elL l2 x2 (fun r1 => dI .i64 (ug r1 0) (fun x3 => elL l2 x2 (fun r2 => dI .i64 (ug r2 1) (fun x4 => PRun Try.prog 30 [] [.l 2 l1, .i x3] (post [.I] [] (fun x5 => (bif decide (x5 < x4) then Q (.t [.l 2 [], .i 7]) [] else I1 (IntKind.wrap .i64 (x2 + 1)) ∧ f1 (IntKind.wrap .i64 (x2 + 1)) < f1 x2 : Prop))))))) else ∃ (I2 : List (List U) → Int → Prop) (f2 : List (List U) → Int → Nat), I2 [] 0 ∧ (∀ l3 : List (List U), ∀ x6 : Int, I2 l3 x6 → (bif decide (x6 < (List.length l1 : Int)) then elL l1 x6 (fun r3 => dI .i64 (ug r3 1) (fun x7 => elL l1 x6 (fun r4 => dI .i64 (ug r4 0) (fun x8 => PRun Try.prog 30 [] [.l 2 l2, .i x8] (post [.I] [] (fun x9 => (bif decide (IntKind.wrap .i64 (x7 - x9) > 0) then elL l1 x6 (fun r5 => dI .i64 (ug r5 0) (fun x10 => apOk l3 [[.n x10, .n (IntKind.wrap .i64 (x7 - x9))]] ∧ (I2 (l3 ++ [[.n x10, .n (IntKind.wrap .i64 (x7 - x9))]]) (IntKind.wrap .i64 (x6 + 1)) ∧ f2 (l3 ++ [[.n x10, .n (IntKind.wrap .i64 (x7 - x9))]]) (IntKind.wrap .i64 (x6 + 1)) < f2 l3 x6))) else I2 l3 (IntKind.wrap .i64 (x6 + 1)) ∧ f2 l3 (IntKind.wrap .i64 (x6 + 1)) < f2 l3 x6 : Prop))))))) else Q (.t [.l 2 l3, .i 0]) [])))) : Prop)))) : PRun Try.prog 10 [] [.l 2 a, .l 2 b] Q :=
  funS2 mixT4 Try.func10 (by kernel_rfl) (H := ⟨[((10, 5, 0), ⟨[(9, .I)], []⟩), ((10, 11, 0), ⟨[(10, .one (.ow 43 2)), (11, .I)], []⟩)], [], [], [], [], false, 64⟩) (n := 2) (by kernel_rfl) hh

/- l15.BomFits -/
theorem S3 {c_0 : Int} {c_1 : List (List U)} {c_2 : Int} {c_3 : List (List U)} {c_4 : Int} {c_5 : Int} {c_6 : Int} {c_7 : Int} {a_0 : Int} {a_1 : Int} {a_2 : Int} {have0 : List (List U)} {Q : V → Mem → Prop} (hh : PRun Try.prog 5 [] [.a [.i c_0, .l 7 c_1, .i c_2, .l 4 c_3, .i c_4, .i c_5, .i c_6, .i c_7]] (post [.B] [] (fun b1 => (bif !b1 then PRun Try.prog 6 [] [] (post [.B] [] (fun b2 => (Q (.u (.b b2)) [] : Prop))) else (bif decide ((List.length have0 : Int) > 8) then PRun Try.prog 6 [] [] (post [.B] [] (fun b3 => (Q (.u (.b b3)) [] : Prop))) else PRun Try.prog 7 [] [.a [.i c_0, .l 7 c_1, .i c_2, .l 4 c_3, .i c_4, .i c_5, .i c_6, .i c_7], .i a_0, .i a_1, .i a_2, .l 2 have0] (post [.agg [.l 2, .l 1, .l 2], .I] [] (fun l1 l2 l3 x1 => (bif x1 != 0 then (bif IntKind.wrap .i64 (IntKind.wrap .i64 ((List.length l1 : Int) + (List.length l2 : Int)) + (List.length l3 : Int)) == 0 then PRun Try.prog 6 [] [] (post [.B] [] (fun b4 => (Q (.u (.b b4)) [] : Prop))) else Q (.u (.b false)) []) else PRun Try.prog 8 [] [.l 2 l1, .l 2 have0] (post [.L 2, .I] [] (fun l4 x2 => (bif x2 != 0 then PRun Try.prog 6 [] [] (post [.B] [] (fun b5 => (Q (.u (.b b5)) [] : Prop))) else (bif decide ((List.length l4 : Int) > 8) then PRun Try.prog 6 [] [] (post [.B] [] (fun b6 => (Q (.u (.b b6)) [] : Prop))) else PRun Try.prog 9 [] [.a [.i c_0, .l 7 c_1, .i c_2, .l 4 c_3, .i c_4, .i c_5, .i c_6, .i c_7], .i a_0, .i a_1, .i a_2, .l 2 l4, .l 1 l2] (post [.B] [] (fun b7 => (bif !b7 then Q (.u (.b false)) [] else ∃ (I1 : Int → Prop) (f1 : Int → Nat), I1 0 ∧ (∀ x3 : Int, I1 x3 → (bif decide (x3 < (List.length l1 : Int)) then elL l1 x3 (fun r1 => dI .i64 (ug r1 0) (fun x4 => PRun Try.prog 10 [] [.l 2 l4, .l 2 [[.n x4, .n 1]]] (post [.L 2, .I] [] (fun l5 x5 => (bif x5 != 0 then Q (.u (.b false)) [] else PRun Try.prog 9 [] [.a [.i c_0, .l 7 c_1, .i c_2, .l 4 c_3, .i c_4, .i c_5, .i c_6, .i c_7], .i a_0, .i a_1, .i a_2, .l 2 l5, .l 1 l2] (post [.B] [] (fun b8 => (bif b8 then Q (.u (.b false)) [] else I1 (IntKind.wrap .i64 (x3 + 1)) ∧ f1 (IntKind.wrap .i64 (x3 + 1)) < f1 x3 : Prop))) : Prop))))) else PRun Try.prog 11 [] [.a [.i c_0, .l 7 c_1, .i c_2, .l 4 c_3, .i c_4, .i c_5, .i c_6, .i c_7], .i a_0, .l 1 l2, .i a_2] (post [.I, .I] [] (fun x6 x7 => (PRun Try.prog 12 [] [.a [.i c_0, .l 7 c_1, .i c_2, .l 4 c_3, .i c_4, .i c_5, .i c_6, .i c_7], .l 1 l2, .i a_2] (post [.I, .I] [] (fun x8 x9 => (PRun Try.prog 7 [] [.a [.i c_0, .l 7 c_1, .i c_2, .l 4 c_3, .i c_4, .i c_5, .i c_6, .i c_7], .i a_0, .i a_1, .i a_2, .l 2 [[.n a_0, .n a_1]]] (post [.agg [.l 2, .l 1, .l 2], .I] [] (fun l6 l7 l8 x10 => (bif x7 == 0 then (bif x9 == 0 then (bif decide (x6 ≤ x8) then (bif x10 == 0 then (bif (List.length l6 : Int) == 0 then (bif (List.length l8 : Int) == 0 then PRun Try.prog 6 [] [] (post [.B] [] (fun b9 => (Q (.u (.b b9)) [] : Prop))) else Q (.u (.b false)) []) else Q (.u (.b false)) []) else Q (.u (.b false)) []) else Q (.u (.b false)) []) else Q (.u (.b false)) []) else Q (.u (.b false)) [] : Prop))) : Prop))) : Prop))))) : Prop)))) : Prop))) : Prop)))) : Prop)))) : PRun Try.prog 3 [] [.a [.i c_0, .l 7 c_1, .i c_2, .l 4 c_3, .i c_4, .i c_5, .i c_6, .i c_7], .a [.i a_0, .i a_1, .i a_2], .l 2 have0] Q :=
  funS2 mixT4 Try.func3 (by kernel_rfl) (H := ⟨[((3, 12, 3), ⟨[(11, .I)], []⟩)], [], [], [], [], false, 64⟩) (n := 2) (by kernel_rfl) hh

/- l15.BomEven -/
theorem S4 {l : List (List U)} {many : Int} {Q : V → Mem → Prop} (hh : bif decide ((List.length l : Int) > 8) then PRun Try.prog 6 [] [] (post [.B] [] (fun b1 => (Q (.u (.b b1)) [] : Prop))) else (4 : Int) ≠ 0 ∧ (∃ (I1 : Int → Bool → Int → Int → List (List U) → Int → List (List U) → Int → Int → Int → Int → Prop) (f1 : Int → Bool → Int → Int → List (List U) → Int → List (List U) → Int → Int → Int → Int → Nat), I1 (IntKind.wrap .i64 (1 + Int.tmod (IntKind.wrap .i64 many) 4)) true (IntKind.wrap .i64 ((List.length l : Int) - 1)) (IntKind.wrap .i64 ((List.length l : Int) + 1)) [] 1 [] 1 0 0 0 ∧ (∀ x1 : Int, ∀ b2 : Bool, ∀ x2 : Int, ∀ x3 : Int, ∀ l1 : List (List U), ∀ x4 : Int, ∀ l2 : List (List U), ∀ x5 : Int, ∀ x6 : Int, ∀ x7 : Int, ∀ x8 : Int, I1 x1 b2 x2 x3 l1 x4 l2 x5 x6 x7 x8 → (bif decide (x2 ≥ 0) then (bif b2 then elL l x2 (fun r1 => dI .u8 (ug r1 0) (fun x9 => (16 : Int) ≠ 0 ∧ (apOk l1 [[.n (IntKind.wrap .i64 (x2 + 2)), .n 1, .n 1, .l 2 [[.n (IntKind.wrap .i64 (x2 + 1)), .n (IntKind.wrap .i64 (1 + Int.tmod (IntKind.wrap .i64 x9) 16))]], .n 0, .n 0, .n 1]] ∧ (I1 (IntKind.wrap .i64 (x1 * IntKind.wrap .i64 (1 + Int.tmod (IntKind.wrap .i64 x9) 16))) (decide (x1 ≤ 1000)) (IntKind.wrap .i64 (x2 - 1)) x3 (l1 ++ [[.n (IntKind.wrap .i64 (x2 + 2)), .n 1, .n 1, .l 2 [[.n (IntKind.wrap .i64 (x2 + 1)), .n (IntKind.wrap .i64 (1 + Int.tmod (IntKind.wrap .i64 x9) 16))]], .n 0, .n 0, .n 1]]) x4 l2 x5 x6 x7 x8 ∧ f1 (IntKind.wrap .i64 (x1 * IntKind.wrap .i64 (1 + Int.tmod (IntKind.wrap .i64 x9) 16))) (decide (x1 ≤ 1000)) (IntKind.wrap .i64 (x2 - 1)) x3 (l1 ++ [[.n (IntKind.wrap .i64 (x2 + 2)), .n 1, .n 1, .l 2 [[.n (IntKind.wrap .i64 (x2 + 1)), .n (IntKind.wrap .i64 (1 + Int.tmod (IntKind.wrap .i64 x9) 16))]], .n 0, .n 0, .n 1]]) x4 l2 x5 x6 x7 x8 < f1 x1 b2 x2 x3 l1 x4 l2 x5 x6 x7 x8)))) else elL l x2 (fun r2 => dI .u8 (ug r2 0) (fun x10 => (16 : Int) ≠ 0 ∧ (apOk l1 [[.n (IntKind.wrap .i64 (x2 + 2)), .n 1, .n 1, .l 2 [[.n (IntKind.wrap .i64 (x2 + 1)), .n (IntKind.wrap .i64 (1 + Int.tmod (IntKind.wrap .i64 x10) 16))]], .n 0, .n 0, .n 1]] ∧ (I1 (IntKind.wrap .i64 (x1 * IntKind.wrap .i64 (1 + Int.tmod (IntKind.wrap .i64 x10) 16))) false (IntKind.wrap .i64 (x2 - 1)) x3 (l1 ++ [[.n (IntKind.wrap .i64 (x2 + 2)), .n 1, .n 1, .l 2 [[.n (IntKind.wrap .i64 (x2 + 1)), .n (IntKind.wrap .i64 (1 + Int.tmod (IntKind.wrap .i64 x10) 16))]], .n 0, .n 0, .n 1]]) x4 l2 x5 x6 x7 x8 ∧ f1 (IntKind.wrap .i64 (x1 * IntKind.wrap .i64 (1 + Int.tmod (IntKind.wrap .i64 x10) 16))) false (IntKind.wrap .i64 (x2 - 1)) x3 (l1 ++ [[.n (IntKind.wrap .i64 (x2 + 2)), .n 1, .n 1, .l 2 [[.n (IntKind.wrap .i64 (x2 + 1)), .n (IntKind.wrap .i64 (1 + Int.tmod (IntKind.wrap .i64 x10) 16))]], .n 0, .n 0, .n 1]]) x4 l2 x5 x6 x7 x8 < f1 x1 b2 x2 x3 l1 x4 l2 x5 x6 x7 x8))))) else PRun Try.prog 7 [] [.a [.i x3, .l 7 l1, .i x4, .l 4 l2, .i x5, .i x6, .i x7, .i x8], .i (IntKind.wrap .i64 ((List.length l : Int) + 1)), .i (IntKind.wrap .i64 (1 + Int.tmod (IntKind.wrap .i64 many) 4)), .i 0, .l 2 []] (post [.agg [.l 2, .l 1, .l 2], .I] [] (fun l3 l4 l5 x11 => (bif !b2 then (bif x11 == 5 then PRun Try.prog 6 [] [] (post [.B] [] (fun b3 => (Q (.u (.b b3)) [] : Prop))) else Q (.u (.b false)) []) else (bif x11 == 0 then PRun Try.prog 13 [] [.l 2 l3, .l 2 [[.n 1, .n x1]]] (post [.B] [] (fun b4 => (bif b4 then (bif (List.length l5 : Int) == 0 then PRun Try.prog 6 [] [] (post [.B] [] (fun b5 => (Q (.u (.b b5)) [] : Prop))) else Q (.u (.b false)) []) else Q (.u (.b false)) [] : Prop))) else Q (.u (.b false)) []) : Prop))))))) : PRun Try.prog 4 [] [.l 1 l, .u (.i .u8 many)] Q :=
  funS2 mixT4 Try.func4 (by kernel_rfl) (H := ⟨[((4, 8, 1), ⟨[(7, .I), (8, .B), (9, .I)], [(0, .c [.i .i64, .ow 50 7, .i .i64, .ow 131 4, .i .i64, .i .i64, .i .i64, .i .i64])]⟩)], [], [], [], [], false, 64⟩) (n := 2) (by kernel_rfl) hh

end Go.Proofs.Ytljgfkiiikcaaaa

/- Products and parts: Scale; blueprints: may one be; what runs need, how many, how long: the code's and the reference's. -/
set_option linter.unusedVariables false
namespace Go.Proofs.Ytljgfkiiikcaaaa
open Go Go.Proofs Go.Shelf
variable {Q : V → Mem → Prop}

theorem call72 : Callable Try.prog 72 := ⟨_, Try.func72, by kernel_rfl, by kernel_rfl⟩
theorem mul64_S (x y : Nat) (hx : x < 18446744073709551616) (hy : y < 18446744073709551616)
    (k : Q (.t [.u (.i .u64 ((x * y / 18446744073709551616 : Nat) : Int)), .u (.i .u64 ((x * y % 18446744073709551616 : Nat) : Int))]) []) :
    PRun Try.prog 72 [] [.u (.i .u64 x), .u (.i .u64 y)] Q := by
  refine .keep fun D C h vs S F => ?_
  obtain ⟨v, w, rfl, h1, h2⟩ := F.two
  rw [Rd.int_iff.1 h1.u_inv, Rd.int_iff.1 h2.u_inv]
  refine ⟨call72, fun w hw => (Any.bits_Mul64 Try.lays264 x y hx hy w).mono ?_⟩
  rintro e w' ⟨rfl, rfl⟩
  exact ⟨_, rfl, ⟨hw ▸ .refl _ _, _, .t (.cons (.u (.int _ _)) (.cons (.u (.int _ _)) .nil)), k⟩, .refl _⟩
theorem scale_S {a b c : Nat} (ha : a ≤ 9223372036854775807) (hb : b ≤ 9223372036854775807) (hc : c ≤ 9223372036854775807) (h1 : 1 ≤ c)
    (hm : (a * b + c - 1) / c ≤ 9223372036854775807) (k : Q (.t [.i (((a * b + c - 1) / c : Nat) : Int), .i 0]) []) :
    PRun Try.prog 47 [] [.i (a : Int), .i (b : Int), .i (c : Int), .u (.b true)] Q := by
  refine S47 (cIf (fun h => by omega) fun _ => cIf (fun h => by omega) fun _ => cIf (fun h => by omega) fun _ => ?_)
  rw [u64_id (x := (a : Int)) (by omega) (by omega), u64_id (x := (b : Int)) (by omega) (by omega), u64_id (x := (c : Int)) (by omega) (by omega)]
  refine mul64_S a b (by omega) (by omega) ?_
  rw [post_UU]
  have hp := Nat.div_add_mod (a * b) 18446744073709551616
  generalize a * b = p at *
  have hpc : p < 9223372036854775808 * c := by
    have := (Nat.div_lt_iff_lt_mul (x := p + c - 1) (y := 9223372036854775808) (k := c) (by omega)).1 (by omega)
    omega
  refine cIf (fun hq => ?_) fun hq => ?_
  · have : c ≤ p / 18446744073709551616 := by omega
    have := Nat.mul_le_mul_left 18446744073709551616 this
    omega
  refine div64_S (by omega) (Nat.mod_lt _ (by omega)) (by omega) fun Q r hQ hr e => ?_
  rw [post_UU]
  have e2 : Q * c + r = p := by omega
  have hQ2 : Q ≤ 9223372036854775807 := by
    refine Nat.not_lt.1 fun hlt => ?_
    have := Nat.mul_le_mul_right c (show 9223372036854775808 ≤ Q by omega)
    omega
  have key : ∀ m : Nat, m = (if 0 < r then Q + 1 else Q) → (p + c - 1) / c = m := by
    intro m hm
    subst hm
    split
    · rw [Nat.div_eq_iff (by omega), Nat.add_mul]
      omega
    · rw [Nat.div_eq_iff (by omega)]
      omega
  rw [cond_true]
  refine cIf (fun hr0 => ?_) fun hr0 => ?_
  · have hk := key (Q + 1) (by rw [if_pos (by omega)])
    rw [hk] at hm k
    refine cIf (fun _ => ?_) fun h => by omega
    rw [u64_id (x := (Q : Int) + 1) (by omega) (by omega)]
    refine cIf (fun h => by omega) fun _ => ?_
    rw [w64 (by omega) (by omega)]
    exact k
  · have hk := key Q (by rw [if_neg (by omega)])
    rw [hk] at hm k
    refine cIf (fun h => by omega) fun _ => ?_
    rw [w64 (by omega) (by omega)]
    exact k
def upI (n by0 : Int) : Int := (n + by0 - 1) / by0
/-- Scale by Int. -/
theorem scaleI_S {a b c : Int} (ha : 0 ≤ a ∧ a ≤ 9223372036854775807) (hb : 0 ≤ b ∧ b ≤ 9223372036854775807) (hc : 1 ≤ c ∧ c ≤ 9223372036854775807)
    (hm : upI (a * b) c ≤ 9223372036854775807) (k : Q (.t [.i (upI (a * b) c), .i 0]) []) :
    PRun Try.prog 47 [] [.i a, .i b, .i c, .u (.b true)] Q := by
  obtain ⟨x, rfl⟩ := Int.eq_ofNat_of_zero_le ha.1
  obtain ⟨y, rfl⟩ := Int.eq_ofNat_of_zero_le hb.1
  obtain ⟨z, rfl⟩ := Int.eq_ofNat_of_zero_le (show 0 ≤ c by omega)
  have e : upI ((x : Int) * y) z = (((x * y + z - 1) / z : Nat) : Int) := by
    unfold upI
    rw [← Int.natCast_mul]
    generalize x * y = p
    rw [Int.natCast_ediv, show ((p + z - 1 : Nat) : Int) = (p : Int) + z - 1 by omega]
  rw [e] at hm k
  exact scale_S (by omega) (by omega) (by omega) (by omega) (by omega) k

/- ## Blueprints -/
structure Bl where
  makes : Int
  per : Int
  time : Int
  needs : List Stk
  copy : Int
  study : Int
  most : Int
def eB (b : Bl) : List U := [.n b.makes, .n b.per, .n b.time, .l 2 (b.needs.map eS), .n b.copy, .n b.study, .n b.most]
abbrev aB (b : Bl) : V := .a [.i b.makes, .i b.per, .i b.time, .l 2 (b.needs.map eS), .i b.copy, .i b.study, .i b.most]
/-- What numbers of the machine's it holds, and not too many stacks. -/
structure Bl.Rg (b : Bl) : Prop where
  r : rng b.needs
  n : b.needs.length ≤ 1000
def boundsB (b : Bl) (types : Int) : List Bd := [(types, 0, 32), (b.makes, 1, types), (b.per, 1, 1048576), (b.time, 1, 1048576), (b.copy, 0, 1048576), (b.study, 0, 1048576), (b.most, 1, 1000)]
noncomputable def blueE (b : Bl) (types : Int) : Int := if inAll (boundsB b types) = true ∧ chkE b.needs types = 0 ∧ ¬ 0 < cntN b.needs b.makes then 0 else 1
theorem upI_100 {x : Int} : upI x 100 = (x + 99) / 100 := by unfold upI; rw [show x + 100 - 1 = x + 99 by omega]
structure BlueOK (b : Bl) (types : Int) : Prop where
  ty : 0 ≤ types ∧ types ≤ 32
  makes : 1 ≤ b.makes ∧ b.makes ≤ types
  per : 1 ≤ b.per ∧ b.per ≤ 1048576
  time : 1 ≤ b.time ∧ b.time ≤ 1048576
  copy : 0 ≤ b.copy ∧ b.copy ≤ 1048576
  study : 0 ≤ b.study ∧ b.study ≤ 1048576
  most : 1 ≤ b.most ∧ b.most ≤ 1000
  needs : CheckOK b.needs types
  self : ¬ 0 < cntN b.needs b.makes
theorem inAll_B {b : Bl} {types : Int} : inAll (boundsB b types) = true ↔ (0 ≤ types ∧ types ≤ 32) ∧ (1 ≤ b.makes ∧ b.makes ≤ types) ∧ (1 ≤ b.per ∧ b.per ≤ 1048576) ∧ (1 ≤ b.time ∧ b.time ≤ 1048576) ∧ (0 ≤ b.copy ∧ b.copy ≤ 1048576) ∧ (0 ≤ b.study ∧ b.study ≤ 1048576) ∧ 1 ≤ b.most ∧ b.most ≤ 1000 := by
  simp only [inAll, boundsB, List.all_cons, List.all_nil, Bool.and_true, Bool.and_eq_true, inn_iff]
theorem blueE_ok {b : Bl} {types : Int} : blueE b types = 0 ↔ BlueOK b types := by
  unfold blueE
  constructor
  · intro h
    split at h
    · rename_i hh
      obtain ⟨h1, h2, h3⟩ := hh
      obtain ⟨a1, a2, a3, a4, a5, a6, a7⟩ := inAll_B.1 h1
      exact ⟨a1, a2, a3, a4, a5, a6, a7, chkE_iff.1 h2, h3⟩
    · cases h
  · intro ⟨a1, a2, a3, a4, a5, a6, a7, h2, h3⟩
    rw [if_pos ⟨inAll_B.2 ⟨a1, a2, a3, a4, a5, a6, a7⟩, chkE_iff.2 h2, h3⟩]
theorem blueE_01 (b : Bl) (types : Int) : blueE b types = 0 ∨ blueE b types = 1 := by unfold blueE; split <;> simp
section
variable {b : Bl} {types : Int}
theorem pBlue_S (hb : b.Rg) (k : Q (.i (blueE b types)) []) : PRun Try.prog 70 [] [aB b, .i types] Q := by
  have bad : ¬ (inAll (boundsB b types) = true ∧ chkE b.needs types = 0 ∧ ¬ 0 < cntN b.needs b.makes) → Q (.i 1) [] := fun h => by unfold blueE at k; rwa [if_neg h] at k
  refine S70 (fits_S (L := boundsB b types) (by simp [boundsB]) ?_)
  rw [post_B]
  refine cNot (cB (fun h1 => pCheck_S (by have := hb.n; omega) ?_) fun h1 => bad (by simp [h1]))
  rw [post_I]
  refine cNe (fun h2 => bad (by simp [h2])) fun h2 => pCount_S hb.r hb.n ?_
  rw [post_I]
  refine cIf (fun h3 => bad fun h => h.2.2 h3) fun h3 => ?_
  unfold blueE at k; rwa [if_pos ⟨h1, h2, h3⟩] at k
theorem pMay_S {L : List Bd} (hb : b.Rg) (hL : L.length ≤ 1000) (k : Q (.u (.b (decide (blueE b 32 = 0) && inAll L))) []) : PRun Try.prog 46 [] [aB b, .l 3 (L.map eF)] Q := by
  refine S46 (pBlue_S hb ?_)
  rw [post_I]
  refine cEq (fun h => fits_S (by omega) ?_) fun h => ?_
  · rw [post_B]; rwa [decide_eq_true h, Bool.true_and] at k
  · rwa [decide_eq_false h, Bool.false_and] at k

/- ## Needs, runs, time -/
def needQ (q runs level : Int) : Int := max runs (upI (q * (runs * (100 - level))) 100)
def needOver (l : List Stk) (runs level : Int) : Bool := l.any fun s => decide (MaxQ < needQ s.2 runs level)
def needL (l : List Stk) (runs level : Int) : List Stk := l.map fun s => (s.1, needQ s.2 runs level)
noncomputable def needsR (b : Bl) (level runs : Int) : List Stk × Int :=
  if (blueE b 32 = 0 ∧ inn level 0 10 = true) ∧ inn runs 1 1000 = true then (if needOver b.needs runs level = true then ([], 5) else (needL b.needs runs level, 0)) else ([], 1)
noncomputable def runsR (b : Bl) (n : Int) : Int × Int := if blueE b 32 = 0 ∧ inn n 0 1125899906842624 = true then (upI n b.per, 0) else (0, 1)
noncomputable def timeR (b : Bl) (level runs : Int) : Int × Int :=
  if (blueE b 32 = 0 ∧ inn level 0 10 = true) ∧ inn runs 1 1000 = true then (upI (b.time * runs * (100 - 2 * level)) 100, 0) else (0, 1)
abbrev vSE (r : List Stk × Int) : V := .t [.l 2 (r.1.map eS), .i r.2]
abbrev vII (r : Int × Int) : V := .t [.i r.1, .i r.2]
theorem need_bd {q runs level : Int} (hq : 1 ≤ q ∧ q ≤ MaxQ) (hr : 1 ≤ runs ∧ runs ≤ 1000) (hl : 0 ≤ level ∧ level ≤ 10) :
    0 ≤ runs * (100 - level) ∧ runs * (100 - level) ≤ 100000 ∧ 0 ≤ q * (runs * (100 - level)) ∧ q * (runs * (100 - level)) ≤ 112589990684262400000 := by
  have h1 := Int.mul_le_mul hr.2 (show 100 - level ≤ 100 by omega) (by omega) (by omega)
  have h2 := Int.mul_nonneg (show 0 ≤ runs by omega) (show 0 ≤ 100 - level by omega)
  have h3 := Int.mul_nonneg (show 0 ≤ q by omega) h2
  have h4 := Int.mul_le_mul hq.2 h1 h2 (by unfold MaxQ; omega)
  unfold MaxQ at h4
  exact ⟨h2, by omega, h3, by omega⟩
theorem upI_bd {n b : Int} (hn : 0 ≤ n) (hb : 1 ≤ b) : 0 ≤ upI n b ∧ upI n b ≤ n := by
  unfold upI
  refine ⟨Int.ediv_nonneg (by omega) (by omega), ?_⟩
  refine Int.lt_add_one_iff.1 (Int.ediv_lt_of_lt_mul (by omega) ?_)
  have := Int.mul_le_mul_of_nonneg_left hb hn
  rw [Int.mul_one] at this
  rw [Int.add_mul, Int.one_mul]
  omega
theorem time_bd {t runs level : Int} (ht : 1 ≤ t ∧ t ≤ 1048576) (hr : 1 ≤ runs ∧ runs ≤ 1000) (hl : 0 ≤ level ∧ level ≤ 10) :
    0 ≤ t * runs ∧ t * runs ≤ 1048576000 ∧ 0 ≤ t * runs * (100 - 2 * level) ∧ t * runs * (100 - 2 * level) ≤ 104857600000 := by
  have h1 := Int.mul_nonneg (show 0 ≤ t by omega) (show 0 ≤ runs by omega)
  have h2 := Int.mul_le_mul ht.2 hr.2 (by omega) (by omega)
  have h3 := Int.mul_nonneg h1 (show 0 ≤ 100 - 2 * level by omega)
  have h4 := Int.mul_le_mul h2 (show 100 - 2 * level ≤ 100 by omega) (by omega) (by omega)
  exact ⟨h1, by omega, h3, by omega⟩
theorem needOver_false {l : List Stk} {runs level : Int} (h : ∀ s ∈ l, ¬ MaxQ < needQ s.2 runs level) : needOver l runs level = false := by
  unfold needOver
  rw [List.any_eq_false]
  intro x hx
  simpa using h x hx
theorem pNeeds_S {level runs : Int} (hb : b.Rg) (k : Q (vSE (needsR b level runs)) []) : PRun Try.prog 28 [] [aB b, .i level, .i runs] Q := by
  refine S28 (pMay_S (L := [(level, 0, 10), (runs, 1, 1000)]) hb (by simp) ?_)
  rw [post_B]
  refine cNot (cB (fun h1 => ?_) fun h1 => ?_)
  rotate_left
  · unfold needsR at k; rwa [if_neg] at k; rintro ⟨⟨a1, a2⟩, a3⟩; simp [inAll, a1, a2, a3] at h1
  simp only [inAll, List.all_cons, List.all_nil, Bool.and_true, Bool.and_eq_true, decide_eq_true_eq] at h1
  obtain ⟨b1, b2, b3⟩ := h1
  unfold needsR at k
  rw [if_pos ⟨⟨b1, b2⟩, b3⟩] at k
  have ok := (blueE_ok.1 b1).needs
  rw [inn_iff] at b2 b3
  refine ⟨fun l x => AtI b.needs (fun t _ => l = (needL t runs level).map eS ∧ ∀ s ∈ t, ¬ MaxQ < needQ s.2 runs level) x, fun _ => SufM b.needs, .zero (by have := hb.n; omega) ⟨rfl, by simp⟩, ?_⟩
  rintro _ x ⟨t, _ | ⟨s, l⟩, w, rfl, hne⟩
  · rw [w.all] at hne ⊢
    rw [w.d0]
    rwa [needOver_false hne] at k
  · have hmem : s ∈ b.needs := by rw [w.e]; simp
    have hs := ok.el s hmem
    have hlt := congrArg List.length w.e
    have hn := hb.n
    simp at hlt
    simp only [w.d1, w.el, eS, ug0, ugs, dI_n, cond_true]
    obtain ⟨d0, d1, d2, d3⟩ := need_bd (q := s.2) ⟨hs.2.2.1, hs.2.2.2⟩ b3 b2
    have hq := hs.2.2
    unfold MaxQ at hq
    rw [w64 (x := 100 - level) (by omega) (by omega), w64 (x := runs * (100 - level)) (by omega) (by omega)]
    refine scaleI_S (by omega) (by omega) (by omega) (by rw [upI_100]; omega) ?_
    rw [post_II]
    refine cNe (fun h => absurd rfl h) fun _ => ?_
    have em : (if runs > upI (s.2 * (runs * (100 - level))) 100 then runs else upI (s.2 * (runs * (100 - level))) 100) = needQ s.2 runs level := by unfold needQ; split <;> omega
    simp only [em]
    refine cIf (fun ho => ?_) fun ho => ?_
    · have hov : needOver b.needs runs level = true := List.any_eq_true.2 ⟨s, hmem, decide_eq_true (by unfold MaxQ; exact ho)⟩
      rwa [if_pos hov] at k
    · refine ⟨apOk_l (by simp [needL]; omega), w.step ⟨by simp [needL, eS], fun u hu => ?_⟩⟩
      rcases List.mem_append.1 hu with hu | hu
      · exact hne u hu
      · simp at hu; subst hu; exact ho
theorem pRuns_S {n : Int} (hb : b.Rg) (k : Q (vII (runsR b n)) []) : PRun Try.prog 40 [] [aB b, .i n] Q := by
  refine S40 (pMay_S (L := [(n, 0, 1125899906842624)]) hb (by simp) ?_)
  rw [post_B]
  refine cNot (cB (fun h1 => ?_) fun h1 => ?_)
  rotate_left
  · unfold runsR at k; rwa [if_neg] at k; rintro ⟨a1, a2⟩; simp [inAll, a1, a2] at h1
  simp only [inAll, List.all_cons, List.all_nil, Bool.and_true, Bool.and_eq_true, decide_eq_true_eq] at h1
  unfold runsR at k
  rw [if_pos h1] at k
  obtain ⟨b1, b2⟩ := h1
  have ok := (blueE_ok.1 b1).per
  rw [inn_iff] at b2
  have hb := upI_bd b2.1 ok.1
  refine scaleI_S (by omega) (by omega) (by omega) (by rw [Int.mul_one]; omega) ?_
  rw [Int.mul_one, post_II]
  exact k
theorem pTime_S {level runs : Int} (hb : b.Rg) (k : Q (vII (timeR b level runs)) []) : PRun Try.prog 48 [] [aB b, .i level, .i runs] Q := by
  refine S48 (pMay_S (L := [(level, 0, 10), (runs, 1, 1000)]) hb (by simp) ?_)
  rw [post_B]
  refine cNot (cB (fun h1 => ?_) fun h1 => ?_)
  rotate_left
  · unfold timeR at k; rwa [if_neg] at k; rintro ⟨⟨a1, a2⟩, a3⟩; simp [inAll, a1, a2, a3] at h1
  simp only [inAll, List.all_cons, List.all_nil, Bool.and_true, Bool.and_eq_true, decide_eq_true_eq] at h1
  obtain ⟨b1, b2, b3⟩ := h1
  unfold timeR at k
  rw [if_pos ⟨⟨b1, b2⟩, b3⟩] at k
  have ok := (blueE_ok.1 b1).time
  rw [inn_iff] at b2 b3
  obtain ⟨t0, t1, t2, t3⟩ := time_bd ok b3 b2
  rw [w64 (x := b.time * runs) (by omega) (by omega), w64 (x := 2 * level) (by omega) (by omega), w64 (x := 100 - 2 * level) (by omega) (by omega)]
  refine scaleI_S (by omega) (by omega) (by omega) (by rw [upI_100]; omega) ?_
  rw [post_II]
  exact k
end
end Go.Proofs.Ytljgfkiiikcaaaa

/- Nodes in order: the code's and the document's. -/
set_option linter.unusedVariables false
namespace Go.Proofs.Ytljgfkiiikcaaaa
open Go Go.Proofs
variable {Q : V → Mem → Prop}

open Classical in
/-- The nodes in order, as far as that goes. -/
noncomputable def ordG (n : Int) (L : List Stk) : List Int := if h : ∃ out, Greedy L n out ∧ ∀ k, ¬ Nx1 L n out k then h.choose else []
theorem ordG_eq {n : Int} {L : List Stk} {out : List Int} (hG : Greedy L n out) (hN : ∀ k, ¬ Nx1 L n out k) : ordG n L = out := by
  have h : ∃ out, Greedy L n out ∧ ∀ k, ¬ Nx1 L n out k := ⟨out, hG, hN⟩
  unfold ordG
  rw [dif_pos h]
  obtain ⟨g2, n2⟩ := h.choose_spec
  exact g2.same hG (Nat.le_antisymm (hG.max hN g2) (g2.max n2 hG))
open Classical in
noncomputable def orderR (n : Int) (L : List Stk) : List Int × Int := if gOK n L then (if ((ordG n L).length : Int) < n then ([], 9) else (ordG n L, 0)) else ([], 1)
abbrev vIE (r : List Int × Int) : V := .t [.l 1 (r.1.map eI), .i r.2]
theorem pOrder_S {n : Int} {L : List Stk} (k : Q (vIE (orderR n L)) []) : PRun Try.prog 18 [] [.i n, .l 2 (L.map eS)] Q := by
  refine S18 (ordered_S (fun hg => ?_) (fun hg out G N hl => ?_) fun hg out O G N hl => ?_)
  all_goals
    rw [post_PLI]
    unfold orderR at k
  · rwa [if_neg hg] at k
  · rwa [if_pos hg, ordG_eq G N, if_pos hl] at k
  · rwa [if_pos hg, ordG_eq G N, if_neg hl] at k
end Go.Proofs.Ytljgfkiiikcaaaa

/- How deep nodes stand: the code's and the document's. -/
set_option linter.unusedVariables false
namespace Go.Proofs.Ytljgfkiiikcaaaa
open Go Go.Proofs
variable {Q : V → Mem → Prop}

def dstep (node : Int) (o : List Int) (x : Int) : List Int := o.set (node - 1).toNat (max (o.getD (node - 1).toNat 0) (o.getD (x - 1).toNat 0 + 1))
def dnode (L : List Stk) (o : List Int) (node : Int) : List Int := (needsOf L node.toNat).foldl (dstep node) o
noncomputable def deepL (n : Int) (L : List Stk) : List Int := (ordG n L).foldl (dnode L) (List.replicate n.toNat 0)
noncomputable def deepR (n : Int) (L : List Stk) : List Int × Int := if (orderR n L).2 = 0 then (deepL n L, 0) else ([], (orderR n L).2)
/-- So many numbers, from 0 on, none above m. -/
structure DB (n : Int) (m : Nat) (o : List Int) : Prop where
  len : (o.length : Int) = n
  b : ∀ y ∈ o, 0 ≤ y ∧ y ≤ m
theorem DB.getD {n : Int} {m : Nat} {o : List Int} (d : DB n m o) (k : Nat) : 0 ≤ o.getD k 0 ∧ o.getD k 0 ≤ m := by
  rw [List.getD_eq_getElem?_getD]
  cases h : o[k]? with
  | none => simp
  | some y => exact d.b y (List.mem_of_getElem? h)
theorem DB.step {n : Int} {m : Nat} {o : List Int} (d : DB n m o) (node x : Int) : DB n (m + 1) (dstep node o x) := by
  refine ⟨by unfold dstep; rw [List.length_set]; exact d.len, fun y hy => ?_⟩
  rcases List.mem_or_eq_of_mem_set hy with h | h
  · have := d.b y h; omega
  · have h1 := d.getD (node - 1).toNat
    have h2 := d.getD (x - 1).toNat
    omega
theorem DB.mono {n : Int} {m m' : Nat} {o : List Int} (d : DB n m o) (h : m ≤ m') : DB n m' o := ⟨d.len, fun y hy => by have := d.b y hy; omega⟩
theorem DB.fold {n : Int} (node : Int) : ∀ (l : List Int) {m : Nat} {o : List Int}, DB n m o → DB n (m + l.length) (l.foldl (dstep node) o)
  | [], _, _, d => d
  | x :: l, m, o, d => by
    have := DB.fold node l (d.step node x)
    rw [List.length_cons, List.foldl_cons]
    exact this.mono (by omega)
theorem elI {o : List Int} {i y : Int} {K : Int → Prop} (h0 : 0 ≤ i) (h : o[i.toNat]? = some y) : elL (o.map eI) i (fun r => dI .i64 (ug r 0) K) = K y := by
  rw [elL_of (r := eI y) h0 (by rw [List.getElem?_map, h]; rfl)]; rfl
theorem set_eI {o : List Int} {k : Nat} {y : Int} : List.set (o.map eI) k [.n y] = (o.set k y).map eI := by rw [List.map_set]; rfl
theorem get_getD {o : List Int} {k : Nat} (h : k < o.length) : o[k]? = some (o.getD k 0) := by
  rw [List.getElem?_eq_getElem h, List.getD_eq_getElem?_getD, List.getElem?_eq_getElem h]; rfl
/-- One step, as both take it. -/
theorem step_c {n node x : Int} {m : Nat} {o : List Int} (d : DB n m o) (hm : m ≤ 1000000) (h1 : 1 ≤ node ∧ node ≤ n) (h2 : 1 ≤ x ∧ x ≤ n) (hn : n ≤ 64) {K : List (List U) → Prop} (k : K ((dstep node o x).map eI)) :
    0 ≤ IntKind.wrap .i64 (node - 1) ∧ IntKind.wrap .i64 (node - 1) < (List.length (o.map eI) : Int) ∧ (elL (o.map eI) (IntKind.wrap .i64 (node - 1)) (fun r3 => dI .i64 (ug r3 0) (fun x6 => 0 ≤ IntKind.wrap .i64 (x - 1) ∧ IntKind.wrap .i64 (x - 1) < (List.length (o.map eI) : Int) ∧ (elL (o.map eI) (IntKind.wrap .i64 (x - 1)) (fun r4 => dI .i64 (ug r4 0) (fun x7 => 0 ≤ IntKind.wrap .i64 (node - 1) ∧ IntKind.wrap .i64 (node - 1) < (List.length (o.map eI) : Int) ∧
      K (List.set (o.map eI) (Int.toNat (IntKind.wrap .i64 (node - 1))) [.n (if IntKind.wrap .i64 (x7 + 1) > x6 then IntKind.wrap .i64 (x7 + 1) else x6)]))))))) := by
  have hl := d.len
  rw [w64 (x := node - 1) (by omega) (by omega), w64 (x := x - 1) (by omega) (by omega), List.length_map]
  have e1 := get_getD (o := o) (k := (node - 1).toNat) (by omega)
  have e2 := get_getD (o := o) (k := (x - 1).toNat) (by omega)
  have b2 := d.getD (x - 1).toNat
  refine ⟨by omega, by omega, ?_⟩
  rw [elI (by omega) e1]
  refine ⟨by omega, by omega, ?_⟩
  rw [elI (by omega) e2]
  refine ⟨by omega, by omega, ?_⟩
  rw [w64 (x := o.getD (x - 1).toNat 0 + 1) (by omega) (by omega), set_eI]
  have : (if o.getD (x - 1).toNat 0 + 1 > o.getD (node - 1).toNat 0 then o.getD (x - 1).toNat 0 + 1 else o.getD (node - 1).toNat 0) = max (o.getD (node - 1).toNat 0) (o.getD (x - 1).toNat 0 + 1) := by split <;> omega
  rw [this]
  exact k
theorem rep_eI (n : Nat) : List.replicate n ([.n 0] : List U) = (List.replicate n (0 : Int)).map eI := by simp [eI]
theorem DB.zero {n : Int} (h : 0 ≤ n) : DB n 0 (List.replicate n.toNat 0) := ⟨by simp; omega, fun y hy => by have := List.eq_of_mem_replicate hy; omega⟩
theorem needs_mem {L : List Stk} {k : Nat} {x : Int} (h : x ∈ needsOf L k) : ∃ p ∈ L, p.1 = k ∧ p.2 = x := by
  obtain ⟨p, hp, e⟩ := List.mem_map.1 h
  obtain ⟨h1, h2⟩ := List.mem_filter.1 hp
  exact ⟨p, h1, by simpa using h2, e⟩
theorem pDeep_S {n : Int} {L : List Stk} (k : Q (vIE (deepR n L)) []) : PRun Try.prog 53 [] [.i n, .l 2 (L.map eS)] Q := by
  unfold deepR orderR at k
  refine S53 (ordered_S (fun hg => ?_) (fun hg out G N hl => ?_) fun hg out O G N hl => ?_)
  all_goals rw [post_PLI]
  · rw [if_neg hg] at k; exact cNe (fun _ => k) fun h => by cases h
  · rw [if_pos hg, ordG_eq G N, if_pos hl] at k; exact cNe (fun _ => k) fun h => by cases h
  rw [if_pos hg, ordG_eq G N, if_neg hl] at k
  refine cNe (fun h => absurd rfl h) fun _ => ⟨hg.n0, by have := hg.n64; omega, rfl, ?_⟩
  have k : Q (.t [.l 1 ((deepL n L).map eI), .i 0]) [] := k
  have hon := nodup_len G.nodup G.mem hg.n0
  have hn := hg.n64
  have hLl := hg.len
  refine ⟨fun x l => AtI out (fun t _ => ∃ o, l = o.map eI ∧ o = t.foldl (dnode L) (List.replicate n.toNat 0) ∧ DB n (256 * t.length) o) x, fun x _ => SufM out x, .zero (by omega) ⟨_, rep_eI _, rfl, .zero hg.n0⟩, ?_⟩
  rintro x _ ⟨t, _ | ⟨a, l⟩, s, o, rfl, ho, d⟩
  · have e : o = deepL n L := by rw [ho, s.all, deepL, ordG_eq G N]
    rw [s.d0, e]; exact k
  have ha := G.mem a (by rw [s.e]; simp)
  have htl := congrArg List.length s.e
  simp at htl
  simp only [s.d1, s.el, cond_true]
  simp only [eI, ug0, dI_n, oP_s]
  refine idxK_of a.toNat (by omega) (by omega) ?_
  rw [Nat.mul_one, web_needs (by omega), dL_l]
  have hnl := needsOf_len L a.toNat
  let Inv : Int → List (List U) → Prop := fun z l => AtI (needsOf L a.toNat) (fun t2 _ => ∃ o2, l = o2.map eI ∧ o2 = t2.foldl (dstep a) o ∧ DB n (256 * t.length + t2.length) o2) z
  refine ⟨Inv, fun z _ => SufM (needsOf L a.toNat) z, .zero (by omega) ⟨o, rfl, rfl, d⟩, ?_⟩
  rintro z _ ⟨t2, _ | ⟨b, l2⟩, s2, o2, rfl, ho2, d2⟩
  · rw [s2.d0]
    rw [s2.all] at ho2 d2
    refine s.step ⟨o2, rfl, ?_, d2.mono (by simp; omega)⟩
    rw [List.foldl_append, ← ho]; exact ho2
  have hb : 1 ≤ b ∧ b ≤ n := by
    obtain ⟨p, hp, -, rfl⟩ := needs_mem (show b ∈ needsOf L a.toNat by rw [s2.e]; simp)
    exact inn_iff.1 (hg.ok p hp).2
  have htl2 := congrArg List.length s2.e
  simp at htl2
  simp only [s2.d1, s2.el, cond_true, eI, ug0, dI_n]
  refine step_c d2 (by omega) ha hb hn (K := fun l => Inv (IntKind.wrap .i64 (z + 1)) l ∧ SufM (needsOf L a.toNat) (IntKind.wrap .i64 (z + 1)) < SufM (needsOf L a.toNat) z) (s2.step ⟨_, rfl, ?_, ?_⟩)
  · rw [List.foldl_append, ← ho2]; rfl
  · have := d2.step a b; simpa [Nat.add_assoc] using this
theorem needs_fold {n : Int} {L : List Stk} {a : Int} (t : List Stk) (ha : 0 ≤ a) (o : List Int) : (t.foldl (fun o p => if p.1 = a then dstep a o p.2 else o) o) = (needsOf t a.toNat).foldl (dstep a) o := by
  induction t generalizing o with
  | nil => rfl
  | cons p t ih =>
    rw [List.foldl_cons, ih]
    unfold needsOf
    by_cases h : p.1 = a
    · rw [if_pos h, List.filter_cons_of_pos (by simp; omega)]; rfl
    · rw [if_neg h, List.filter_cons_of_neg (by simp; omega)]
end Go.Proofs.Ytljgfkiiikcaaaa

/- Catalogues: pairs of needs, makers, may one be: the code's and the document's. -/
set_option linter.unusedVariables false
namespace Go.Proofs.Ytljgfkiiikcaaaa
open Go Go.Proofs
variable {Q : V → Mem → Prop}

structure Bay where
  place : Int
  make : Int
  lab : Int
  rate : Int
def eY (b : Bay) : List U := [.n b.place, .n b.make, .n b.lab, .n b.rate]
structure Cat where
  types : Int
  blues : List Bl
  places : Int
  bays : List Bay
  chars : Int
  broker : Int
  least : Int
  sales : Int
abbrev aC (c : Cat) : V := .a [.i c.types, .l 7 (c.blues.map eB), .i c.places, .l 4 (c.bays.map eY), .i c.chars, .i c.broker, .i c.least, .i c.sales]
structure Cat.Rg (c : Cat) : Prop where
  b : ∀ b ∈ c.blues, b.Rg
  nb : c.blues.length ≤ 500
  ny : c.bays.length ≤ 100000
def pairsL (l : List Bl) : List Stk := l.flatMap fun b => b.needs.map fun s => (b.makes, s.1)
theorem pairsL_snoc (t : List Bl) (b : Bl) : pairsL (t ++ [b]) = pairsL t ++ b.needs.map fun s => (b.makes, s.1) := by simp [pairsL]
theorem pairsL_len : ∀ (l : List Bl), (∀ b ∈ l, b.Rg) → (pairsL l).length ≤ 1000 * l.length
  | [], _ => by simp [pairsL]
  | b :: l, h => by
    have h1 := pairsL_len l fun x hx => h x (by simp [hx])
    have h2 := (h b (by simp)).n
    simp only [pairsL, List.flatMap_cons, List.length_append, List.length_map, List.length_cons] at h1 ⊢
    omega
section
variable {c : Cat}
theorem pPairs_S (hc : c.Rg) (k : Q (.l 2 ((pairsL c.blues).map eS)) []) : PRun Try.prog 19 [] [aC c] Q := by
  refine S19 ⟨fun l x => AtI c.blues (fun t _ => l = (pairsL t).map eS) x, fun _ => SufM c.blues, .zero (by have := hc.nb; omega) rfl, ?_⟩
  rintro _ x ⟨t, _ | ⟨b, l⟩, s, rfl⟩
  · rw [s.d0, s.all]; exact k
  have hb := hc.b b (by rw [s.e]; simp)
  have hbn := hb.n
  have hnb := hc.nb
  have htl := congrArg List.length s.e
  simp at htl
  have htp := pairsL_len t fun x hx => hc.b x (by rw [s.e]; simp [hx])
  simp only [s.d1, s.el, eB, ug0, ugs, dI_n, dL_l, cond_true]
  refine ⟨fun l x => AtI b.needs (fun t2 _ => l = (pairsL t ++ t2.map fun s => (b.makes, s.1)).map eS) x, fun _ => SufM b.needs, .zero (by omega) (by simp), ?_⟩
  rintro _ y ⟨t2, _ | ⟨a, l2⟩, s2, rfl⟩
  · rw [s2.d0, s2.all]; exact s.step (by rw [pairsL_snoc])
  have htl2 := congrArg List.length s2.e
  simp at htl2
  simp only [s2.d1, s2.el, eS, ug0, ugs, dI_n, cond_true]
  exact ⟨apOk_l (by simp; omega), s2.step (by simp [eS])⟩
/-- The maker of a type: its number, from 1 on; 0: none. -/
def maker (l : List Bl) (kind : Int) : Int := fstI (fun b => b.makes == kind) l 0 + 1
theorem fstI_at {α : Type} {p : α → Bool} : ∀ {t l : List α} {a : α} {k : Nat}, (∀ u ∈ t, p u = false) → p a = true → fstI p (t ++ a :: l) k = ((k + t.length : Nat) : Int)
  | [], l, a, k, _, h => by simp [fstI, h]
  | u :: t, l, a, k, ht, h => by
    simp only [List.cons_append, fstI, ht u (by simp), Bool.false_eq_true, if_false]
    rw [fstI_at (fun v hv => ht v (by simp [hv])) h]
    simp; omega
theorem fstI_none {α : Type} {p : α → Bool} : ∀ {l : List α} {k : Nat}, (∀ u ∈ l, p u = false) → fstI p l k = -1
  | [], _, _ => rfl
  | u :: l, k, h => by
    simp only [fstI, h u (by simp), Bool.false_eq_true, if_false]
    exact fstI_none fun v hv => h v (by simp [hv])
theorem pMaker_S {kind : Int} (hc : c.Rg) (k : Q (.i (maker c.blues kind)) []) : PRun Try.prog 32 [] [aC c, .i kind] Q := by
  refine S32 ⟨AtI c.blues fun t _ => ∀ b ∈ t, (b.makes == kind) = false, SufM c.blues, .zero (by have := hc.nb; omega) (by simp), ?_⟩
  rintro x ⟨t, _ | ⟨b, l⟩, s, ht⟩
  · rw [s.d0]; rw [s.all] at ht
    unfold maker at k; rwa [fstI_none ht] at k
  simp only [s.d1, s.el, eB, ug0, ugs, dI_n, dL_l, cond_true]
  refine cB (fun h => ?_) fun h => s.step fun u hu => ?_
  · unfold maker at k
    rw [s.e, fstI_at ht h] at k
    rw [s.suf.wr, s.k]
    simpa using k
  · rcases List.mem_append.1 hu with hu | hu
    · exact ht u hu
    · simp at hu; subst hu; exact h
/- ## May a catalogue be? -/
def feeOK (c : Cat) : Bool := inn c.broker 0 10000 && (inn c.sales 0 10000 && inn c.least 0 1152921504606846976)
theorem pFee_S (k : Q (.i (if feeOK c = true then 0 else 1)) []) : PRun Try.prog 79 [] [.a [.i c.broker, .i c.least, .i c.sales]] Q := by
  unfold feeOK at k
  refine S79 (S91 (inn_c ?_))
  rw [post_B]
  refine cB (fun h1 => S91 (inn_c ?_)) fun h => by simpa [h] using k
  rw [post_B]
  refine cB (fun h2 => S92 (inn_c ?_)) fun h => by simpa [h] using k
  rw [post_B]
  exact cB (fun h3 => by simpa [h1, h2, h3] using k) fun h => by simpa [h] using k
end
end Go.Proofs.Ytljgfkiiikcaaaa

/- May a catalogue be: the code's and the document's Check. -/
set_option linter.unusedVariables false
namespace Go.Proofs.Ytljgfkiiikcaaaa
open Go Go.Proofs
variable {Q : V → Mem → Prop} {c : Cat}

def bayOK (c : Cat) (y : Bay) : Prop := inn y.place 1 c.places = true ∧ inn y.make 0 8 = true ∧ inn y.lab 0 8 = true ∧ inn y.rate 0 10000 = true
structure Cat.Sz (c : Cat) : Prop where
  types : inn c.types 1 32 = true
  places : inn c.places 1 8 = true
  chars : inn c.chars 1 16 = true
  nb : c.blues.length ≤ 16
  ny : c.bays.length ≤ 8
  bl : ∀ b ∈ c.blues, blueE b c.types = 0
  by' : ∀ y ∈ c.bays, bayOK c y
  fee : feeOK c = true
open Classical in
noncomputable def catE (c : Cat) : Int := if c.Sz then (if (deepR c.types (pairsL c.blues)).2 ≠ 0 then (deepR c.types (pairsL c.blues)).2 else if ∃ d ∈ deepL c.types (pairsL c.blues), 8 < d then 5 else 0) else 1
theorem deep_len {n : Int} {L : List Stk} (h : (deepR n L).2 = 0) : gOK n L ∧ ((deepL n L).length : Int) = n ∧ (deepR n L).1 = deepL n L := by
  have h1 : (orderR n L).2 = 0 := by
    unfold deepR at h
    by_cases h2 : (orderR n L).2 = 0
    · exact h2
    · rw [if_neg h2] at h; exact h
  unfold deepR orderR at h
  by_cases hg : gOK n L
  · refine ⟨hg, ?_, ?_⟩
    · unfold deepL
      have : ∀ (l : List Int) (o : List Int), (l.foldl (dnode L) o).length = o.length := by
        intro l
        induction l with
        | nil => intro o; rfl
        | cons a l ih =>
          intro o
          rw [List.foldl_cons, ih]
          unfold dnode
          generalize needsOf L a.toNat = xs
          induction xs generalizing o with
          | nil => rfl
          | cons x xs ih2 => rw [List.foldl_cons, ih2]; simp [dstep]
      rw [this]
      have := hg.n0
      simp; omega
    · unfold deepR
      rw [if_pos h1]
  · rw [if_neg hg] at h
    simp at h
theorem sizes_S (hc : c.Rg) (k : ∀ b : Bool, (b = true ↔ c.Sz) → Q (.u (.b b)) []) : PRun Try.prog 52 [] [aC c] Q := by
  refine S52 fun k1 hk1 => ?_
  have hnb := hc.nb
  have hny := hc.ny
  have H : ∀ b1 : Bool, (b1 = true ↔ inn c.types 1 32 = true ∧ inn c.places 1 8 = true ∧ inn c.chars 1 16 = true ∧ c.blues.length ≤ 16 ∧ c.bays.length ≤ 8) → k1 b1 := by
    intro b1 hb1
    refine hk1 b1 fun k2 hk2 => ?_
    have bad : ¬ c.Sz → k2 false := fun h => hk2 false (k false (by simp [h]))
    refine cB (fun h1 => ?_) fun h1 => bad fun z => by rw [hb1.2 ⟨z.types, z.places, z.chars, z.nb, z.ny⟩] at h1; cases h1
    obtain ⟨n1, n2, n3, n4, n5⟩ := hb1.1 h1
    refine ⟨AtI c.blues fun t _ => ∀ b ∈ t, blueE b c.types = 0, SufM c.blues, .zero (by omega) (by simp), ?_⟩
    rintro x ⟨t, _ | ⟨b, l⟩, s, ht⟩
    case cons =>
      have hm : b ∈ c.blues := by rw [s.e]; simp
      simp only [s.d1, s.el, eB, ug0, ugs, dI_n, dL_l, cond_true]
      refine pBlue_S (hc.b b hm) ?_
      rw [post_I, decide_eq_true (show x ≥ 0 from s.suf.lt.1), Bool.not_true, cond_false]
      refine cNe (fun h => bad fun z => h (z.bl b hm)) fun h => s.step fun u hu => ?_
      rcases List.mem_append.1 hu with hu | hu
      · exact ht u hu
      · simp at hu; subst hu; exact h
    rw [s.all] at ht
    rw [s.d0, cond_false]
    refine ⟨AtI c.bays fun t _ => ∀ y ∈ t, bayOK c y, SufM c.bays, .zero (by omega) (by simp), ?_⟩
    rintro x ⟨t2, _ | ⟨y, l⟩, s, ht2⟩
    case cons =>
      have hm : y ∈ c.bays := by rw [s.e]; simp
      simp only [s.d1, s.el, eY, ug0, ugs, dI_n, dL_l, cond_true, decide_eq_true (show x ≥ 0 from s.suf.lt.1), Bool.not_true, cond_false]
      refine in2_S ?_
      rw [post_B]
      refine cNot (cB (fun o1 => in2_S ?_) fun h => bad fun z => by rw [(z.by' y hm).1] at h; cases h)
      rw [post_B]
      refine cNot (cB (fun o2 => in2_S ?_) fun h => bad fun z => by rw [(z.by' y hm).2.1] at h; cases h)
      rw [post_B]
      refine cNot (cB (fun o3 => in2_S ?_) fun h => bad fun z => by rw [(z.by' y hm).2.2.1] at h; cases h)
      rw [post_B]
      refine cNot (cB (fun o4 => s.step fun u hu => ?_) fun h => bad fun z => by rw [(z.by' y hm).2.2.2] at h; cases h)
      rcases List.mem_append.1 hu with hu | hu
      · exact ht2 u hu
      · simp at hu; subst hu; exact ⟨o1, o2, o3, o4⟩
    rw [s.all] at ht2
    rw [s.d0, cond_false]
    refine pFee_S ?_
    rw [post_I]
    by_cases hf : feeOK c = true
    · rw [if_pos hf]; exact hk2 true (k true (by simp; exact ⟨n1, n2, n3, n4, n5, ht, ht2, hf⟩))
    · rw [if_neg hf]; exact bad fun z => hf z.fee
  refine in2_S ?_
  rw [post_B]
  refine cB (fun h1 => in2_S ?_) fun h => H false (by simp [h])
  rw [post_B]
  refine cB (fun h2 => in2_S ?_) fun h => H false (by simp [h])
  rw [post_B]
  refine cB (fun h3 => cIf (fun h4 => H _ ?_) fun h4 => H false ?_) fun h => H false (by simp [h])
  · simp only [List.length_map] at h4 ⊢
    simp [h1, h2, h3]; omega
  · simp only [List.length_map] at h4
    simp; omega
theorem max_S {l : List Int} (h0 : l ≠ []) (hl : l.length ≤ 1000000) (k : ∀ m ∈ l, (∀ y ∈ l, y ≤ m) → Q (.i m) []) : PRun Try.prog 54 [] [.l 1 (l.map eI)] Q := by
  rcases l with _ | ⟨a, l⟩
  · exact absurd rfl h0
  refine S54 (cIf (fun h => by simp at h; omega) fun _ => ?_)
  rw [elI (y := a) (by decide) rfl]
  refine ⟨fun m x => AtI (a :: l) (fun t _ => t ≠ [] ∧ m ∈ t ∧ ∀ y ∈ t, y ≤ m) x, fun _ => SufM (a :: l), ⟨[a], l, ⟨rfl, rfl, by simp at hl ⊢; omega⟩, by simp, by simp, by simp⟩, ?_⟩
  rintro m x ⟨t, _ | ⟨b, l2⟩, s, hne, hm, hle⟩
  · rw [s.d0]; rw [s.all] at hm hle
    exact k m hm hle
  · simp only [s.d1, s.el, eI, ug0, dI_n, cond_true]
    refine s.step ⟨by simp, ?_, fun y hy => ?_⟩
    · split <;> simp [hm]
    · rcases List.mem_append.1 hy with hy | hy
      · have := hle y hy; split <;> omega
      · simp at hy; subst hy; split <;> omega
theorem pCat_S (hc : c.Rg) (k : Q (.i (catE c)) []) : PRun Try.prog 35 [] [aC c] Q := by
  refine S35 (sizes_S hc fun b hb => ?_)
  rw [post_B]
  unfold catE at k
  refine cNot (cB (fun h => pPairs_S hc ?_) fun h => ?_)
  rotate_left
  · rwa [if_neg (fun z => by rw [hb.2 z] at h; cases h)] at k
  have z := hb.1 h
  rw [if_pos z] at k
  rw [post_L]
  refine pDeep_S ?_
  rw [post_LI]
  refine cNe (fun h => by rwa [if_pos h] at k) fun h => ?_
  rw [if_neg (by simpa using h)] at k
  obtain ⟨hg, hl, e⟩ := deep_len h
  have ht := inn_iff.1 z.types
  rw [e]
  refine max_S (fun h0 => by rw [h0] at hl; simp at hl; omega) (by omega) fun m hm hle => ?_
  rw [post_I]
  refine cIf (fun h => ?_) fun h => ?_
  · rwa [if_pos ⟨m, hm, h⟩] at k
  · rwa [if_neg (fun ⟨d, hd, h8⟩ => by have := hle d hd; omega)] at k
end Go.Proofs.Ytljgfkiiikcaaaa

/- Bills: may it be asked; runs; how long all take: the code's and the document's. -/
set_option linter.unusedVariables false
namespace Go.Proofs.Ytljgfkiiikcaaaa
open Go Go.Proofs
variable {Q : V → Mem → Prop} {c : Cat}

open Classical in
noncomputable def mayE (c : Cat) (kind level : Int) (l : List Stk) : Int := if catE c ≠ 0 then catE c else if inn kind 1 c.types = true ∧ inn level 0 10 = true then chkE l c.types else 1
theorem checks_S {kind level : Int} {l : List Stk} (hc : c.Rg) (hl : l.length ≤ 1000) (k : Q (.i (mayE c kind level l)) []) : PRun Try.prog 16 [] [aC c, .i kind, .i level, .l 2 (l.map eS)] Q := by
  unfold mayE at k
  refine S16 (pCat_S hc ?_)
  rw [post_I]
  refine cNe (fun h => by rwa [if_pos h] at k) fun h => in1_S ?_
  rw [if_neg (by simpa using h)] at k
  rw [post_B]
  refine cNot (cB (fun h1 => in1_S ?_) fun h1 => by rwa [if_neg (by simp [h1])] at k)
  rw [post_B]
  refine cNot (cB (fun h2 => pCheck_S (by omega) ?_) fun h2 => by rwa [if_neg (by simp [h2])] at k)
  rw [post_I]
  rwa [if_pos ⟨h1, h2⟩] at k
def runsOK (c : Cat) (l : List Int) : Prop := l.length = c.blues.length ∧ ∀ n ∈ l, inn n 0 1000 = true
theorem areRuns_S {l : List Int} (hl : l.length ≤ 1000000) (k : ∀ b : Bool, (b = true ↔ runsOK c l) → Q (.u (.b b)) []) : PRun Try.prog 27 [] [aC c, .l 1 (l.map eI)] Q := by
  refine S27 (cEq (fun h => ?_) fun h => k false (by simp [runsOK]; intro e; simp [e] at h))
  simp only [List.length_map] at h
  refine ⟨AtI l fun t _ => ∀ n ∈ t, inn n 0 1000 = true, SufM l, .zero (by omega) (by simp), ?_⟩
  rintro x ⟨t, _ | ⟨a, l'⟩, s, ht⟩
  · rw [s.all] at ht
    rw [s.d0]; exact k true (by simp; exact ⟨by omega, ht⟩)
  · simp only [s.d1, s.el, eI, ug0, dI_n, cond_true]
    refine in1_S ?_
    rw [post_B, decide_eq_true (show x ≥ 0 from s.suf.lt.1)]
    refine cNot (cB (fun o => s.step fun u hu => ?_) fun h => k false ?_)
    · rcases List.mem_append.1 hu with hu | hu
      · exact ht u hu
      · simp at hu; subst hu; exact o
    · simp only [Bool.false_eq_true, false_iff]
      exact fun r => by rw [r.2 a (by rw [s.e]; simp)] at h; cases h
/-- How long each blueprint's runs take. -/
noncomputable def timeN (level : Int) (p : Int × Bl) : Int := if 0 < p.1 then (timeR p.2 level p.1).1 else 0
noncomputable def timesL (c : Cat) (runs : List Int) (level : Int) : List Int := (runs.zip c.blues).map (timeN level)
open Classical in
noncomputable def timesR (c : Cat) (kind : Int) (runs : List Int) (level : Int) : List Int × Int :=
  if mayE c kind level [] ≠ 0 then ([], mayE c kind level []) else if runsOK c runs then (timesL c runs level, 0) else ([], 1)
theorem zip_fst {α β : Type} : ∀ {a : List α} {b : List β}, a.length = b.length → (a.zip b).map (·.1) = a ∧ (a.zip b).map (·.2) = b
  | [], [], _ => ⟨rfl, rfl⟩
  | x :: a, y :: b, h => by
    have := zip_fst (a := a) (b := b) (by simpa using h)
    simp [this.1, this.2]
theorem times_S {kind level : Int} {runs : List Int} (hc : c.Rg) (hl : runs.length ≤ 1000000) (k : Q (vIE (timesR c kind runs level)) []) : PRun Try.prog 31 [] [aC c, .i kind, .l 1 (runs.map eI), .i level] Q := by
  unfold timesR at k
  refine S31 (checks_S (l := []) hc (by simp) ?_)
  rw [post_I]
  refine cNe (fun h => by rwa [if_pos h] at k) fun h => areRuns_S hl fun b hb => ?_
  rw [if_neg (by simpa using h)] at k
  rw [post_B]
  refine cNot (cB (fun h1 => ?_) fun h1 => by rwa [if_neg (fun r => by rw [hb.2 r] at h1; cases h1)] at k)
  have ro := hb.1 h1
  rw [if_pos ro] at k
  obtain ⟨e1, e2⟩ := zip_fst ro.1
  have hnb := hc.nb
  unfold timesL at k
  have hzm : ∀ p ∈ runs.zip c.blues, p.2 ∈ c.blues := fun p hp => (List.of_mem_zip hp).2
  have hzl : (runs.zip c.blues).length ≤ 500 := by rw [List.length_zip]; omega
  generalize runs.zip c.blues = z at *
  rw [← e1, ← e2]
  refine ⟨fun l x => AtI z (fun t _ => l = (t.map (timeN level)).map eI) x, fun _ => SufM z, .zero (by omega) rfl, ?_⟩
  rintro _ x ⟨t, _ | ⟨p, l⟩, s, rfl⟩
  · rw [List.map_map, s.d0, s.all]; exact k
  have htl := congrArg List.length s.e
  simp at htl
  simp only [List.map_map, s.d1, s.el, cond_true, Function.comp_apply, eI, eB, ug0, ugs, dI_n, dL_l]
  refine cIf (fun h => pTime_S (b := p.2) (hc.b _ (hzm p (by rw [s.e]; simp))) ?_) fun h => ⟨apOk_l (by simp; omega), s.step (by simp [timeN, h, eI])⟩
  rw [post_II]
  exact ⟨apOk_l (by simp; omega), s.step (by simp [timeN, h, eI])⟩
end Go.Proofs.Ytljgfkiiikcaaaa

/- How long all runs take: the code's and the document's. -/
set_option linter.unusedVariables false
namespace Go.Proofs.Ytljgfkiiikcaaaa
open Go Go.Proofs
variable {Q : V → Mem → Prop} {c : Cat}

def sumZ : List Int → Int
  | [] => 0
  | x :: l => x + sumZ l
theorem sumZ_snoc : ∀ (l : List Int) (x : Int), sumZ (l ++ [x]) = sumZ l + x
  | [], x => by simp [sumZ]
  | y :: l, x => by simp only [List.cons_append, sumZ, sumZ_snoc l x]; omega
theorem sumZ_bd {l : List Int} {B : Int} (h : ∀ y ∈ l, 0 ≤ y ∧ y ≤ B) (hB : 0 ≤ B) : 0 ≤ sumZ l ∧ sumZ l ≤ l.length * B := by
  induction l with
  | nil => simp [sumZ]
  | cons x l ih =>
    have h1 := h x (by simp)
    have h2 := ih fun y hy => h y (by simp [hy])
    simp only [sumZ, List.length_cons]
    rw [show ((l.length + 1 : Nat) : Int) * B = l.length * B + B by rw [Int.natCast_add, Int.add_mul]; simp]
    omega
theorem add_S {a b : Int} (ha : 0 ≤ a) (hb : 0 ≤ b) (h : a + b ≤ 9223372036854775807) (k : Q (.t [.i (a + b), .i 0]) []) : PRun Try.prog 51 [] [.i a, .i b] Q := by
  refine S51 ?_
  rw [w64 (x := a + b) (by omega) (by omega), decide_eq_true (show a ≥ 0 from ha), decide_eq_true (show b ≥ 0 from hb), decide_eq_true (show a + b ≥ 0 by omega)]
  exact k
theorem sum_S {l : List Int} (h : ∀ y ∈ l, 0 ≤ y ∧ y ≤ 1048576000) (hl : l.length ≤ 1000000) (k : Q (.t [.i (sumZ l), .i 0]) []) : PRun Try.prog 33 [] [.l 1 (l.map eI)] Q := by
  refine S33 ⟨fun n x => AtI l (fun t _ => n = sumZ t) x, fun _ => SufM l, .zero (by omega) rfl, ?_⟩
  rintro _ x ⟨t, _ | ⟨a, l'⟩, s, rfl⟩
  · rw [s.d0, s.all]; exact k
  have ht := sumZ_bd (l := t) (fun y hy => h y (by rw [s.e]; simp [hy])) (by decide)
  have ha := h a (by rw [s.e]; simp)
  have htl := congrArg List.length s.e
  simp at htl
  simp only [s.d1, s.el, eI, ug0, dI_n, cond_true]
  refine add_S ht.1 ha.1 (by omega) ?_
  rw [post_II]
  exact cNe (fun h => absurd rfl h) fun _ => s.step (sumZ_snoc t a).symm
theorem timeN_bd {level : Int} (p : Int × Bl) : 0 ≤ timeN level p ∧ timeN level p ≤ 1048576000 := by
  unfold timeN
  split
  · unfold timeR
    split
    · rename_i h
      obtain ⟨⟨h1, h2⟩, h3⟩ := h
      have ok := (blueE_ok.1 h1).time
      rw [inn_iff] at h2 h3
      have := time_bd ok h3 h2
      simp only [upI_100]
      omega
    · simp
  · simp
open Classical in
noncomputable def wholeR (c : Cat) (runs : List Int) (level : Int) : Int × Int :=
  if mayE c 1 level [] ≠ 0 then (0, mayE c 1 level []) else if runsOK c runs then (sumZ (timesL c runs level), 0) else (0, 1)
theorem timesL_bd {runs : List Int} {level : Int} : ∀ y ∈ timesL c runs level, 0 ≤ y ∧ y ≤ 1048576000 := by
  intro y hy
  obtain ⟨p, -, rfl⟩ := List.mem_map.1 hy
  exact timeN_bd p
theorem pWhole_S {level : Int} {runs : List Int} (hc : c.Rg) (hl : runs.length ≤ 1000000) (k : Q (vII (wholeR c runs level)) []) : PRun Try.prog 12 [] [aC c, .l 1 (runs.map eI), .i level] Q := by
  refine S12 (times_S hc hl ?_)
  rw [post_LI]
  unfold wholeR at k
  unfold timesR
  by_cases h : mayE c 1 level [] ≠ 0
  · rw [if_pos h] at k ⊢
    exact cNe (fun _ => k) fun h2 => absurd h2 h
  · rw [if_neg h] at k ⊢
    by_cases h1 : runsOK c runs
    · rw [if_pos h1] at k ⊢
      refine cNe (fun h => absurd rfl h) fun _ => sum_S timesL_bd (by unfold timesL; rw [List.length_map, List.length_zip]; omega) ?_
      rw [post_II]; exact k
    · rw [if_neg h1] at k ⊢
      exact cNe (fun _ => k) fun h2 => by cases h2
end Go.Proofs.Ytljgfkiiikcaaaa

/- The longest way to a type. Plain facts of catalogues that may be. -/
set_option linter.unusedVariables false
namespace Go.Proofs.Ytljgfkiiikcaaaa
open Go Go.Proofs
variable {Q : V → Mem → Prop} {c : Cat}

/-- What is known of a catalogue that may be. -/
structure CatOK (c : Cat) (out : List Int) : Prop where
  sz : c.Sz
  g : Greedy (pairsL c.blues) c.types out
  r : orderR c.types (pairsL c.blues) = (out, 0)
  all : ∀ t, 1 ≤ t → t ≤ c.types → t ∈ out
theorem cat_ok (h : catE c = 0) : ∃ out, CatOK c out := by
  unfold catE at h
  split at h
  rotate_left
  · cases h
  rename_i z
  split at h
  · rename_i h2; exact absurd h h2
  rename_i h2
  have h2 : (deepR c.types (pairsL c.blues)).2 = 0 := by simpa using h2
  have h1 : (orderR c.types (pairsL c.blues)).2 = 0 := by
    unfold deepR at h2
    by_cases h3 : (orderR c.types (pairsL c.blues)).2 = 0
    · exact h3
    · rw [if_neg h3] at h2; exact h2
  obtain ⟨hg, -, -⟩ := deep_len h2
  unfold orderR at h1
  rw [if_pos hg] at h1
  split at h1
  · cases h1
  rename_i hl
  have ht := inn_iff.1 z.types
  by_cases hex : ∃ out, Greedy (pairsL c.blues) c.types out ∧ ∀ k, ¬ Nx1 (pairsL c.blues) c.types out k
  rotate_left
  · have h0 : ordG c.types (pairsL c.blues) = [] := by unfold ordG; rw [dif_neg hex]
    rw [h0] at hl; simp at hl; omega
  obtain ⟨out, G, N⟩ := hex
  have eG := ordG_eq G N
  rw [eG] at hl
  refine ⟨out, z, G, by unfold orderR; rw [if_pos hg, eG, if_neg hl], fun t h1 h2 => ?_⟩
  apply Decidable.byContradiction
  intro hn
  have hd : (out ++ [t]).Nodup := List.nodup_append.2 ⟨G.nodup, by simp, fun a ha b hb e => by simp at hb; subst hb; subst e; exact hn ha⟩
  have := nodup_len hd (fun x hx => by
    rcases List.mem_append.1 hx with hx | hx
    · exact G.mem x hx
    · simp at hx; subst hx; exact ⟨h1, h2⟩) (by omega)
  simp at this
  omega
theorem maker_get {l : List Bl} {t : Int} : maker l t = 0 ∨ ∃ (i : Nat) (b : Bl), maker l t = i + 1 ∧ l[i]? = some b ∧ b.makes = t := by
  unfold maker
  have key : ∀ (l : List Bl) (k : Nat), fstI (fun b => b.makes == t) l k = -1 ∨ ∃ (i : Nat) (b : Bl), fstI (fun b => b.makes == t) l k = ((k + i : Nat) : Int) ∧ l[i]? = some b ∧ b.makes = t := by
    intro l
    induction l with
    | nil => intro k; exact .inl rfl
    | cons x l ih =>
      intro k
      simp only [fstI]
      by_cases h : x.makes = t
      · exact .inr ⟨0, x, by simp [h], rfl, h⟩
      · rw [if_neg (by simpa using h)]
        rcases ih (k + 1) with h1 | ⟨i, b, h1, h2, h3⟩
        · exact .inl h1
        · exact .inr ⟨i + 1, b, by rw [h1]; congr 1; omega, by simpa using h2, h3⟩
  rcases key l 0 with h | ⟨i, b, h1, h2, h3⟩
  · exact .inl (by rw [h]; rfl)
  · exact .inr ⟨i, b, by rw [h1]; simp, h2, h3⟩
theorem pair_mem {l : List Bl} {b : Bl} {s : Stk} (hb : b ∈ l) (hs : s ∈ b.needs) : (b.makes, s.1) ∈ pairsL l := List.mem_flatMap.2 ⟨b, hb, List.mem_map.2 ⟨s, hs, rfl⟩⟩

/- ## Ways -/
/-- The longest of some, and one. -/
def maxF (f : Int → Int) : Int → List Stk → Int
  | x, [] => x
  | x, s :: l => maxF f (max x (f s.1)) l
theorem maxF_snoc (f : Int → Int) : ∀ (x : Int) (l : List Stk) (s : Stk), maxF f x (l ++ [s]) = max (maxF f x l) (f s.1)
  | x, [], s => rfl
  | x, a :: l, s => maxF_snoc f _ l s
theorem maxF_congr {f g : Int → Int} : ∀ {l : List Stk} {x : Int}, (∀ s ∈ l, f s.1 = g s.1) → maxF f x l = maxF g x l
  | [], _, _ => rfl
  | a :: l, x, h => by simp only [maxF, h a (by simp)]; exact maxF_congr fun s hs => h s (by simp [hs])
theorem maxF_bd {f : Int → Int} {B : Int} : ∀ (l : List Stk) (x : Int), 0 ≤ x → x ≤ B → (∀ s ∈ l, f s.1 ≤ B) → 0 ≤ maxF f x l ∧ maxF f x l ≤ B := by
  intro l
  induction l with
  | nil => intro x h1 h2 _; exact ⟨h1, h2⟩
  | cons a l ih =>
    intro x h1 h2 h
    have := h a (by simp)
    exact ih _ (by omega) (by omega) fun s hs => h s (by simp [hs])
/-- How long a type takes, by how long its needs take. -/
noncomputable def wayE (c : Cat) (runs : List Int) (level : Int) (f : Int → Int) (t : Int) : Int :=
  if maker c.blues t = 0 then 0 else
    match (runs.zip c.blues)[(maker c.blues t - 1).toNat]? with
    | none => 0
    | some p => if p.1 = 0 then 0 else (timeR p.2 level p.1).1 + maxF f 0 p.2.needs
def WayF (c : Cat) (runs : List Int) (level : Int) (f : Int → Int) : Prop := ∀ t, 1 ≤ t → t ≤ c.types → f t = wayE c runs level f t
theorem wayE_congr {runs : List Int} {level t : Int} {f g : Int → Int} (h : ∀ i b, maker c.blues t = ((i : Nat) : Int) + 1 → c.blues[i]? = some b → ∀ s ∈ b.needs, f s.1 = g s.1) : wayE c runs level f t = wayE c runs level g t := by
  unfold wayE
  by_cases hm : maker c.blues t = 0
  · rw [if_pos hm, if_pos hm]
  · rw [if_neg hm, if_neg hm]
    rcases maker_get (l := c.blues) (t := t) with h0 | ⟨i, b, h1, h2, h3⟩
    · exact absurd h0 hm
    rw [h1, show (((i : Int) + 1 - 1).toNat) = i by omega]
    cases hz : (runs.zip c.blues)[i]? with
    | none => rfl
    | some p =>
      have hp : p.2 = b := by
        rw [List.getElem?_zip_eq_some] at hz
        rw [h2] at hz
        exact (Option.some.inj hz.2).symm
      simp only
      rw [hp, maxF_congr (h i b h1 h2)]
end Go.Proofs.Ytljgfkiiikcaaaa

/- The longest way to a type: the document's. -/
set_option linter.unusedVariables false
namespace Go.Proofs.Ytljgfkiiikcaaaa
open Go Go.Proofs
variable {Q : V → Mem → Prop} {c : Cat} {out t l : List Int} {a : Int} {runs : List Int} {level : Int} {f : Int → Int}

theorem CatOK.needs (h : CatOK c out) (e : out = t ++ a :: l) {b : Bl} (hb : b ∈ c.blues) (hm : b.makes = a) : ∀ s ∈ b.needs, s.1 ∈ t := by
  intro s hs
  have g := h.g.take (t.length + 1)
  rw [e, show t ++ a :: l = (t ++ [a]) ++ l by simp, List.take_left' (by simp)] at g
  exact g.inv.2.1.2.2.2 _ (pair_mem hb hs) hm
theorem zip_get {α β : Type} {x : List α} {y : List β} {i : Nat} {b : β} (h : x.length = y.length) (hb : y[i]? = some b) : ∃ n, x[i]? = some n ∧ (x.zip y)[i]? = some (n, b) := by
  have hi : i < x.length := by have := (List.getElem?_eq_some_iff.1 hb).1; omega
  exact ⟨x[i], List.getElem?_eq_getElem hi, List.getElem?_zip_eq_some.2 ⟨List.getElem?_eq_getElem hi, hb⟩⟩
theorem wayE_eq {t : Int} {i : Nat} {b : Bl} {n : Int} (ro : runsOK c runs) (hm : maker c.blues t = i + 1) (hb : c.blues[i]? = some b) (hn : runs[i]? = some n) :
    wayE c runs level f t = if n = 0 then 0 else (timeR b level n).1 + maxF f 0 b.needs := by
  obtain ⟨n', h1, h2⟩ := zip_get ro.1 hb
  rw [hn] at h1
  cases h1
  unfold wayE
  rw [hm, if_neg (by omega), show (((i : Int) + 1 - 1).toNat) = i by omega, h2]
theorem time_le {b : Bl} {n : Int} : 0 ≤ (timeR b level n).1 ∧ (timeR b level n).1 ≤ 1048576000 := by
  by_cases h : 0 < n
  · have := timeN_bd (level := level) (n, b)
    unfold timeN at this
    rwa [if_pos h] at this
  · unfold timeR
    rw [if_neg]
    · simp
    · rintro ⟨-, h2⟩
      rw [inn_iff] at h2
      omega
/-- Ways are no longer than so. -/
theorem way_bd (h : CatOK c out) (ro : runsOK c runs) (hf : WayF c runs level f) : ∀ (n : Nat) (t l : List Int) (a : Int), t.length = n → out = t ++ a :: l → 0 ≤ f a ∧ f a ≤ 1048576000 * (n + 1) := by
  intro n
  induction n using Nat.strongRecOn with
  | _ n ih =>
    intro t l a hn e
    have ha := h.g.mem a (by rw [e]; simp)
    rw [hf a ha.1 ha.2]
    rcases maker_get (l := c.blues) (t := a) with h0 | ⟨i, b, h1, h2, h3⟩
    · unfold wayE; rw [if_pos h0]; omega
    obtain ⟨m, hm, -⟩ := zip_get ro.1 h2
    rw [wayE_eq ro h1 h2 hm]
    split
    · omega
    have hb := List.mem_of_getElem? h2
    have := maxF_bd (f := f) (B := 1048576000 * n) b.needs 0 (Int.le_refl _) (by omega) fun s hs => by
      have hst := h.needs e hb h3 s hs
      obtain ⟨t', l', rfl⟩ := List.append_of_mem hst
      have hlt : t'.length < n := by rw [← hn]; simp
      have := ih t'.length hlt t' (l' ++ a :: l) s.1 rfl (by rw [e]; simp)
      omega
    have := time_le (level := level) (b := b) (n := m)
    omega
end Go.Proofs.Ytljgfkiiikcaaaa

/- The longest way to a type: the code's. -/
set_option linter.unusedVariables false
namespace Go.Proofs.Ytljgfkiiikcaaaa
open Go Go.Proofs
variable {Q : V → Mem → Prop} {c : Cat} {out : List Int} {runs : List Int} {level : Int}

/-- What an array says of a type. -/
def atA (A : List Int) (t : Int) : Int := A.getD t.toNat 0
structure WayA (c : Cat) (runs : List Int) (level : Int) (out t : List Int) (A : List Int) : Prop where
  len : A.length = 33
  done : ∀ u ∈ t, atA A u = wayE c runs level (atA A) u
  zero : ∀ u, u ∉ t → 0 ≤ u → atA A u = 0
  bd : ∀ u, 0 ≤ atA A u ∧ atA A u ≤ 1048576000 * t.length
theorem atA_set {A : List Int} {a u v : Int} (hA : A.length = 33) (ha : 0 ≤ a) (ha2 : a < 33) (hu : 0 ≤ u) : atA (A.set a.toNat v) u = if u = a then v else atA A u := by
  unfold atA
  rw [List.getD_eq_getElem?_getD, List.getD_eq_getElem?_getD]
  by_cases h : u = a
  · subst h; rw [if_pos rfl, List.getElem?_set_self (by omega)]; rfl
  · rw [if_neg h, List.getElem?_set_ne (by omega)]
theorem elA {A : List Int} {i : Int} {K : Int → Prop} (hA : A.length = 33) (h0 : 0 ≤ i) (h : i < 33) : elL A i K = K (atA A i) := elL_of h0 (get_getD (by omega))
theorem set_same {A : List Int} {k : Nat} (h : A.getD k 0 = 0) : A.set k 0 = A := by
  apply List.ext_getElem?
  intro j
  by_cases hj : j = k
  · subst hj
    by_cases hl : j < A.length
    · rw [List.getElem?_set_self hl, get_getD hl, h]
    · rw [List.getElem?_eq_none (by simpa using hl), List.getElem?_eq_none (by omega)]
  · rw [List.getElem?_set_ne (by omega)]
theorem WayA.put {t l : List Int} {a : Int} {A : List Int} {v : Int} (co : CatOK c out) (e : out = t ++ a :: l) (w : WayA c runs level out t A) (hv : v = wayE c runs level (atA A) a) (hb : 0 ≤ v ∧ v ≤ 1048576000 * (t.length + 1)) : WayA c runs level out (t ++ [a]) (A.set a.toNat v) := by
  have hty := inn_iff.1 co.sz.types
  have hm : ∀ u ∈ out, 1 ≤ u ∧ u ≤ c.types := co.g.mem
  have ha := hm a (by rw [e]; simp)
  have hat : a ∉ t := fun h => by
    have := co.g.nodup
    rw [e, List.nodup_append] at this
    exact this.2.2 a h a (by simp) rfl
  have key : ∀ u t' l', out = t' ++ u :: l' → (∀ x ∈ t', x ∈ t) → wayE c runs level (atA A) u = wayE c runs level (atA (A.set a.toNat v)) u := by
    intro u t' l' e' hs
    refine wayE_congr fun i b h1 h2 s hsb => ?_
    have hb := List.mem_of_getElem? h2
    have hbm : b.makes = u := by
      rcases maker_get (l := c.blues) (t := u) with h0 | ⟨i', b', h1', h2', h3'⟩
      · omega
      · have : i' = i := by omega
        subst this; rw [h2] at h2'; cases h2'; exact h3'
    have hst := hs _ (co.needs e' hb hbm s hsb)
    have hs1 := hm s.1 (by rw [e]; simp [hst])
    rw [atA_set w.len (by omega) (by omega) (by omega), if_neg (by intro h; rw [h] at hst; exact hat hst)]
  refine ⟨by rw [List.length_set]; exact w.len, fun u hu => ?_, fun u hu h0 => ?_, fun u => ?_⟩
  · rcases List.mem_append.1 hu with hu | hu
    · have hu1 := hm u (by rw [e]; simp [hu])
      obtain ⟨t', l', rfl⟩ := List.append_of_mem hu
      rw [atA_set w.len (by omega) (by omega) (by omega), if_neg (by rintro rfl; exact hat (by simp)), w.done u hu]
      exact key u t' (l' ++ a :: l) (by rw [e]; simp) fun x hx => by simp [hx]
    · simp at hu; subst hu
      rw [atA_set w.len (by omega) (by omega) (by omega), if_pos rfl]
      exact hv.trans (key u t l e fun x hx => hx)
  · simp at hu
    rw [atA_set w.len (by omega) (by omega) h0, if_neg hu.2]
    exact w.zero u hu.1 h0
  · have := w.bd u
    by_cases hu : 0 ≤ u
    · rw [atA_set w.len (by omega) (by omega) hu]
      split
      · simp; omega
      · simp; omega
    · have h0 : u.toNat = 0 := by omega
      have e0 : atA (A.set a.toNat v) u = atA A u := by
        unfold atA
        rw [h0, List.getD_eq_getElem?_getD, List.getD_eq_getElem?_getD, List.getElem?_set_ne (by omega)]
      rw [e0]; simp; omega
theorem pPath_S {kind : Int} (hc : c.Rg) (hl : runs.length ≤ 1000000) (kbad : mayE c kind level [] ≠ 0 → Q (vII (0, mayE c kind level [])) []) (kbad2 : mayE c kind level [] = 0 → ¬ runsOK c runs → Q (vII (0, 1)) [])
    (k : mayE c kind level [] = 0 → runsOK c runs → ∀ out, CatOK c out → ∀ A, WayA c runs level out out A → Q (vII (atA A kind, 0)) []) : PRun Try.prog 11 [] [aC c, .i kind, .l 1 (runs.map eI), .i level] Q := by
  refine S11 (times_S hc hl ?_)
  rw [post_LI]
  unfold timesR
  by_cases h : mayE c kind level [] ≠ 0
  · rw [if_pos h]; exact cNe (fun _ => kbad h) fun h2 => absurd h2 h
  rw [if_neg h]
  have h : mayE c kind level [] = 0 := by simpa using h
  by_cases ro : runsOK c runs
  rotate_left
  · rw [if_neg ro]; exact cNe (fun _ => kbad2 h ro) fun h2 => by cases h2
  rw [if_pos ro]
  have k := k h ro
  refine cNe (fun h => absurd rfl h) fun _ => ?_
  have hcat : catE c = 0 := by
    unfold mayE at h
    by_cases h2 : catE c = 0
    · exact h2
    · rw [if_pos h2] at h; exact absurd h h2
  have hk := h
  unfold mayE at hk
  rw [if_neg (by simpa using hcat)] at hk
  split at hk
  rotate_left
  · cases hk
  rename_i hin
  obtain ⟨out, co⟩ := cat_ok hcat
  have hkb := inn_iff.1 hin.1
  have hty := inn_iff.1 co.sz.types
  have hnb := hc.nb
  have k := k out co
  refine pPairs_S hc ?_
  rw [post_L]
  refine pOrder_S ?_
  rw [co.r, post_LI]
  have hol := nodup_len co.g.nodup co.g.mem (by omega)
  refine ⟨fun x A => AtI out (fun t _ => WayA c runs level out t A) x, fun x _ => SufM out x, .zero (by omega) ⟨by simp, by simp, fun u _ _ => ?_, fun u => ?_⟩, ?_⟩
  · unfold atA; rw [List.getD_eq_getElem?_getD]; cases h : (List.replicate 33 (0 : Int))[u.toNat]? with
    | none => rfl
    | some y => rw [Option.getD_some]; exact List.eq_of_mem_replicate (List.mem_of_getElem? h)
  · unfold atA; rw [List.getD_eq_getElem?_getD]; cases h : (List.replicate 33 (0 : Int))[u.toNat]? with
    | none => simp
    | some y => rw [Option.getD_some, List.eq_of_mem_replicate (List.mem_of_getElem? h)]; simp
  rintro x A ⟨t, _ | ⟨a, l⟩, s, w⟩
  · rw [s.all] at w
    rw [s.d0, cond_false]
    refine ⟨by omega, by omega, ?_⟩
    rw [elA w.len (by omega) (by omega)]
    exact k A w
  have e := s.e
  have ha := co.g.mem a (by rw [e]; simp)
  have hat : a ∉ t := fun h => by
    have := co.g.nodup
    rw [e, List.nodup_append] at this
    exact this.2.2 a h a (by simp) rfl
  have htl := congrArg List.length e
  simp at htl
  have hz := w.zero a hat (by omega)
  have keep : wayE c runs level (atA A) a = 0 → WayA c runs level out (t ++ [a]) A := fun h0 => by
    have := w.put co e (v := 0) h0.symm (by omega)
    rwa [set_same hz] at this
  simp only [s.d1, s.el, eI, ug0, dI_n, cond_true]
  refine pMaker_S hc ?_
  rw [post_I]
  rcases maker_get (l := c.blues) (t := a) with h0 | ⟨i, b, h1, h2, h3⟩
  · rw [h0]
    exact cEq (fun _ => s.step (keep (by unfold wayE; rw [if_pos h0]))) fun h => absurd rfl h
  have hb := List.mem_of_getElem? h2
  have hil := (List.getElem?_eq_some_iff.1 h2).1
  obtain ⟨m, hm, hmz⟩ := zip_get ro.1 h2
  have hw := wayE_eq (level := level) (f := atA A) ro h1 h2 hm
  rw [h1]
  refine cEq (fun h => by omega) fun _ => ?_
  rw [w64 (x := (i : Int) + 1 - 1) (by omega) (by omega), show (i : Int) + 1 - 1 = i by omega, elI (y := m) (by omega) (by simpa using hm)]
  refine cEq (fun h => s.step (keep (by rw [hw, if_pos h]))) fun hm0 => ?_
  rw [if_neg hm0] at hw
  rw [elL_of (r := eB b) (by omega) (by simp [h2])]
  simp only [eB, ug0, ugs, dL_l]
  have hneeds := co.needs e hb h3
  refine ⟨fun x A2 => AtI b.needs (fun t2 _ => A2 = A.set a.toNat (maxF (atA A) 0 t2)) x, fun x _ => SufM b.needs x, .zero (by have := (hc.b b hb).n; omega) (set_same hz).symm, ?_⟩
  rintro y _ ⟨t2, _ | ⟨q, l2⟩, s2, rfl⟩
  · rw [s2.d0, s2.all, cond_false]
    refine ⟨by omega, by omega, ?_⟩
    have hti : (timesL c runs level)[i]? = some (timeR b level m).1 := by
      unfold timesL
      rw [List.getElem?_map, hmz]
      have := inn_iff.1 (ro.2 m (List.mem_of_getElem? hm))
      simp [timeN]; omega
    have hmb := maxF_bd (f := atA A) (B := 1048576000 * t.length) b.needs 0 (Int.le_refl _) (by omega) fun s hs => (w.bd s.1).2
    have htb := time_le (level := level) (b := b) (n := m)
    rw [elA (by rw [List.length_set]; exact w.len) (by omega) (by omega), atA_set w.len (by omega) (by omega) (by omega), if_pos rfl, elI (y := (timeR b level m).1) (by omega) (by simpa using hti), List.set_set, w64 (x := maxF (atA A) 0 b.needs + (timeR b level m).1) (by omega) (by omega)]
    exact ⟨by omega, by omega, s.step (w.put co e (by rw [hw]; omega) (by omega))⟩
  · simp only [s2.d1, s2.el, eS, ug0, ugs, dI_n, cond_true]
    have hqt := hneeds q (by rw [s2.e]; simp)
    have hq := co.g.mem q.1 (by rw [e]; simp [hqt])
    have hqa : q.1 ≠ a := fun h => hat (h ▸ hqt)
    refine ⟨by omega, by omega, ?_⟩
    rw [elA (by rw [List.length_set]; exact w.len) (by omega) (by omega), atA_set w.len (by omega) (by omega) (by omega), if_pos rfl]
    refine ⟨by omega, by omega, ?_⟩
    rw [elA (by rw [List.length_set]; exact w.len) (by omega) (by omega), atA_set w.len (by omega) (by omega) (by omega), if_neg hqa, List.set_set]
    refine ⟨by omega, by omega, s2.step ?_⟩
    rw [maxF_snoc]
    congr 1
    split <;> omega
end Go.Proofs.Ytljgfkiiikcaaaa

/- The longest way to a type: both the same. -/
set_option linter.unusedVariables false
namespace Go.Proofs.Ytljgfkiiikcaaaa
open Go Go.Proofs
variable {Q : V → Mem → Prop} {c : Cat} {out : List Int} {runs : List Int} {level : Int}

theorem way_ex (co : CatOK c out) (ro : runsOK c runs) : ∀ (n : Nat), n ≤ out.length → ∃ A, WayA c runs level out (out.take n) A
  | 0, _ => ⟨List.replicate 33 0, by simp, by simp, fun u _ _ => by
      unfold atA; rw [List.getD_eq_getElem?_getD]; cases h : (List.replicate 33 (0 : Int))[u.toNat]? with
      | none => rfl
      | some y => rw [Option.getD_some]; exact List.eq_of_mem_replicate (List.mem_of_getElem? h), fun u => by
      unfold atA; rw [List.getD_eq_getElem?_getD]; cases h : (List.replicate 33 (0 : Int))[u.toNat]? with
      | none => simp
      | some y => rw [Option.getD_some, List.eq_of_mem_replicate (List.mem_of_getElem? h)]; simp⟩
  | n + 1, hn => by
    obtain ⟨A, w⟩ := way_ex co ro n (by omega)
    have e : out = out.take n ++ out[n] :: out.drop (n + 1) := by rw [← List.drop_eq_getElem_cons, List.take_append_drop]
    rw [take_snoc (show n < out.length by omega)]
    refine ⟨_, w.put co e rfl ?_⟩
    have hl : (out.take n).length = n := by rw [List.length_take]; omega
    rcases maker_get (l := c.blues) (t := out[n]) with h0 | ⟨i, b, h1, h2, h3⟩
    · unfold wayE; rw [if_pos h0]; omega
    obtain ⟨m, hm, -⟩ := zip_get ro.1 h2
    rw [wayE_eq ro h1 h2 hm]
    split
    · omega
    have := maxF_bd (f := atA A) (B := 1048576000 * (out.take n).length) b.needs 0 (Int.le_refl _) (by omega) fun s hs => (w.bd s.1).2
    have := time_le (level := level) (b := b) (n := m)
    omega
theorem WayA.wayF {A : List Int} (co : CatOK c out) (w : WayA c runs level out out A) : WayF c runs level (atA A) := fun t h1 h2 => w.done t (co.all t h1 h2)
theorem way_same (co : CatOK c out) {f g : Int → Int} (hf : WayF c runs level f) (hg : WayF c runs level g) : ∀ (n : Nat) (t l : List Int) (a : Int), t.length = n → out = t ++ a :: l → f a = g a := by
  intro n
  induction n using Nat.strongRecOn with
  | _ n ih =>
    intro t l a hn e
    have ha := co.g.mem a (by rw [e]; simp)
    rw [hf a ha.1 ha.2, hg a ha.1 ha.2]
    refine wayE_congr fun i b h1 h2 s hs => ?_
    have hbm : b.makes = a := by
      rcases maker_get (l := c.blues) (t := a) with h0 | ⟨i', b', h1', h2', h3'⟩
      · omega
      · have : i' = i := by omega
        subst this; rw [h2] at h2'; cases h2'; exact h3'
    have hst := co.needs e (List.mem_of_getElem? h2) hbm s hs
    obtain ⟨t', l', rfl⟩ := List.append_of_mem hst
    exact ih t'.length (by rw [← hn]; simp) t' (l' ++ a :: l) s.1 rfl (by rw [e]; simp)
open Classical in
/-- How long a type takes. -/
noncomputable def pathV (c : Cat) (runs : List Int) (level : Int) : Int → Int := if h : ∃ f, WayF c runs level f then h.choose else fun _ => 0
theorem pathV_way (co : CatOK c out) (ro : runsOK c runs) : WayF c runs level (pathV c runs level) := by
  obtain ⟨A, w⟩ := way_ex (level := level) co ro out.length (Nat.le_refl _)
  rw [List.take_length] at w
  have h : ∃ f, WayF c runs level f := ⟨_, w.wayF co⟩
  unfold pathV
  rw [dif_pos h]
  exact h.choose_spec
open Classical in
noncomputable def pathR (c : Cat) (kind : Int) (runs : List Int) (level : Int) : Int × Int :=
  if mayE c kind level [] ≠ 0 then (0, mayE c kind level []) else if runsOK c runs then (pathV c runs level kind, 0) else (0, 1)
theorem mayE_zero {kind level : Int} {l : List Stk} (h : mayE c kind level l = 0) : catE c = 0 ∧ (1 ≤ kind ∧ kind ≤ c.types) ∧ (0 ≤ level ∧ level ≤ 10) ∧ chkE l c.types = 0 := by
  unfold mayE at h
  by_cases h2 : catE c = 0
  · rw [if_neg (by simpa using h2)] at h
    split at h
    · rename_i hin
      exact ⟨h2, inn_iff.1 hin.1, inn_iff.1 hin.2, h⟩
    · cases h
  · rw [if_pos h2] at h; exact absurd h h2
theorem pPathR_S {kind : Int} (hc : c.Rg) (hl : runs.length ≤ 1000000) (k : Q (vII (pathR c kind runs level)) []) : PRun Try.prog 11 [] [aC c, .i kind, .l 1 (runs.map eI), .i level] Q := by
  unfold pathR at k
  refine pPath_S hc hl (fun h => by rwa [if_pos h] at k) (fun h h2 => by rwa [if_neg (by simpa using h), if_neg h2] at k) fun h ro out co A w => ?_
  rw [if_neg (by simpa using h), if_pos ro] at k
  obtain ⟨-, hk, -⟩ := mayE_zero h
  obtain ⟨t, l, e⟩ := List.append_of_mem (co.all kind hk.1 hk.2)
  rwa [way_same co (pathV_way co ro) (w.wayF co) _ t l kind rfl e] at k
end Go.Proofs.Ytljgfkiiikcaaaa

/- Do stacks and runs fit? Plain, and the document's. -/
set_option linter.unusedVariables false
namespace Go.Proofs.Ytljgfkiiikcaaaa
open Go Go.Proofs
variable {Q : V → Mem → Prop} {c : Cat} {runs : List Int} {level : Int}

/-- What a blueprint's runs leave of a type: what they make without what they need. -/
def runT (level : Int) (p : Int × Bl) (t : Int) : Int := if p.1 = 0 then 0 else (if p.2.makes = t then p.1 * p.2.per else 0) - tot (needL p.2.needs p.1 level) t
def runTs (level : Int) (z : List (Int × Bl)) (t : Int) : Int := sumZ (z.map fun p => runT level p t)
def balT (kind n : Int) (raw : List Stk) (level : Int) (z : List (Int × Bl)) (t : Int) : Int := tot raw t - (if t = kind then n else 0) + runTs level z t
/-- No needs of runs are told as too many. -/
def needOK (level : Int) (z : List (Int × Bl)) : Prop := ∀ p ∈ z, p.1 ≠ 0 → needOver p.2.needs p.1 level = false
def fitsP (c : Cat) (kind n level : Int) (raw : List Stk) (runs : List Int) : Prop :=
  mayE c kind level raw = 0 ∧ inn n 1 1125899906842624 = true ∧ runsOK c runs ∧ needOK level (runs.zip c.blues) ∧ ∀ t, 1 ≤ t → t ≤ c.types → 0 ≤ balT kind n raw level (runs.zip c.blues) t
theorem runTs_snoc (z : List (Int × Bl)) (p : Int × Bl) (t : Int) : runTs level (z ++ [p]) t = runTs level z t + runT level p t := by
  unfold runTs; rw [List.map_append, List.map_singleton, sumZ_snoc]
end Go.Proofs.Ytljgfkiiikcaaaa

/- Do stacks and runs fit? The code's. -/
set_option linter.unusedVariables false
namespace Go.Proofs.Ytljgfkiiikcaaaa
open Go Go.Proofs
variable {Q : V → Mem → Prop} {c : Cat} {runs : List Int} {level : Int}

theorem tot_bd {l : List Stk} (hg : good l) (ho : ¬ over l) (t u : List Stk) (e : l = t ++ u) (k : Int) : 0 ≤ tot t k ∧ tot t k ≤ MaxQ := by
  have h1 := not_over hg ho k
  have h2 : good t := fun s hs => hg s (by rw [e]; simp [hs])
  have h3 : good u := fun s hs => hg s (by rw [e]; simp [hs])
  have := tot_nonneg h2 k
  have := tot_nonneg h3 k
  rw [e, tot_append] at h1
  omega
theorem needL_ok {l : List Stk} {types runs level : Int} (h : CheckOK l types) (hr : 1 ≤ runs) (hn : needOver l runs level = false) : CheckOK (needL l runs level) types := by
  refine ⟨by simpa [needL] using h.len, ?_, fun s hs => ?_⟩
  · unfold needL
    rw [List.pairwise_map]
    exact h.rise
  · obtain ⟨u, hu, rfl⟩ := List.mem_map.1 hs
    have h1 := h.el u hu
    have h2 : ¬ MaxQ < needQ u.2 runs level := by
      unfold needOver at hn
      have := List.any_eq_false.1 hn u hu
      simpa using this
    refine ⟨h1.1, h1.2.1, ?_, by simp only; omega⟩
    simp only
    unfold needQ
    omega
theorem atA_rep (k : Int) : atA (List.replicate 33 0) k = 0 := by
  unfold atA; rw [List.getD_eq_getElem?_getD]
  cases h : (List.replicate 33 (0 : Int))[k.toNat]? with
  | none => rfl
  | some y => rw [Option.getD_some]; exact List.eq_of_mem_replicate (List.mem_of_getElem? h)
theorem BlueOK.mono {b : Bl} {types : Int} (h : BlueOK b types) : BlueOK b 32 :=
  ⟨by decide, ⟨h.makes.1, by have := h.makes; have := h.ty; omega⟩, h.per, h.time, h.copy, h.study, h.most, ⟨h.needs.len, h.needs.rise, fun s hs => by have := h.needs.el s hs; have := h.ty; omega⟩, h.self⟩
/-- An array of a number for each type. -/
structure Arr (A : List Int) (f : Int → Int) : Prop where
  len : A.length = 33
  at' : ∀ t, 0 ≤ t → t < 33 → atA A t = f t
theorem Arr.set {A : List Int} {f : Int → Int} (h : Arr A f) {a v : Int} (h0 : 0 ≤ a) (h1 : a < 33) : Arr (A.set a.toNat v) fun t => if t = a then v else f t :=
  ⟨by rw [List.length_set]; exact h.len, fun t t0 t1 => by rw [atA_set h.len h0 h1 t0, h.at' t t0 t1]⟩
theorem Arr.congr {A : List Int} {f g : Int → Int} (h : Arr A f) (e : ∀ t, 0 ≤ t → t < 33 → f t = g t) : Arr A g := ⟨h.len, fun t a b => by rw [h.at' t a b, e t a b]⟩
theorem Arr.el {A : List Int} {f : Int → Int} (h : Arr A f) {a : Int} {K : Int → Prop} (h0 : 0 ≤ a) (h1 : a < 33) : elL A a K = K (f a) := by rw [elA h.len h0 h1, h.at' a h0 h1]
theorem min_S {l : List Int} (h0 : l ≠ []) (hl : l.length ≤ 1000000) (k : ∀ m ∈ l, (∀ y ∈ l, m ≤ y) → Q (.i m) []) : PRun Try.prog 29 [] [.l 1 (l.map eI)] Q := by
  rcases l with _ | ⟨a, l⟩
  · exact absurd rfl h0
  refine S29 (cIf (fun h => by simp at h; omega) fun _ => ?_)
  rw [elI (y := a) (by decide) rfl]
  refine ⟨fun m x => AtI (a :: l) (fun t _ => t ≠ [] ∧ m ∈ t ∧ ∀ y ∈ t, m ≤ y) x, fun _ => SufM (a :: l), ⟨[a], l, ⟨rfl, rfl, by simp at hl ⊢; omega⟩, by simp, by simp, by simp⟩, ?_⟩
  rintro m x ⟨t, _ | ⟨b, l2⟩, s, hne, hm, hle⟩
  · rw [s.d0]; rw [s.all] at hm hle
    exact k m hm hle
  · simp only [s.d1, s.el, eI, ug0, dI_n, cond_true]
    refine s.step ⟨by simp, ?_, fun y hy => ?_⟩
    · split <;> simp [hm]
    · rcases List.mem_append.1 hy with hy | hy
      · have := hle y hy; split <;> omega
      · simp at hy; subst hy; split <;> omega
end Go.Proofs.Ytljgfkiiikcaaaa

/- Do stacks and runs fit? The code's, behind its checks. -/
set_option linter.unusedVariables false
namespace Go.Proofs.Ytljgfkiiikcaaaa
open Go Go.Proofs
variable {Q : V → Mem → Prop} {c : Cat} {runs : List Int} {level : Int}

theorem runT_bd {p : Int × Bl} {types t : Int} (hb : BlueOK p.2 types) (hr : 0 ≤ p.1 ∧ p.1 ≤ 1000) (hn : p.1 ≠ 0 → needOver p.2.needs p.1 level = false) : -1125899906842624 ≤ runT level p t ∧ runT level p t ≤ 1048576000 := by
  unfold runT
  split
  · omega
  rename_i h0
  have ok := needL_ok (level := level) hb.needs (by omega) (hn h0)
  have he := errN_zero.1 ok.sn.1
  have h1 := tot_nonneg he.1 t
  have h2 := not_over he.1 he.2 t
  have hM : MaxQ = 1125899906842624 := rfl
  have h3 := Int.mul_le_mul hr.2 hb.per.2 (by have := hb.per; omega) (by omega)
  have h4 := Int.mul_nonneg hr.1 (show 0 ≤ p.2.per by have := hb.per; omega)
  split <;> omega
theorem runTs_bd {z : List (Int × Bl)} {types t : Int} (h : ∀ p ∈ z, BlueOK p.2 types ∧ (0 ≤ p.1 ∧ p.1 ≤ 1000) ∧ (p.1 ≠ 0 → needOver p.2.needs p.1 level = false)) : -1125899906842624 * z.length ≤ runTs level z t ∧ runTs level z t ≤ 1048576000 * z.length := by
  induction z with
  | nil => simp [runTs, sumZ]
  | cons p z ih =>
    have h1 := h p (by simp)
    have h2 := ih fun q hq => h q (by simp [hq])
    have h3 := runT_bd (level := level) (t := t) h1.1 h1.2.1 h1.2.2
    unfold runTs at h2 ⊢
    simp only [List.map_cons, sumZ, List.length_cons]
    omega
theorem pFits_S {kind n : Int} {raw : List Stk} (hc : c.Rg) (hl : runs.length ≤ 1000000) (hr : rng raw) (hw : raw.length ≤ 1000) (k : ∀ b : Bool, (b = true ↔ fitsP c kind n level raw runs) → Q (.u (.b b)) []) :
    PRun Try.prog 9 [] [aC c, .i kind, .i n, .i level, .l 2 (raw.map eS), .l 1 (runs.map eI)] Q := by
  have bad : ¬ fitsP c kind n level raw runs → Q (.u (.b false)) [] := fun h => k false (by simp [h])
  refine S9 (checks_S hc hw ?_)
  rw [post_I]
  refine cNe (fun h => bad fun f => h f.1) fun hm => in1_S ?_
  rw [post_B]
  refine cNot (cB (fun hn => areRuns_S hl fun b hb => ?_) fun h => bad fun f => by rw [f.2.1] at h; cases h)
  rw [post_B]
  refine cNot (cB (fun h1 => ?_) fun h1 => bad fun f => by rw [hb.2 f.2.2.1] at h1; cases h1)
  have ro := hb.1 h1
  obtain ⟨hcat, hk, hlv, hraw⟩ := mayE_zero hm
  obtain ⟨out, co⟩ := cat_ok hcat
  have hty := inn_iff.1 co.sz.types
  have hn' := inn_iff.1 hn
  have hrawOK := chkE_iff.1 hraw
  have hre := errN_zero.1 hrawOK.sn.1
  have hM : MaxQ = 1125899906842624 := rfl
  have hnb := co.sz.nb
  obtain ⟨e1, e2⟩ := zip_fst ro.1
  have hzm : ∀ p ∈ runs.zip c.blues, BlueOK p.2 c.types ∧ p.2 ∈ c.blues ∧ (0 ≤ p.1 ∧ p.1 ≤ 1000) := fun p hp => by
    obtain ⟨h1, h2⟩ := List.of_mem_zip hp
    exact ⟨blueE_ok.1 (co.sz.bl _ h2), h2, inn_iff.1 (ro.2 _ h1)⟩
  have hzl : (runs.zip c.blues).length ≤ 16 := by rw [List.length_zip]; omega
  unfold fitsP at bad k
  generalize runs.zip c.blues = z at *
  refine ⟨by omega, by omega, ?_⟩
  rw [← e1, ← e2]
  rw [w64 (x := 0 - n) (by omega) (by omega)]
  refine ⟨fun x A => AtI raw (fun t _ => Arr A fun u => tot t u - if u = kind then n else 0) x, fun x _ => SufM raw x, .zero (by omega) ?_, ?_⟩
  · refine Arr.congr (Arr.set (f := fun _ => 0) ⟨by simp, fun t _ _ => atA_rep t⟩ (by omega) (by omega)) fun t _ _ => ?_
    simp only [tot]; split <;> omega
  rintro x A ⟨t, _ | ⟨q, l⟩, s, hA⟩
  case cons =>
    simp only [s.d1, s.el, eS, ug0, ugs, dI_n, cond_true]
    have hq := hrawOK.el q (by rw [s.e]; simp)
    have htb := tot_bd hre.1 hre.2 t (q :: l) s.e q.1
    refine ⟨by omega, by omega, ?_⟩
    rw [hA.el (by omega) (by omega)]
    refine ⟨by omega, by omega, s.step ?_⟩
    have hd : -1125899906842624 ≤ tot t q.1 - (if q.1 = kind then n else 0) ∧ tot t q.1 - (if q.1 = kind then n else 0) ≤ 1125899906842624 := by split <;> omega
    rw [w64 (by omega) (by omega)]
    refine (hA.set (by omega) (by omega)).congr fun u _ _ => ?_
    rw [tot_snoc]
    by_cases hu : u = q.1
    · subst hu; simp only [if_true]; omega
    · rw [if_neg hu, if_neg (show ¬ q.1 = u from fun h => hu h.symm)]; omega
  rw [s.all] at hA
  rw [s.d0, cond_false]
  refine ⟨fun x A => AtI z (fun t _ => needOK level t ∧ Arr A fun u => balT kind n raw level t u) x, fun x _ => SufM z x, .zero (by omega) ⟨by simp [needOK], hA.congr fun u _ _ => by simp [balT, runTs, sumZ]⟩, ?_⟩
  rintro x A ⟨t, _ | ⟨p, l⟩, s, hno, hA⟩
  case nil =>
    rw [s.all] at hno hA
    rw [List.map_map, s.d0, cond_false]
    show PRun _ _ _ [.l 1 (A.map eI)] _
    refine min_S (by intro h; have := hA.len; rw [h] at this; cases this) (by rw [hA.len]; omega) fun m hmm hmin => ?_
    rw [post_I]
    refine k _ ?_
    rw [decide_eq_true_iff]
    constructor
    · intro h0
      refine ⟨hm, hn, ro, hno, fun t h1 h2 => ?_⟩
      have := hA.at' t (by omega) (by omega)
      rw [← this]
      have hlen := hA.len
      have := hmin (atA A t) (List.mem_of_getElem? (get_getD (k := t.toNat) (by omega)))
      omega
    · rintro ⟨-, -, -, -, hb⟩
      obtain ⟨j, hj, rfl⟩ := List.getElem_of_mem hmm
      have hlen := hA.len
      have := hA.at' j (by omega) (by omega)
      have e : atA A j = A[j] := by unfold atA; rw [List.getD_eq_getElem?_getD, Int.toNat_natCast, List.getElem?_eq_getElem hj]; rfl
      rw [← e, this]
      by_cases hj1 : 1 ≤ (j : Int) ∧ (j : Int) ≤ c.types
      · exact hb j hj1.1 hj1.2
      · have hne : ∀ x : Int, 1 ≤ x ∧ x ≤ c.types → x ≠ (j : Int) := fun x hx h => hj1 (h ▸ hx)
        have t0 : tot raw j = 0 := tot_none fun h => by
          obtain ⟨u, hu, e⟩ := List.mem_map.1 h
          have := hrawOK.el u hu
          exact hne u.1 ⟨this.1, this.2.1⟩ e
        have r0 : runTs level z j = 0 := by
          have : ∀ z' : List (Int × Bl), (∀ p ∈ z', BlueOK p.2 c.types) → runTs level z' j = 0 := by
            intro z'
            induction z' with
            | nil => intro _; rfl
            | cons p z' ih =>
              intro h
              have h1 := ih fun q hq => h q (by simp [hq])
              have hb := h p (by simp)
              have h2 : tot (needL p.2.needs p.1 level) j = 0 := tot_none fun h => by
                obtain ⟨u, hu, e⟩ := List.mem_map.1 h
                obtain ⟨v, hv, rfl⟩ := List.mem_map.1 hu
                have := hb.needs.el v hv
                exact hne v.1 ⟨this.1, this.2.1⟩ e
              have h3 := hne p.2.makes hb.makes
              unfold runTs at h1 ⊢
              simp only [List.map_cons, sumZ, h1]
              unfold runT
              rw [h2, if_neg h3]
              split <;> rfl
          exact this z fun p hp => (hzm p hp).1
        unfold balT
        rw [t0, r0, if_neg (fun h => hne kind hk h.symm)]
        decide
  obtain ⟨hb, hbm, hpr⟩ := hzm p (by rw [s.e]; simp)
  simp only [List.map_map, s.d1, s.el, cond_true, Function.comp_apply, eI, eB, ug0, ugs, dI_n, dL_l]
  refine cEq (fun h0 => s.step ⟨fun q hq hq0 => ?_, hA.congr fun u _ _ => ?_⟩) fun h0 => pNeeds_S (b := p.2) (hc.b _ hbm) ?_
  · rcases List.mem_append.1 hq with hq | hq
    · exact hno q hq hq0
    · simp at hq; subst hq; exact absurd h0 hq0
  · unfold balT; rw [runTs_snoc]; simp [runT, h0]
  rw [post_LI]
  have hnr : needsR p.2 level p.1 = if needOver p.2.needs p.1 level = true then ([], 5) else (needL p.2.needs p.1 level, 0) := by
    unfold needsR; rw [if_pos ⟨⟨blueE_ok.2 hb.mono, inn_iff.2 hlv⟩, inn_iff.2 (by omega)⟩]
  rw [hnr]
  have hpm : p ∈ z := by rw [s.e]; simp
  by_cases hov : needOver p.2.needs p.1 level = true
  · rw [if_pos hov]
    exact cNe (fun _ => bad fun f => by rw [f.2.2.2.1 p hpm h0] at hov; cases hov) fun h => by cases h
  rw [if_neg hov]
  have hov : needOver p.2.needs p.1 level = false := by simpa using hov
  refine cNe (fun h => absurd rfl h) fun _ => ?_
  have ok := needL_ok (level := level) hb.needs (by omega) hov
  have he := errN_zero.1 ok.sn.1
  have hnl := ok.len
  have hbal : ∀ u, -20000000000000000 ≤ balT kind n raw level t u ∧ balT kind n raw level t u ≤ 20000000000000000 := fun u => by
    have h1 := runTs_bd (level := level) (z := t) (types := c.types) (t := u) fun q hq => ⟨(hzm q (by rw [s.e]; simp [hq])).1, (hzm q (by rw [s.e]; simp [hq])).2.2, hno q hq⟩
    have h2 := tot_bd hre.1 hre.2 raw [] (by simp) u
    have h3 := congrArg List.length s.e
    simp at h3
    unfold balT
    split <;> omega
  refine ⟨fun x A => AtI (needL p.2.needs p.1 level) (fun t2 _ => Arr A fun u => balT kind n raw level t u - tot t2 u) x, fun x _ => SufM (needL p.2.needs p.1 level) x, .zero (by omega) (hA.congr fun u _ _ => by simp [tot]), ?_⟩
  rintro y A3 ⟨t2, _ | ⟨q, l2⟩, s2, hA3⟩
  · rw [s2.all] at hA3
    rw [s2.d0, cond_false]
    have hmk := hb.makes
    refine ⟨by omega, by omega, ?_⟩
    rw [hA3.el (by omega) (by omega)]
    refine ⟨by omega, by omega, s.step ⟨fun q hq hq0 => ?_, ?_⟩⟩
    · rcases List.mem_append.1 hq with hq | hq
      · exact hno q hq hq0
      · simp at hq; subst hq; exact hov
    have h3 := Int.mul_le_mul hpr.2 hb.per.2 (by have := hb.per; omega) (by omega)
    have h4 := Int.mul_nonneg hpr.1 (show 0 ≤ p.2.per by have := hb.per; omega)
    rw [Int.mul_comm] at h3 h4
    have h5 := hbal p.2.makes
    have h6 := tot_bd he.1 he.2 (needL p.2.needs p.1 level) [] (by simp) p.2.makes
    rw [w64 (x := p.2.per * p.1) (by omega) (by omega), w64 (by omega) (by omega)]
    refine (hA3.set (by omega) (by omega)).congr fun u _ _ => ?_
    unfold balT
    rw [runTs_snoc]
    unfold runT
    rw [if_neg h0, Int.mul_comm p.1]
    by_cases hu : u = p.2.makes
    · subst hu; simp only [if_true]; omega
    · rw [if_neg hu, if_neg (show ¬ p.2.makes = u from fun h => hu h.symm)]; omega
  · simp only [s2.d1, s2.el, eS, ug0, ugs, dI_n, cond_true]
    have hq := ok.el q (by rw [s2.e]; simp)
    have htb := tot_bd he.1 he.2 t2 (q :: l2) s2.e q.1
    have h5 := hbal q.1
    refine ⟨by omega, by omega, ?_⟩
    rw [hA3.el (by omega) (by omega)]
    refine ⟨by omega, by omega, s2.step ?_⟩
    rw [w64 (by omega) (by omega)]
    refine (hA3.set (by omega) (by omega)).congr fun u _ _ => ?_
    rw [tot_snoc]
    by_cases hu : u = q.1
    · subst hu; simp only [if_true]; omega
    · rw [if_neg hu, if_neg (show ¬ q.1 = u from fun h => hu h.symm)]; omega
end Go.Proofs.Ytljgfkiiikcaaaa

/- Do stacks and runs fit? The document's. -/
set_option linter.unusedVariables false
namespace Go.Proofs.Ytljgfkiiikcaaaa
open Go Go.Proofs
variable {Q : V → Mem → Prop} {c : Cat} {runs : List Int} {level : Int}

/-- What runs make of a type; what they need of it. -/
def madeT (z : List (Int × Bl)) (t : Int) : Int := sumZ (z.map fun p => if p.1 = 0 then 0 else if p.2.makes = t then p.1 * p.2.per else 0)
def needT (level : Int) (z : List (Int × Bl)) (t : Int) : Int := sumZ (z.map fun p => if p.1 = 0 then 0 else tot (needL p.2.needs p.1 level) t)
theorem runTs_eq (z : List (Int × Bl)) (t : Int) : runTs level z t = madeT z t - needT level z t := by
  induction z with
  | nil => rfl
  | cons p z ih =>
    unfold runTs madeT needT at ih ⊢
    simp only [List.map_cons, sumZ, ih]
    unfold runT
    split <;> omega
theorem madeT_bd {z : List (Int × Bl)} {types t : Int} (h : ∀ p ∈ z, BlueOK p.2 types ∧ (0 ≤ p.1 ∧ p.1 ≤ 1000)) : 0 ≤ madeT z t ∧ madeT z t ≤ 1048576000 * z.length := by
  induction z with
  | nil => simp [madeT, sumZ]
  | cons p z ih =>
    have h1 := h p (by simp)
    have h2 := ih fun q hq => h q (by simp [hq])
    have h3 := Int.mul_le_mul h1.2.2 h1.1.per.2 (by have := h1.1.per; omega) (by omega)
    have h4 := Int.mul_nonneg h1.2.1 (show 0 ≤ p.2.per by have := h1.1.per; omega)
    unfold madeT at h2 ⊢
    simp only [List.map_cons, sumZ, List.length_cons]
    split
    · omega
    · split <;> omega
theorem needT_bd {z : List (Int × Bl)} {types t : Int} (h : ∀ p ∈ z, BlueOK p.2 types ∧ (0 ≤ p.1 ∧ p.1 ≤ 1000) ∧ (p.1 ≠ 0 → needOver p.2.needs p.1 level = false)) : 0 ≤ needT level z t ∧ needT level z t ≤ 1125899906842624 * z.length := by
  induction z with
  | nil => simp [needT, sumZ]
  | cons p z ih =>
    obtain ⟨hb, hr, hn⟩ := h p (by simp)
    have h2 := ih fun q hq => h q (by simp [hq])
    unfold needT at h2 ⊢
    simp only [List.map_cons, sumZ, List.length_cons]
    split
    · omega
    rename_i h0
    have ok := needL_ok (level := level) hb.needs (by omega) (hn h0)
    have he := errN_zero.1 ok.sn.1
    have h1 := tot_nonneg he.1 t
    have h3 := not_over he.1 he.2 t
    have hM : MaxQ = 1125899906842624 := rfl
    omega
theorem madeT_snoc (z : List (Int × Bl)) (p : Int × Bl) (t : Int) : madeT (z ++ [p]) t = madeT z t + if p.1 = 0 then 0 else if p.2.makes = t then p.1 * p.2.per else 0 := by
  unfold madeT; rw [List.map_append, List.map_singleton, sumZ_snoc]
theorem needT_snoc (z : List (Int × Bl)) (p : Int × Bl) (t : Int) : needT level (z ++ [p]) t = needT level z t + if p.1 = 0 then 0 else tot (needL p.2.needs p.1 level) t := by
  unfold needT; rw [List.map_append, List.map_singleton, sumZ_snoc]
theorem needOK_snoc {t : List (Int × Bl)} {p : Int × Bl} (h : needOK level t) (hp : p.1 ≠ 0 → needOver p.2.needs p.1 level = false) : needOK level (t ++ [p]) := fun q hq hq0 => by
  rcases List.mem_append.1 hq with hq | hq
  · exact h q hq hq0
  · simp at hq; subst hq; exact hp hq0
end Go.Proofs.Ytljgfkiiikcaaaa

/- Bills, plain: what is wanted from the top, and what comes of it. -/
set_option linter.unusedVariables false
namespace Go.Proofs.Ytljgfkiiikcaaaa
open Go Go.Proofs
variable {c : Cat} {level : Int}

structure ES where
  w : Int → Int
  raw : List Stk
  runs : List Int
  left : List Stk
def upd (w : Int → Int) (a v : Int) : Int → Int := fun t => if t = a then v else w t
def wantsL : (Int → Int) → List Stk → Option (Int → Int)
  | w, [] => some w
  | w, s :: l => if MaxQ < w s.1 + s.2 then none else wantsL (upd w s.1 (w s.1 + s.2)) l
/-- One more row of wants is behind. -/
theorem wantsL_app : ∀ (l r : List Stk) (w : Int → Int), wantsL w (l ++ r) = (match wantsL w l with | none => none | some w' => wantsL w' r)
  | [], r, w => rfl
  | s :: l, r, w => by
    simp only [List.cons_append, wantsL]
    split
    · rfl
    · exact wantsL_app l r _
def makeS (c : Cat) (level : Int) (s : ES) (t n : Int) : Option ES :=
  if maker c.blues t = 0 then some { s with raw := s.raw ++ [(t, n)] } else
  match c.blues[(maker c.blues t - 1).toNat]? with
  | none => none
  | some b =>
    if 1000 < upI n b.per then none else if needOver b.needs (upI n b.per) level = true then none else
    match wantsL s.w (needL b.needs (upI n b.per) level) with
    | none => none
    | some w' => some ⟨w', s.raw, s.runs.set (maker c.blues t - 1).toNat (upI n b.per), if 0 < upI n b.per * b.per - n then s.left ++ [(t, upI n b.per * b.per - n)] else s.left⟩
def expS (c : Cat) (level : Int) (have' : List Stk) (s : ES) (t : Int) : Option ES :=
  if s.w t - tot have' t ≤ 0 then some s else makeS c level s t (s.w t - tot have' t)
def expL (c : Cat) (level : Int) (have' : List Stk) : List Int → ES → Option ES
  | [], s => some s
  | t :: l, s => match expS c level have' s t with
    | none => none
    | some s' => expL c level have' l s'
theorem expL_app (have' : List Stk) : ∀ (l r : List Int) (s : ES), expL c level have' (l ++ r) s = (match expL c level have' l s with | none => none | some s' => expL c level have' r s')
  | [], r, s => rfl
  | t :: l, r, s => by
    simp only [List.cons_append, expL]
    cases expS c level have' s t with
    | none => rfl
    | some s' => exact expL_app have' l r s'
def es0 (c : Cat) (kind n : Int) : ES := ⟨upd (fun _ => 0) kind n, [], List.replicate c.blues.length 0, []⟩
/-- What is known of what was done with the types t. -/
structure ESok (c : Cat) (t : List Int) (s : ES) : Prop where
  w : ∀ u, 0 ≤ s.w u ∧ s.w u ≤ MaxQ
  raw : (s.raw.map (·.1)).Sublist t
  rq : ∀ p ∈ s.raw, 1 ≤ p.2 ∧ p.2 ≤ MaxQ
  left : (s.left.map (·.1)).Sublist t
  lq : ∀ p ∈ s.left, 1 ≤ p.2 ∧ p.2 ≤ MaxQ
  rl : s.runs.length = c.blues.length
  runs : ∀ n ∈ s.runs, 0 ≤ n ∧ n ≤ 1000
theorem upd_bd {w : Int → Int} {a v : Int} (h : ∀ u, 0 ≤ w u ∧ w u ≤ MaxQ) (hv : 0 ≤ v ∧ v ≤ MaxQ) : ∀ u, 0 ≤ upd w a v u ∧ upd w a v u ≤ MaxQ := fun u => by
  unfold upd; split
  · exact hv
  · exact h u
theorem wantsL_bd : ∀ {l : List Stk} {w w' : Int → Int}, wantsL w l = some w' → (∀ s ∈ l, 0 ≤ s.2) → (∀ u, 0 ≤ w u ∧ w u ≤ MaxQ) → ∀ u, 0 ≤ w' u ∧ w' u ≤ MaxQ
  | [], w, w', h, _, hw => by cases h; exact hw
  | s :: l, w, w', h, hl, hw => by
    simp only [wantsL] at h
    split at h
    · cases h
    · have := hl s (by simp)
      have := hw s.1
      exact wantsL_bd h (fun x hx => hl x (by simp [hx])) (upd_bd hw (by omega))
theorem es0_ok {kind n : Int} (hn : 1 ≤ n ∧ n ≤ MaxQ) : ESok c [] (es0 c kind n) :=
  ⟨upd_bd (fun _ => by decide) (by omega), by simp [es0], by simp [es0], by simp [es0], by simp [es0], by simp [es0], fun m hm => by
    have := List.eq_of_mem_replicate hm
    omega⟩
theorem up_mul {n b : Int} (hb : 1 ≤ b) (hn : 1 ≤ n) : 1 ≤ upI n b ∧ 0 ≤ upI n b * b - n ∧ upI n b * b - n < b := by
  unfold upI
  have h1 := Int.emod_add_mul_ediv (n + b - 1) b
  have h2 := Int.emod_nonneg (n + b - 1) (show b ≠ 0 by omega)
  have h3 := Int.emod_lt_of_pos (n + b - 1) (show 0 < b by omega)
  rw [Int.mul_comm] at h1
  refine ⟨?_, by omega, by omega⟩
  exact Int.le_ediv_of_mul_le (by omega) (by omega)
theorem maker_bl (co : c.Sz) {t : Int} {b : Bl} (h : c.blues[(maker c.blues t - 1).toNat]? = some b) : BlueOK b c.types := blueE_ok.1 (co.bl _ (List.mem_of_getElem? h))
theorem ESok.step (co : c.Sz) {t : List Int} {s s' : ES} {have' : List Stk} {a : Int} (o : ESok c t s) (hl : 0 ≤ level ∧ level ≤ 10) (hh : ∀ u, 0 ≤ tot have' u) (h : expS c level have' s a = some s') : ESok c (t ++ [a]) s' := by
  have hM : MaxQ = 1125899906842624 := rfl
  unfold expS at h
  split at h
  · cases h
    exact ⟨o.w, o.raw.trans (List.sublist_append_left _ _), o.rq, o.left.trans (List.sublist_append_left _ _), o.lq, o.rl, o.runs⟩
  rename_i hmore
  have hw := o.w a
  have hha := hh a
  have happ : ∀ {l : List Stk} {v : Int}, (l.map (·.1)).Sublist t → ((l ++ [(a, v)]).map (·.1)).Sublist (t ++ [a]) := fun h => by
    rw [List.map_append]; exact h.append (List.Sublist.refl _)
  generalize hn : s.w a - tot have' a = n at hmore h
  unfold makeS at h
  split at h
  · cases h
    refine ⟨o.w, happ o.raw, fun p hp => ?_, o.left.trans (List.sublist_append_left _ _), o.lq, o.rl, o.runs⟩
    rcases List.mem_append.1 hp with hp | hp
    · exact o.rq p hp
    · simp at hp; subst hp; simp only; omega
  split at h
  · cases h
  rename_i b hb
  have hB := maker_bl co hb
  have hup := up_mul hB.per.1 (show 1 ≤ n by omega)
  split at h
  · cases h
  rename_i h1
  split at h
  · cases h
  rename_i h2
  have h2 : needOver b.needs (upI n b.per) level = false := by simpa using h2
  have ok := needL_ok (level := level) hB.needs hup.1 h2
  split at h
  · cases h
  rename_i w' hw'
  cases h
  have hper := hB.per
  refine ⟨wantsL_bd hw' (fun x hx => by have := ok.el x hx; omega) o.w, o.raw.trans (List.sublist_append_left _ _), o.rq, ?_, ?_, by rw [List.length_set]; exact o.rl, fun m hm => ?_⟩
  · simp only; split
    · exact happ o.left
    · exact o.left.trans (List.sublist_append_left _ _)
  · simp only
    split
    · intro p hp
      rcases List.mem_append.1 hp with hp | hp
      · exact o.lq p hp
      · simp at hp; subst hp; simp only; omega
    · exact o.lq
  · rcases List.mem_or_eq_of_mem_set hm with hm | rfl
    · exact o.runs m hm
    · omega
theorem expL_ok (co : c.Sz) {have' : List Stk} (hl : 0 ≤ level ∧ level ≤ 10) (hh : ∀ u, 0 ≤ tot have' u) : ∀ {l t : List Int} {s s' : ES}, ESok c t s → expL c level have' l s = some s' → ESok c (t ++ l) s'
  | [], t, s, s', o, h => by cases h; simpa using o
  | a :: l, t, s, s', o, h => by
    simp only [expL] at h
    split at h
    · cases h
    · rename_i s1 h1
      have := expL_ok co hl hh (o.step co hl hh h1) h
      simpa using this
/-- Stacks of types of their own each, from some on, are normal when sorted. -/
theorem sn_sorted {l r : List Stk} (hp : r.Perm l) (hs : r.Pairwise (fun x y => x.1 ≤ y.1)) (hn : (l.map (·.1)).Nodup) (hq : ∀ p ∈ l, 1 ≤ p.2) : SN l r := by
  have hnr : (r.map (·.1)).Nodup := (hp.map _).nodup_iff.2 hn
  refine ⟨?_, fun k n => ⟨fun h => ?_, fun ⟨h1, h2⟩ => ?_⟩⟩
  · have h1 : r.Pairwise (fun x y => x.1 ≠ y.1) := List.pairwise_map.1 hnr
    exact hs.imp₂ (fun x y a b => by omega) h1
  · have hm := hp.mem_iff.1 h
    have := tot_mem hn hm
    have := hq _ hm
    simp only at *
    omega
  · obtain ⟨s, hs, rfl⟩ := tot_pos (l := l) (k := k) (by omega)
    have := tot_mem hn hs
    rw [this] at h1
    subst h1
    exact hp.mem_iff.2 hs
theorem good_of {l : List Stk} {t : List Int} (hs : (l.map (·.1)).Sublist t) (hq : ∀ p ∈ l, 1 ≤ p.2 ∧ p.2 ≤ MaxQ) (ht : ∀ u ∈ t, 1 ≤ u) (hn : t.Nodup) : errN l = 0 := by
  have hnl : (l.map (·.1)).Nodup := hs.nodup hn
  refine errN_zero.2 ⟨fun p hp => ⟨ht _ (hs.subset (List.mem_map.2 ⟨p, hp, rfl⟩)), by have := hq p hp; omega⟩, ?_⟩
  rintro ⟨p, hp, h⟩
  rw [tot_mem hnl hp] at h
  have := hq p hp
  omega
open Classical in
/-- The normal stacks of a list. -/
noncomputable def normL' (l : List Stk) : List Stk := if h : ∃ r, SN l r then h.choose else []
theorem normL'_eq {l r : List Stk} (h : SN l r) : normL' l = r := by
  have hx : ∃ r, SN l r := ⟨r, h⟩
  unfold normL'
  rw [dif_pos hx]
  exact hx.choose_spec.unique h
end Go.Proofs.Ytljgfkiiikcaaaa

/- Bills: what is wanted, what is made: the code's. -/
set_option linter.unusedVariables false
namespace Go.Proofs.Ytljgfkiiikcaaaa
open Go Go.Proofs
variable {Q : V → Mem → Prop} {c : Cat} {level : Int}

abbrev cP (c : Cat) (level : Int) (A : List Int) (i j k : Nat) : AB := .c [.i c.types, .l 7 (c.blues.map eB), .i c.places, .l 4 (c.bays.map eY), .i c.chars, .i c.broker, .i c.least, .i c.sales, .i level, .n .i64 33 A, .w i, .w j, .w k]
abbrev mP (c : Cat) (level : Int) (A : List Int) (a b d : List (List U)) : Mem := [cP c level A 1 2 3, .w 43 2 a, .w 3 1 b, .w 43 2 d]
abbrev FP := Int → Int → List (List U) → Int → List (List U) → Int → Int → Int → Int → Int → List Int → List (List U) → List (List U) → List (List U) → Prop
abbrev postP (F : FP) : V → Mem → Prop := post [.I] [.c [.i .i64, .l 7, .i .i64, .l 4, .i .i64, .i .i64, .i .i64, .i .i64, .i .i64, .n 33, .ow 43 2, .ow 3 1, .ow 43 2], .X, .X, .X] F
abbrev apF (F : FP) (e : Int) (c : Cat) (level : Int) (A : List Int) (a b d : List (List U)) : Prop := F e c.types (c.blues.map eB) c.places (c.bays.map eY) c.chars c.broker c.least c.sales level A a b d
section
variable {F : FP} {e : Int} {A : List Int} {a b d : List (List U)}
theorem postP1 : postP F (.i e) (mP c level A a b d) = apF F e c level A a b d := rfl
theorem postP2 : postP F (.i e) [cP c level A 4 2 3, .x, .w 3 1 b, .w 43 2 d, .w 43 2 a] = apF F e c level A a b d := rfl
theorem postP3 : postP F (.i e) [cP c level A 4 5 6, .x, .x, .x, .w 43 2 a, .w 3 1 b, .w 43 2 d] = apF F e c level A a b d := rfl
theorem wants_S {w : Int → Int} {s : Stk} (hA : Arr A w) (hw : 0 ≤ w s.1 ∧ w s.1 ≤ MaxQ) (h0 : 0 ≤ s.1 ∧ s.1 < 33) (hs : 0 ≤ s.2 ∧ s.2 ≤ MaxQ) (k1 : MaxQ < w s.1 + s.2 → apF F 5 c level A a b d) (k2 : ¬ MaxQ < w s.1 + s.2 → apF F 0 c level (A.set s.1.toNat (w s.1 + s.2)) a b d) :
    PRun Try.prog 41 (mP c level A a b d) [.r 0 0, .a [.i s.1, .i s.2]] (postP F) := by
  have hM : MaxQ = 1125899906842624 := rfl
  refine S41w ⟨h0.1, h0.2, ?_⟩
  rw [hA.el h0.1 h0.2]
  refine add_S hw.1 hs.1 (by omega) ?_
  rw [post_II]
  refine cNe (fun h => absurd rfl h) fun _ => cIf (fun h => ?_) fun h => ⟨h0.1, h0.2, ?_⟩
  · exact postP1 ▸ k1 (by omega)
  · exact postP1 ▸ k2 (by omega)
end
theorem makes_S {F : FP} {A : List Int} {s : ES} {t n : Int} (hc : c.Rg) (co : c.Sz) (hA : Arr A s.w) (hw : ∀ u, 0 ≤ s.w u ∧ s.w u ≤ MaxQ) (hl : 0 ≤ level ∧ level ≤ 10) (hn : 1 ≤ n ∧ n ≤ MaxQ) (hr : s.runs.length = c.blues.length)
    (h1 : s.raw.length ≤ 1000) (h2 : s.left.length ≤ 1000)
    (k1 : makeS c level s t n = none → ∀ A' a b d, A'.length = 33 → apF F 5 c level A' a b d) (k2 : ∀ s', makeS c level s t n = some s' → ∀ A', Arr A' s'.w → apF F 0 c level A' (s'.raw.map eS) (s'.runs.map eI) (s'.left.map eS)) :
    PRun Try.prog 22 (mP c level A (s.raw.map eS) (s.runs.map eI) (s.left.map eS)) [.r 0 0, .i t, .i n] (postP F) := by
  have hM : MaxQ = 1125899906842624 := rfl
  refine S22 (pMaker_S hc ?_)
  rw [post_I]
  refine cEq (fun h0 => ⟨apOk_l (by simp; omega), ?_⟩) fun h0 => ?_
  · have := k2 { s with raw := s.raw ++ [(t, n)] } (by unfold makeS; rw [if_pos h0]) A hA
    rw [List.map_append] at this
    exact postP2 ▸ this
  rcases maker_get (l := c.blues) (t := t) with h | ⟨i, b, e1, e2, e3⟩
  · exact absurd h h0
  have hi := (List.getElem?_eq_some_iff.1 e2).1
  have hnb := hc.nb
  have hbm := List.mem_of_getElem? e2
  have hB : BlueOK b c.types := blueE_ok.1 (co.bl _ hbm)
  have hup := up_mul hB.per.1 hn.1
  have hper := hB.per
  rw [e1, w64 (x := (i : Int) + 1 - 1) (by omega) (by omega), show (i : Int) + 1 - 1 = i by omega]
  rw [elL_of (r := eB b) (by omega) (by simp [e2])]
  simp only [eB, ug0, ugs, dI_n, dL_l]
  refine pRuns_S (b := b) (hc.b b hbm) ?_
  rw [post_II]
  have hrr : runsR b n = (upI n b.per, 0) := by unfold runsR; rw [if_pos ⟨blueE_ok.2 hB.mono, inn_iff.2 (by omega)⟩]
  rw [hrr]
  have hmk : makeS c level s t n = if 1000 < upI n b.per then none else if needOver b.needs (upI n b.per) level = true then none else
      match wantsL s.w (needL b.needs (upI n b.per) level) with
      | none => none
      | some w' => some ⟨w', s.raw, s.runs.set i (upI n b.per), if 0 < upI n b.per * b.per - n then s.left ++ [(t, upI n b.per * b.per - n)] else s.left⟩ := by
    unfold makeS
    rw [if_neg h0, e1, show ((i : Int) + 1 - 1).toNat = i by omega, e2]
    all_goals rfl
  generalize hrn : upI n b.per = r at *
  have hover : ∀ {p : Prop}, 1 ≤ r → r ≤ 1000 → (0 ≤ r * b.per ∧ r * b.per ≤ 1048576000 → p) → p := fun h3 h4 k => k ⟨Int.mul_nonneg (by omega) (by omega), by
    have := Int.mul_le_mul h4 hper.2 (by omega) (by omega); omega⟩
  refine cNe (fun h => absurd rfl h) fun _ => cIf (fun h => ?_) fun h => ⟨by omega, by simp [hr]; omega, ?_⟩
  · exact postP1 ▸ k1 (by rw [hmk, if_pos (show 1000 < r from h)]) A _ _ _ hA.len
  have hr1 : ¬ 1000 < r := h
  rw [if_neg hr1] at hmk
  intro kk hkk
  have main : ∀ L : List Stk, L = (if 0 < r * b.per - n then s.left ++ [(t, r * b.per - n)] else s.left) → kk c.types (c.blues.map eB) c.places (c.bays.map eY) c.chars c.broker c.least c.sales level A (s.raw.map eS) ((s.runs.set i r).map eI) (L.map eS) := by
    rintro L hL
    refine hkk _ _ _ _ _ _ _ _ _ _ _ _ _ (pNeeds_S (b := b) (hc.b b hbm) ?_)
    rw [post_LI]
    obtain ⟨N, e0, hnr, hN, hx, hm⟩ : ∃ N e0, needsR b level r = (N, e0) ∧ N.length ≤ 8 ∧ (∀ x ∈ N, (0 ≤ x.1 ∧ x.1 < 33) ∧ 0 ≤ x.2 ∧ x.2 ≤ MaxQ) ∧
        ((e0 = 0 ∧ makeS c level s t n = match wantsL s.w N with | none => none | some w' => some ⟨w', s.raw, s.runs.set i r, L⟩) ∨ (e0 = 5 ∧ makeS c level s t n = none)) := by
      unfold needsR
      rw [if_pos ⟨⟨blueE_ok.2 hB.mono, inn_iff.2 hl⟩, inn_iff.2 (by omega)⟩]
      by_cases ho : needOver b.needs r level = true
      · rw [if_pos ho] at hmk ⊢
        exact ⟨[], 5, rfl, by simp, by simp, .inr ⟨rfl, hmk⟩⟩
      · rw [if_neg ho] at hmk ⊢
        have ok := needL_ok (level := level) hB.needs hup.1 (by simpa using ho)
        refine ⟨_, 0, rfl, ok.len, fun x hx => ?_, .inl ⟨rfl, by rw [hmk, ← hL]⟩⟩
        have := ok.el x hx
        have := hB.ty
        omega
    rw [hnr]
    refine ⟨fun e x x1 x2 x3 x4 x5 x6 x7 x8 x9 A' a b d => AtI N (fun t' _ => (x1 = c.types ∧ x2 = c.blues.map eB ∧ x3 = c.places ∧ x4 = c.bays.map eY ∧ x5 = c.chars ∧ x6 = c.broker ∧ x7 = c.least ∧ x8 = c.sales ∧ x9 = level ∧ a = s.raw.map eS ∧ b = (s.runs.set i r).map eI ∧ d = L.map eS) ∧
      ((e = 0 ∧ e0 = 0 ∧ ∃ w', wantsL s.w t' = some w' ∧ Arr A' w' ∧ ∀ u, 0 ≤ w' u ∧ w' u ≤ MaxQ) ∨ (e = 5 ∧ makeS c level s t n = none ∧ A'.length = 33))) x, fun e x _ _ _ _ _ _ _ _ _ _ _ _ _ => SufM N x, .zero (by omega) ⟨by simp, ?_⟩, ?_⟩
    · rcases hm with ⟨h, -⟩ | ⟨h, h'⟩
      · exact .inl ⟨h, h, s.w, rfl, hA, hw⟩
      · exact .inr ⟨h, h', hA.len⟩
    rintro e x _ _ _ _ _ _ _ _ _ A' _ _ _ ⟨t', _ | ⟨q, l'⟩, at', ⟨rfl, rfl, rfl, rfl, rfl, rfl, rfl, rfl, rfl, rfl, rfl, rfl⟩, hst⟩
    · rw [at'.d0, cond_false]
      rw [at'.all] at hst
      rcases hst with ⟨rfl, h0', w', hw', hA', -⟩ | ⟨rfl, hnone, hlen⟩
      · have hm := hm.resolve_right fun h => by omega
        have := k2 _ (by rw [hm.2, hw']) A' hA'
        exact postP3 ▸ this
      · exact postP3 ▸ k1 hnone A' _ _ _ hlen
    · simp only [at'.d1, at'.el, eS, ug0, ugs, dI_n, cond_true]
      have hq := hx q (by rw [at'.e]; simp)
      rcases hst with ⟨rfl, h0', w', hw', hA', hbd⟩ | ⟨rfl, hnone, hlen⟩
      · refine cEq (fun _ => ?_) fun h => absurd rfl h
        have hm := hm.resolve_right fun h => by omega
        refine wants_S (F := fun x29 x30 l13 x31 l14 x32 x33 x34 x35 x36 a3 l15 l16 l17 => _) (s := q) (a := s.raw.map eS) (b := (s.runs.set i r).map eI) (d := L.map eS) hA' (hbd q.1) hq.1 hq.2 (fun h => ?_) fun h => ?_
        · refine at'.step ⟨by simp, .inr ⟨rfl, ?_, hA'.len⟩⟩
          rw [hm.2, at'.e, wantsL_app, hw']
          simp only [wantsL, if_pos h]
        · refine at'.step ⟨by simp, .inl ⟨rfl, h0', upd w' q.1 (w' q.1 + q.2), ?_, hA'.set hq.1.1 hq.1.2, upd_bd hbd (by have := hbd q.1; omega)⟩⟩
          rw [wantsL_app, hw']
          simp only [wantsL, if_neg h]
      · refine cEq (fun h => by cases h) fun _ => at'.step ⟨by simp, .inr ⟨rfl, hnone, hlen⟩⟩
  have hmap : ∀ (v : Int), (s.runs.map eI).set i [.n v] = (s.runs.set i v).map eI := fun v => by rw [List.map_set]; rfl
  rw [show ((i : Int)).toNat = i from rfl, hmap]
  have hr0 := hover hup.1 (by omega) id
  rw [w64 (x := r * b.per) (by omega) (by omega), w64 (x := r * b.per - n) (by omega) (by omega)]
  refine cIf (fun h => ⟨apOk_l (by simp; omega), ?_⟩) fun h => ?_
  · have := main _ (by rw [if_pos h])
    rw [List.map_append] at this
    exact this
  · exact main _ (by rw [if_neg h])
end Go.Proofs.Ytljgfkiiikcaaaa

/- From the symbolic engine's runs to the rows. -/
set_option linter.unusedVariables false
namespace Go.Proofs.Ytljgfkiiikcaaaa
open Go Go.Proofs Go.ChangeShapes Go.WideShapes Go.ChangeAt Go.RowKit

theorem Try.own : ownKnob Try.prog.godebug = none := by kernel_rfl
theorem Try.laidOut : laidOutB Try.prog = true := by kernel_rfl

theorem belowOf {W W' : World} (k : Keep W.heap W'.heap) (s : Same W W') : RowKit.Below W.heap.size W W' :=
  ⟨s.os, s.tape, s.output, k.size, fun b hb => k.blk b hb (by simp)⟩
theorem rp_agg {D : Fz} {cs : Array Value} {us : List U} (h : RdL D (Value.agg cs).cells.toList us) : Rp D [] (.agg cs) (.a (us.map .u)) := by
  obtain ⟨cs⟩ := cs
  exact .a (RpC.ofU h)
theorem rp_slice {D : Fz} {a : Option Addr} {n c : Nat} {u : U} (h : RdL D (Value.slice a n c).cells.toList [u]) : Rp D [] (.slice a n c) (.u u) := by
  have h : RdL D [.slice a n c] [u] := h
  cases h with | cons a _ => exact .u a
theorem rd_scalar {D : Fz} {v : Value} {x : U} (hv : ∀ cs, v ≠ .agg cs) (h : RdL D v.cells.toList [x]) : Rd D v x := by
  have e : v.cells.toList = [v] := by cases v <;> first | rfl | exact absurd rfl (hv _)
  rw [e] at h
  cases h with | cons a _ => exact a
theorem rd_int {P : Program} {w : World} {r : Reach} {b t : Nat} {v : Value} {k : IntKind} {D : Fz} {x : U} (hv : Value.okWide P w r b t v) (hu : P.underlying t = some (.int k)) (h : RdL D v.cells.toList [x]) : Rd D v x := by
  refine rd_scalar (fun cs e => ?_) h
  subst e
  unfold Value.okWide at hv
  rw [hu] at hv
  simp only [Cell.okWide, hu, Cell.ok] at hv
theorem rd_bool {P : Program} {w : World} {r : Reach} {b t : Nat} {v : Value} {D : Fz} {x : U} (hv : Value.okWide P w r b t v) (hu : P.underlying t = some .bool) (h : RdL D v.cells.toList [x]) : Rd D v x := by
  refine rd_scalar (fun cs e => ?_) h
  subst e
  unfold Value.okWide at hv
  rw [hu] at hv
  simp only [Cell.okWide, hu, Cell.ok] at hv
theorem rd_string {P : Program} {w : World} {r : Reach} {b t : Nat} {v : Value} {D : Fz} {x : U} (hv : Value.okWide P w r b t v) (hu : P.underlying t = some .string) (h : RdL D v.cells.toList [x]) : Rd D v x := by
  refine rd_scalar (fun cs e => ?_) h
  subst e
  unfold Value.okWide at hv
  rw [hu] at hv
  simp only [Cell.okWide, hu, Cell.ok] at hv
theorem SAt.all (h : Heap) : SAt (allD h) [] [] [] [] h := ⟨rfl, rfl, fun i L ab ch h => by simp at h, by simpa using St.all h⟩
end Go.Proofs.Ytljgfkiiikcaaaa

/- Bills: what is needed to make something: the code's. -/
set_option linter.unusedVariables false
namespace Go.Proofs.Ytljgfkiiikcaaaa
open Go Go.Sort Go.Shelf Go.Proofs
variable {Q : V → Mem → Prop} {c : Cat} {level : Int}

/- ## The sort -/
abbrev StkU := { x : Stk // 1 ≤ x.1 ∧ x.1 ≤ 9223372036854775807 }
instance : Inhabited StkU := ⟨⟨(1, 0), by decide⟩⟩
theorem stackSW : SWO (ltOf fun x y : StkU => x.1.1 - y.1.1) where
  irrefl x := by unfold ltOf; simp
  trans x y z h1 h2 := by unfold ltOf at *; simp only [decide_eq_true_eq] at *; omega
  ntrans x y z h1 h2 := by unfold ltOf at *; simp only [decide_eq_false_iff_not] at *; omega
theorem callSort : Callable Try.prog 24 := ⟨_, Try.func24, by kernel_rfl, by kernel_rfl⟩
theorem callCmp : Callable Try.prog 23 := ⟨_, Try.func23, by kernel_rfl, by kernel_rfl⟩
theorem sortS_S {l : List Stk} (hd : ∀ s ∈ l, 1 ≤ s.1 ∧ s.1 ≤ 9223372036854775807) (hl : l.length ≤ 1000000) (k : ∀ r : List Stk, r.Perm l → r.Pairwise (fun x y => x.1 ≤ y.1) → Q (.t []) [.w 43 2 (r.map eS)]) :
    PRun Try.prog 24 [.w 43 2 (l.map eS)] [.w 0, .f 23 [] []] Q := by
  obtain ⟨t, ht⟩ : ∃ t : List StkU, t.map (·.1) = l := ⟨l.pmap (fun x h => ⟨x, h⟩) hd, by simp [List.map_pmap]⟩
  subst ht
  have := sortP (α := StkU) Try.sortL (f := 24) rfl callSort 2 Try.isAgg43 Try.sizeOf43 (fun x => [x.1.1, x.1.2]) (fun _ => rfl) (fun x y => x.1.1 - y.1.1) stackSW callCmp
    (fun x y => S23 (by have := x.2; have := y.2; rw [w64 (by omega) (by omega)])) (E := 43) (rows := t) (by simpa using hl) (Q := Q) fun r hp hs => by
      have := k (r.map (·.1)) (hp.map _) (by
        rw [List.pairwise_map]
        exact hs.imp fun h => Decidable.byContradiction fun hc => h (by show (_ - _ : Int) < 0; omega))
      rw [List.map_map] at this
      exact this
  rw [List.map_map]
  exact this
theorem post_row2 {F : List (List U) → Prop} {l : List (List U)} : post [] [.row 43 2] F (.t []) [.w 43 2 l] = F l := rfl

/- ## What is needed -/
noncomputable def topR (c : Cat) : List Int := (orderR c.types (pairsL c.blues)).1.reverse
abbrev BomV := List Stk × List Int × List Stk
open Classical in
noncomputable def expR (c : Cat) (kind n level : Int) (have' : List Stk) : BomV × Int :=
  if mayE c kind level have' ≠ 0 then (([], [], []), mayE c kind level have') else if inn n 1 1125899906842624 = true then
    (match expL c level have' (topR c) (es0 c kind n) with
    | none => (([], [], []), 5)
    | some s => ((normL' s.raw, s.runs, normL' s.left), 0)) else (([], [], []), 1)
abbrev vBE (r : BomV × Int) : V := .t [.a [.l 2 (r.1.1.map eS), .l 1 (r.1.2.1.map eI), .l 2 (r.1.2.2.map eS)], .i r.2]
theorem pExpand_S {kind n : Int} {have' : List Stk} (hc : c.Rg) (hr : rng have') (hl : have'.length ≤ 1000) (k : Q (vBE (expR c kind n level have')) []) : PRun Try.prog 7 [] [aC c, .i kind, .i n, .i level, .l 2 (have'.map eS)] Q := by
  have hM : MaxQ = 1125899906842624 := rfl
  unfold expR at k
  refine S7 (checks_S hc hl ?_)
  rw [post_I]
  refine cNe (fun h => by rwa [if_pos h] at k) fun hm => in1_S ?_
  rw [if_neg (by simpa using hm)] at k
  rw [post_B]
  refine cNot (cB (fun hn => ?_) fun h => by rwa [if_neg (by simp [h])] at k)
  rw [if_pos hn] at k
  have hnb := hc.nb
  have hL : (0 : Int) ≤ ((c.blues.map eB).length : Int) ∧ ((c.blues.map eB).length : Int) ≤ 1000000 := by rw [List.length_map]; omega
  obtain ⟨hcat, hk, hlv, hchk⟩ := mayE_zero hm
  obtain ⟨out, co⟩ := cat_ok hcat
  have hty := inn_iff.1 co.sz.types
  have hn' := inn_iff.1 hn
  have hhOK := chkE_iff.1 hchk
  have hhe := errN_zero.1 hhOK.sn.1
  refine (fun rest => ⟨⟨hL.1, hL.2, rfl, dup ⟨by omega, by omega, rest⟩⟩, ⟨hL.1, hL.2, rfl, by omega, by omega, rest⟩⟩) ?_
  refine (fun rest => ⟨pPairs_S hc (post_L.mpr (dup (pOrder_S (post_LI.mpr rest)))), pPairs_S hc (post_L.mpr (pOrder_S (post_LI.mpr rest)))⟩) ?_
  unfold topR at k
  rw [co.r] at k ⊢
  dsimp only at k ⊢
  intro X
  have hol : out.length ≤ 1000 := by have := nodup_len co.g.nodup co.g.mem (by omega); omega
  refine ⟨fun x x1 x2 x3 x4 x5 x6 x7 x8 x9 A a b d e => (x1 = c.types ∧ x2 = c.blues.map eB ∧ x3 = c.places ∧ x4 = c.bays.map eY ∧ x5 = c.chars ∧ x6 = c.broker ∧ x7 = c.least ∧ x8 = c.sales ∧ level = x9) ∧ ∃ t l, out.reverse = t ++ l ∧ x = (l.length : Int) - 1 ∧ A.length = 33 ∧
      ((e = 0 ∧ ∃ s, expL c level have' t (es0 c kind n) = some s ∧ ESok c t s ∧ Arr A s.w ∧ a = s.raw.map eS ∧ b = s.runs.map eI ∧ d = s.left.map eS) ∨ (e = 5 ∧ expL c level have' out.reverse (es0 c kind n) = none)),
    fun x _ _ _ _ _ _ _ _ _ _ _ _ _ _ => (x + 1).toNat, ⟨by simp, [], out.reverse, rfl, ?_, by simp, .inl ⟨rfl, es0 c kind n, rfl, es0_ok (by omega), ?_, rfl, ?_, rfl⟩⟩, ?_⟩
  · rw [List.length_map, w64 (by omega) (by omega)]; simp
  · refine Arr.congr (Arr.set (f := fun _ => 0) ⟨by simp, fun t _ _ => atA_rep t⟩ (by omega) (by omega)) fun t _ _ => rfl
  · rw [List.length_map]; exact rep_eI _
  rintro x _ _ _ _ _ _ _ _ _ A a b d e ⟨⟨rfl, rfl, rfl, rfl, rfl, rfl, rfl, rfl, rfl⟩, t, l, e1, rfl, hA33, hst⟩
  have hsub : ∀ u ∈ t, 1 ≤ u ∧ u ≤ c.types := fun u hu => co.g.mem u (List.mem_reverse.1 (by rw [e1]; simp [hu]))
  have hnd : t.Nodup := by
    have := (List.reverse_perm out).nodup_iff.2 co.g.nodup
    rw [e1, List.nodup_append] at this
    exact this.1
  rcases l with _ | ⟨u, l⟩
  · -- the end
    refine cIf (fun h => by simp at h) fun _ => ⟨rfl, ?_⟩
    rw [List.append_nil] at e1
    rcases hst with ⟨rfl, s, hs, ok, -, rfl, rfl, rfl⟩ | ⟨rfl, hnone⟩
    · rw [e1, hs] at k
      refine cNe (fun h => absurd rfl h) fun _ => ?_
      have hty1 : ∀ {q : List Stk}, (q.map (·.1)).Sublist t → (∀ s ∈ q, 1 ≤ s.1 ∧ s.1 ≤ 9223372036854775807) ∧ q.length ≤ 1000000 ∧ (q.map (·.1)).Nodup := fun h => by
        refine ⟨fun s hs => ?_, ?_, h.nodup hnd⟩
        · have := hsub s.1 (h.subset (List.mem_map.2 ⟨s, hs, rfl⟩)); omega
        · have h1 := h.length_le
          have h2 := congrArg List.length e1
          simp at h1 h2; omega
      obtain ⟨r1, r2, r3⟩ := hty1 ok.raw
      obtain ⟨l1, l2, l3⟩ := hty1 ok.left
      refine sortS_S r1 r2 fun r hp hs => ?_
      rw [post_row2]
      refine sortS_S l1 l2 fun q hp2 hs2 => ?_
      rw [post_row2]
      have er := normL'_eq (sn_sorted hp hs r3 fun p hp => (ok.rq p hp).1)
      have el := normL'_eq (sn_sorted hp2 hs2 l3 fun p hp => (ok.lq p hp).1)
      simp only at k
      rw [er, el] at k
      exact k
    · rw [hnone] at k
      exact cNe (fun _ => k) fun h => by cases h
  have hu := co.g.mem u (List.mem_reverse.1 (by rw [e1]; simp))
  have e2 : out = l.reverse ++ u :: t.reverse := by
    have := congrArg List.reverse e1
    simpa using this
  refine cIf (fun _ => ?_) fun h => by simp at h <;> omega
  have ei : ((u :: l).length : Int) - 1 = (l.length : Int) := by simp
  rw [ei, elL_of (r := eI u) (by omega) (by rw [e2]; simp)]
  simp only [eI, ug0, dI_n]
  refine ⟨trivial, by omega, by omega, ?_⟩
  rw [elA hA33 (by omega) (by omega)]
  refine pCount_S hr hl ?_
  rw [post_I]
  have hcn : cntN have' u = tot have' u := by unfold cntN; rw [if_pos hhOK.sn.1]
  rw [hcn]
  have htb := tot_bd hhe.1 hhe.2 have' [] (by simp) u
  have hlen := congrArg List.length e1
  simp at hlen
  intro kk hkk
  rw [w64 (x := (l.length : Int) - 1) (by omega) (by omega)] at hkk
  have hm1 : (((l.length : Int) - 1) + 1).toNat < ((l.length : Int) + 1).toNat := by omega
  rcases hst with ⟨rfl, s, hs, ok, hA, rfl, rfl, rfl⟩ | ⟨rfl, hnone⟩
  · refine cEq (fun _ => ?_) fun h => absurd rfl h
    have hwu := ok.w u
    rw [hA.at' u (by omega) (by omega)] at hkk ⊢
    have hfull : expL c level have' (t ++ [u]) (es0 c kind n) = expS c level have' s u := by
      rw [expL_app, hs]
      simp only [expL]
      cases expS c level have' s u <;> rfl
    have hall : expS c level have' s u = none → expL c level have' out.reverse (es0 c kind n) = none := fun h => by
      rw [e1, expL_app, hs]
      simp only [expL, h]
    have hrl : s.raw.length ≤ 1000 := by
      have := ok.raw.length_le
      simp at this; omega
    have hll : s.left.length ≤ 1000 := by
      have := ok.left.length_le
      simp at this; omega
    rw [w64 (x := s.w u - tot have' u) (by omega) (by omega)] at hkk ⊢
    refine hkk _ (cIf (fun h => ?_) fun h => ?_)
    · have hes : expS c level have' s u = makeS c level s u (s.w u - tot have' u) := by unfold expS; rw [if_neg (by omega)]
      refine makes_S hc co.sz hA ok.w hlv (by omega) ok.rl hrl hll (fun hno A' a b d hA' => ⟨⟨by simp, t ++ [u], l, by rw [e1]; simp, rfl, hA', .inr ⟨rfl, hall (by rw [hes, hno])⟩⟩, hm1⟩) fun s' hs' A' hA' => ?_
      have h1 := hes.trans hs'
      exact ⟨⟨by simp, t ++ [u], l, by rw [e1]; simp, rfl, hA'.len, .inl ⟨rfl, s', by rw [hfull, h1], ok.step co.sz hlv (fun v => tot_nonneg hhe.1 v) h1, hA', rfl, rfl, rfl⟩⟩, hm1⟩
    · have hes : expS c level have' s u = some s := by unfold expS; rw [if_pos (by omega)]
      exact ⟨⟨by simp, t ++ [u], l, by rw [e1]; simp, rfl, hA33, .inl ⟨rfl, s, by rw [hfull, hes], ok.step co.sz hlv (fun v => tot_nonneg hhe.1 v) hes, hA, rfl, rfl, rfl⟩⟩, hm1⟩
  · exact cEq (fun h => by cases h) fun _ => hkk _ ⟨⟨by simp, t ++ [u], l, by rw [e1]; simp, rfl, hA33, .inr ⟨rfl, hnone⟩⟩, hm1⟩
end Go.Proofs.Ytljgfkiiikcaaaa

/- Bills, plain: what is told fits; with one less it does not. -/
set_option linter.unusedVariables false
namespace Go.Proofs.Ytljgfkiiikcaaaa
open Go Go.Proofs
variable {c : Cat} {level : Int}

theorem wantsL_sum : ∀ {l : List Stk} {w w' : Int → Int}, wantsL w l = some w' → ∀ u, w' u = w u + tot l u
  | [], w, w', h, u => by cases h; simp [tot]
  | s :: l, w, w', h, u => by
    simp only [wantsL] at h
    split at h
    · cases h
    · rw [wantsL_sum h u]
      unfold upd
      simp only [tot]
      by_cases hu : u = s.1
      · subst hu; simp only [if_true]; omega
      · rw [if_neg hu, if_neg (show ¬ s.1 = u from fun h => hu h.symm)]; omega
theorem sumZ_set {α : Type} {f : α → Int} {q a : α} (h0 : f a = 0) : ∀ {z : List α} {i : Nat}, z[i]? = some a → sumZ ((z.set i q).map f) = sumZ (z.map f) + f q
  | [], i, h => by simp at h
  | x :: z, 0, h => by simp at h; subst h; simp only [List.set_cons_zero, List.map_cons, sumZ, h0]; omega
  | x :: z, i + 1, h => by
    have := sumZ_set (f := f) (q := q) h0 (z := z) (i := i) (by simpa using h)
    simp only [List.set_cons_succ, List.map_cons, sumZ, this]; omega
theorem zip_set {α β : Type} {l : List α} {m : List β} {i : Nat} {a : α} {b : β} (hb : m[i]? = some b) : (l.set i a).zip m = (l.zip m).set i (a, b) := by
  apply List.ext_getElem?
  intro j
  by_cases hj : i = j
  · subst hj
    by_cases hl : i < l.length
    · have hm := (List.getElem?_eq_some_iff.1 hb).1
      have h1 : ((l.set i a).zip m)[i]? = some (a, b) := List.getElem?_zip_eq_some.2 ⟨by rw [List.getElem?_set_self hl], hb⟩
      rw [h1, List.getElem?_set_self (by rw [List.length_zip]; omega)]
    · rw [List.set_eq_of_length_le (by omega), List.set_eq_of_length_le (by rw [List.length_zip]; omega)]
  · rw [List.getElem?_set_ne hj]
    simp only [List.zip, List.getElem?_zipWith, List.getElem?_set_ne hj]
def n0 (kind n u : Int) : Int := if u = kind then n else 0
def defD (have' : List Stk) (s : ES) (bl : List Bl) (u : Int) : Int := tot s.raw u + tot have' u + madeT (s.runs.zip bl) u - s.w u
/-- What is known of a plan behind the types t. -/
structure PlanOK (c : Cat) (level kind n : Int) (have' : List Stk) (t : List Int) (s : ES) : Prop where
  w : ∀ u, s.w u = n0 kind n u + needT level (s.runs.zip c.blues) u
  needs : needOK level (s.runs.zip c.blues)
  none : ∀ (i : Nat) (b : Bl), c.blues[i]? = some b → b.makes ∉ t → s.runs[i]? = some 0
  raw0 : ∀ u, u ∉ t → tot s.raw u = 0
  made0 : ∀ u, u ∉ t → madeT (s.runs.zip c.blues) u = 0
  d : ∀ u ∈ t, 0 ≤ defD have' s c.blues u ∧ (u ∈ s.raw.map (·.1) → defD have' s c.blues u = 0)
theorem PlanOK.step {kind n : Int} {have' : List Stk} {out t l : List Int} {a : Int} {s s' : ES} (co : CatOK c out) (e : out = l.reverse ++ a :: t.reverse) (hl : 0 ≤ level ∧ level ≤ 10) (hh : ∀ u, 0 ≤ tot have' u) (ok : ESok c t s) (o : PlanOK c level kind n have' t s)
    (h : expS c level have' s a = some s') : PlanOK c level kind n have' (t ++ [a]) s' := by
  have hnd := co.g.nodup
  have hat : a ∉ t := fun h => by
    rw [e, List.nodup_append] at hnd
    have := List.nodup_cons.1 hnd.2.1
    exact this.1 (List.mem_reverse.2 h)
  have hra : a ∉ s.raw.map (·.1) := fun h => hat (ok.raw.subset h)
  have hnt : ∀ {u : Int}, u ∉ t ++ [a] → u ∉ t ∧ u ≠ a := fun h => by simp at h; exact ⟨h.1, h.2⟩
  have hst : ∀ {u : Int}, u ∈ t ++ [a] → u ∈ t ∨ u = a := fun h => by simpa using h
  unfold expS at h
  split at h
  · cases h
    rename_i hm
    refine ⟨o.w, o.needs, fun i b hb hn => o.none i b hb (hnt hn).1, fun u hu => o.raw0 u (hnt hu).1, fun u hu => o.made0 u (hnt hu).1, fun u hu => ?_⟩
    rcases hst hu with hu | rfl
    · exact o.d u hu
    · refine ⟨?_, fun h => absurd h hra⟩
      have h1 := o.raw0 u hat
      have h2 := o.made0 u hat
      unfold defD; omega
  rename_i hm
  have happ : ∀ (v u : Int), tot (s.raw ++ [(a, v)]) u = tot s.raw u + if a = u then v else 0 := fun v u => tot_snoc ..
  unfold makeS at h
  split at h
  · cases h
    refine ⟨o.w, o.needs, fun i b hb hn => o.none i b hb (hnt hn).1, fun u hu => ?_, fun u hu => o.made0 u (hnt hu).1, fun u hu => ?_⟩
    · simp only; rw [happ, if_neg (fun h => (hnt hu).2 h.symm), o.raw0 u (hnt hu).1]; rfl
    have hD : ∀ u, u ≠ a → defD have' { s with raw := s.raw ++ [(a, s.w a - tot have' a)] } c.blues u = defD have' s c.blues u := fun u hu => by
      unfold defD; simp only; rw [happ, if_neg (fun h => hu h.symm)]; omega
    rcases hst hu with hu | rfl
    · have hne : u ≠ a := fun h => hat (h ▸ hu)
      rw [hD u hne]
      refine ⟨(o.d u hu).1, fun h => (o.d u hu).2 ?_⟩
      simp only [List.map_append, List.map_cons, List.map_nil, List.mem_append, List.mem_singleton] at h
      exact h.resolve_right hne
    · have h1 := o.raw0 u hat
      have h2 := o.made0 u hat
      have : defD have' { s with raw := s.raw ++ [(u, s.w u - tot have' u)] } c.blues u = 0 := by
        unfold defD; simp only; rw [happ, if_pos rfl]; omega
      rw [this]
      exact ⟨Int.le_refl _, fun _ => rfl⟩
  rename_i hmk
  split at h
  · cases h
  rename_i b hb
  have hB := maker_bl co.sz hb
  split at h
  · cases h
  rename_i h1
  split at h
  · cases h
  rename_i h2
  have h2 : needOver b.needs (upI (s.w a - tot have' a) b.per) level = false := by simpa using h2
  split at h
  · cases h
  rename_i w' hw'
  cases h
  have hma : b.makes = a := by
    rcases maker_get (l := c.blues) (t := a) with h0 | ⟨i', b', e1, e2, e3⟩
    · exact absurd h0 hmk
    · rw [e1, show ((i' : Int) + 1 - 1).toNat = i' by omega, e2] at hb
      cases hb; exact e3
  generalize (maker c.blues a - 1).toNat = i at *
  have hup := up_mul (n := s.w a - tot have' a) hB.per.1 (by omega)
  generalize hr : upI (s.w a - tot have' a) b.per = r at *
  have hne0 : r ≠ 0 := by omega
  have hzero := o.none i b hb (by rw [hma]; exact hat)
  have hz0 : (s.runs.zip c.blues)[i]? = some ((0 : Int), b) := List.getElem?_zip_eq_some.2 ⟨hzero, hb⟩
  have hzs : (s.runs.set i r).zip c.blues = (s.runs.zip c.blues).set i (r, b) := zip_set hb
  have hN : ∀ u, needT level ((s.runs.set i r).zip c.blues) u = needT level (s.runs.zip c.blues) u + tot (needL b.needs r level) u := fun u => by
    unfold needT
    rw [hzs, sumZ_set (a := ((0 : Int), b)) (by simp) hz0]
    simp [hne0]
  have hMd : ∀ u, madeT ((s.runs.set i r).zip c.blues) u = madeT (s.runs.zip c.blues) u + if a = u then r * b.per else 0 := fun u => by
    unfold madeT
    rw [hzs, sumZ_set (a := ((0 : Int), b)) (by simp) hz0]
    simp [hne0, hma]
  have hw : ∀ u, w' u = s.w u + tot (needL b.needs r level) u := wantsL_sum hw'
  have hnp : ∀ u, u ∈ t ∨ u = a → tot (needL b.needs r level) u = 0 := fun u hu => tot_none fun h => by
    obtain ⟨x, hx, rfl⟩ := List.mem_map.1 h
    obtain ⟨y, hy, rfl⟩ := List.mem_map.1 hx
    have hin := co.needs e (List.mem_of_getElem? hb) hma y hy
    rw [e, List.nodup_append] at hnd
    rcases hu with hu | hu
    · exact hnd.2.2 y.1 hin y.1 (by simp; exact .inr hu) rfl
    · exact hnd.2.2 y.1 hin y.1 (by simp at hu; simp [hu]) rfl
  refine ⟨fun u => ?_, fun p hp hp0 => ?_, fun j b' hb' hn => ?_, fun u hu => o.raw0 u (hnt hu).1, fun u hu => ?_, fun u hu => ?_⟩
  · simp only; rw [hw, hN, o.w u]; omega
  · simp only at hp
    rw [hzs] at hp
    rcases List.mem_or_eq_of_mem_set hp with hp | rfl
    · exact o.needs p hp hp0
    · exact h2
  · have h3 := o.none j b' hb' (hnt hn).1
    have hji : i ≠ j := by
      rintro rfl
      rw [hb] at hb'; cases hb'
      exact (hnt hn).2 hma
    simp only
    rw [List.getElem?_set_ne hji]; exact h3
  · simp only; rw [hMd, if_neg (fun h => (hnt hu).2 h.symm), o.made0 u (hnt hu).1]; rfl
  · have hu' := hst hu
    have hD : defD have' ⟨w', s.raw, s.runs.set i r, if 0 < r * b.per - (s.w a - tot have' a) then s.left ++ [(a, r * b.per - (s.w a - tot have' a))] else s.left⟩ c.blues u = defD have' s c.blues u + if a = u then r * b.per else 0 := by
      unfold defD
      simp only
      rw [hMd, hw, hnp u hu']; omega
    rw [hD]
    rcases hu' with hu' | rfl
    · rw [if_neg (fun h : a = u => hat (h ▸ hu'))]
      have := o.d u hu'
      exact ⟨by omega, fun h => by have := this.2 h; omega⟩
    · rw [if_pos rfl]
      refine ⟨?_, fun h => absurd h hra⟩
      have h3 := o.raw0 u hat
      have h4 := o.made0 u hat
      unfold defD; omega
theorem expL_plan {kind n : Int} {have' : List Stk} {out : List Int} (co : CatOK c out) (hl : 0 ≤ level ∧ level ≤ 10) (hh : ∀ u, 0 ≤ tot have' u) : ∀ {l t : List Int} {s s' : ES}, out = (t ++ l).reverse → ESok c t s → PlanOK c level kind n have' t s → expL c level have' l s = some s' → PlanOK c level kind n have' (t ++ l) s'
  | [], t, s, s', e, ok, o, h => by cases h; simpa using o
  | a :: l, t, s, s', e, ok, o, h => by
    simp only [expL] at h
    split at h
    · cases h
    · rename_i s1 h1
      have := expL_plan co hl hh (t := t ++ [a]) (by simpa using e) (ok.step co.sz hl hh h1) (o.step co (l := l) (by rw [e]; simp) hl hh ok h1) h
      simpa using this
theorem zip_zero (n : Nat) (bl : List Bl) (f : Int × Bl → Int) (hf : ∀ b, f (0, b) = 0) : sumZ (((List.replicate n (0 : Int)).zip bl).map f) = 0 := by
  induction n generalizing bl with
  | zero => simp [sumZ]
  | succ n ih =>
    cases bl with
    | nil => simp [sumZ]
    | cons b bl => simp only [List.replicate_succ, List.zip_cons_cons, List.map_cons, sumZ, hf, ih]; rfl
theorem es0_plan (c : Cat) (level kind n : Int) (have' : List Stk) : PlanOK c level kind n have' [] (es0 c kind n) := by
  refine ⟨fun u => ?_, fun p hp hp0 => ?_, fun i b hb _ => ?_, fun u _ => rfl, fun u _ => ?_, by simp⟩
  · unfold es0 needT; simp only
    rw [zip_zero _ _ _ (by simp)]
    unfold upd n0; simp only; omega
  · have := (List.of_mem_zip hp).1
    exact absurd (List.eq_of_mem_replicate this) hp0
  · have := (List.getElem?_eq_some_iff.1 hb).1
    simp [es0, this]
  · unfold es0 madeT; simp only
    exact zip_zero _ _ _ (by simp)
end Go.Proofs.Ytljgfkiiikcaaaa
