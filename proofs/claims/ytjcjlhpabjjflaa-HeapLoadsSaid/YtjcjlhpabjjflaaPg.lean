/- From runs over the heap to the rows: an argument of stacks opened; what is below the old heap's size stays. -/
import Derived.Test.YtjcjlhpabjjflaaPf
import Derived.Test.YtjcjlhpabjjflaaRows
import Derived.ProofKit
import Derived.Deep.SlicePairs
set_option linter.unusedVariables false
namespace Go.Proofs.Ytjcjlhpabjjflaa
open Go Go.Proofs Go.ChangeShapes Go.WideShapes Go.ChangeAt Go.RowKit

theorem Try.own : ownKnob Try.prog.godebug = none := by kernel_rfl
theorem Try.laidOut : laidOutB Try.prog = true := by kernel_rfl

theorem belowOf {W W' : World} (k : Keep W.heap W'.heap) (s : Same W W') : RowKit.Below W.heap.size W W' :=
  ⟨s.os, s.tape, s.output, k.size, fun b hb => k.blk b hb (by simp)⟩
theorem wf64 {n : Int} (h : (Lit.int .i64 n).wf = true) : -9223372036854775808 ≤ n ∧ n ≤ 9223372036854775807 := by
  have h1 : IntKind.min .i64 = -9223372036854775808 := by decide
  have h2 : IntKind.max .i64 = 9223372036854775807 := by decide
  simp only [Lit.wf, h1, h2, Bool.and_eq_true, decide_eq_true_eq] at h
  exact h
def intOfV : Value → Int
  | .int _ n => n
  | _ => 0
set_option maxRecDepth 100000 in
theorem open_stacks {H : Type} {enc : TypeId × Value → H} {W : World} {v : Value} {d : DataW H} {ps : List MemPlace} {b0 : Nat} {r : Reach}
    (hval : Value.okWide Try.prog W r b0 36 v) (h : DataW.Trod enc Try.prog W 0 (fun _ => true) true 36 v d ps) :
    ∃ (a : Option Addr) (n c : Nat) (l : List Stk), v = .slice a n c ∧ Sl W.heap a n c l ∧ rng l := by
  obtain ⟨fuel, hf⟩ := h
  obtain ⟨a0, len, cap, rfl⟩ := okWide_slice Try.underlying36 hval
  have ce : Try.prog.cellsOf 74 = 2 := by kernel_rfl
  have c3 : Try.prog.cellsOf 3 = 1 := by kernel_rfl
  rcases Go.Deep.open_slice_pairs Try.underlying36 Try.underlying74 ce rfl rfl c3 c3 hf with ⟨hcs, hx⟩ | ⟨a, len', cap', m, k, V0, V1, D0, D1, P0, P1, hcs, hb, hl, hm, hmm, hx, hc⟩
  · have : Value.slice a0 len cap = .slice none 0 0 := by simpa [Value.cells] using hcs
    cases this
    exact ⟨none, 0, 0, [], rfl, .nil _ _ _ _ _, by intro s hs; simp at hs⟩
  · have hvv : Value.slice a0 len cap = .slice (some a) len' cap' := by simpa [Value.cells] using hcs
    cases hvv
    have hlm : len ≤ m := by rw [hmm]; simp; exact hl
    have hel : ∀ i, i < len → ∃ x y : Int, V0 i = .int .i64 x ∧ V1 i = .int .i64 y ∧ (Lit.int .i64 x).wf = true ∧ (Lit.int .i64 y).wf = true := by
      intro i hi
      obtain ⟨-, -, t0, t1⟩ := hc i (by omega)
      obtain ⟨x, e0, -, w0⟩ := DataW.trod_int Try.underlying3 t0
      obtain ⟨y, e1, -, w1⟩ := DataW.trod_int Try.underlying3 t1
      exact ⟨x, y, by simpa using e0, by simpa using e1, w0, w1⟩
    refine ⟨some a, len, cap, (List.range len).map fun i => (intOfV (V0 i), intOfV (V1 i)), rfl, ⟨by simp, hl, fun i x hx => ?_⟩, ?_⟩
    · rw [List.getElem?_map] at hx
      have hi : i < len := by
        cases hr : (List.range len)[i]? with
        | none => rw [hr] at hx; cases hx
        | some q => simpa using (List.getElem?_eq_some_iff.1 hr).1
      rw [List.getElem?_range hi] at hx
      cases hx
      obtain ⟨p, q, e0, e1, -, -⟩ := hel i hi
      obtain ⟨h0, h1, -, -⟩ := hc i (by omega)
      rw [e0] at h0; rw [e1] at h1
      obtain ⟨b, o, sp⟩ := a
      have hsp : sp = none := by
        obtain ⟨g0, -, -, -⟩ := hc 0 (by omega)
        cases sp with
        | none => rfl
        | some z =>
          exfalso
          have : W.cell? ⟨b, o, some z⟩ = some (V0 0) := by simpa [Addr.add] using g0
          unfold World.cell? at this
          split at this
          · simp at this
          · cases this
      subst hsp
      refine ⟨b, o, rfl, fun j v hv => ?_⟩
      rw [add_plain] at h0 h1
      have hv : (encS (intOfV (V0 i), intOfV (V1 i)))[j]? = some v := hv
      rw [e0, e1] at hv
      match j, hv with
      | 0, hv => cases hv; exact h0
      | 1, hv => cases hv; exact h1
    · intro s hs
      obtain ⟨i, hi, rfl⟩ := List.mem_map.1 hs
      obtain ⟨x, y, e0, e1, w0, w1⟩ := hel i (by simpa using hi)
      rw [e0, e1]
      exact ⟨wf64 w0, wf64 w1⟩

end Go.Proofs.Ytjcjlhpabjjflaa
