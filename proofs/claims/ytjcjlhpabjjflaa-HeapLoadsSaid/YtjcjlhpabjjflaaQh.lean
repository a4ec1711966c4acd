/- The row of HeapLoads. -/
import Derived.Test.YtjcjlhpabjjflaaPg
import Derived.Test.YtjcjlhpabjjflaaNt
import Derived.Test.YtjcjlhpabjjflaaNx
namespace Go.Proofs.Ytjcjlhpabjjflaa
open Go Go.Proofs Go.ChangeShapes Go.WideShapes Go.ChangeAt Go.RowKit

theorem conv_T (r : List U) (h : ShU (.i .i64 (.i .i64 (.i .i64 .nil))) r) : ∃ x, r = eT x ∧ True := by
  obtain ⟨n, _, rfl, hw, m, _, rfl, hw2, k, _, rfl, hw3, rfl⟩ := h; exact ⟨(n, m, k), rfl, trivial⟩
set_option maxRecDepth 100000 in
theorem heapLoads_lifted (os : Os) (started : os.Started) (H : Type) (enc : TypeId × Value → H) :
    ReturnsInHanded {} Try.checked os 9 .any (Rows.heapLoadsSpec.pre6 enc Try.prog Try.f9 Rows.heapLoadsRow.domain false) (Rows.heapLoadsSpec.post enc Try.prog Try.f9 false true false false) := by
  refine returnsInHanded_of_change (C := Try.checked) Try.own started (by kernel_rfl) Try.func9
    (ChangeSpec.witness6 (enc := enc) (C := Try.checked) false ⟨#[], #[.agg #[.int .i64 0, .int .i64 0], .slice none 0 0, .slice none 0 0], []⟩ 8 (by kernel_rfl) (by kernel_rfl) (by kernel_rfl) (by kernel_rfl)) ?_
  intro W base args ds gs before hval0 hW hcnd _
  have hval : ∀ (j : Nat) t v, Try.f9.params[j]? = some t → args[j]? = some v → Value.okWide Try.prog W .any base t v := hval0
  have hW' := hW
  obtain ⟨p, q, hA0, hV, rfl, hfz, hnd⟩ := hW
  have hA : DataW.TrodAll enc Try.prog W 0 (fun _ => true) true Try.f9.params.toList args.toList ds p := hA0
  rw [Try.params9] at hA hval
  obtain ⟨v0, v1, v2, d0, d1, d2, p0, p1, p2, rfl, rfl, rfl, h0, h1, h2⟩ := trodAll_three hA
  obtain ⟨rfl, rfl⟩ := trodVars_none hV
  obtain ⟨us, hr, n0, _, rfl, -, n1, _, rfl, -, rfl⟩ := open_data (ds := .i .i64 (.i .i64 .nil)) (by kernel_rfl) h0
  obtain ⟨cs, rfl⟩ : ∃ cs, v0 = .agg cs := by
    have hv := hval 0 58 v0 rfl rfl
    unfold Value.okWide at hv
    rw [Try.underlying58] at hv
    obtain ⟨cs, rfl, -⟩ := hv
    exact ⟨cs, rfl⟩
  obtain ⟨cs⟩ := cs
  simp only [RdL.cons_iff, RdL.nil_iff, Rd.int_iff] at hr
  obtain ⟨_, _, hcs, rfl, _, _, rfl, rfl, rfl⟩ := hr
  have hcs : cs = [.int .i64 n0, .int .i64 n1] := hcs
  subst hcs
  obtain ⟨a, n, c, l, rfl, hx, -⟩ := open_rows Try.underlying59 (by kernel_rfl) conv_T (hval 1 59 v1 rfl rfl) h1
  obtain ⟨a', n', c', l', rfl, hy, -⟩ := open_rows Try.underlying49 (by kernel_rfl) conv_T (hval 2 49 v2 rfl rfl) h2
  clear hA0 hval0
  refine ((heapLoads_run (St.all W.heap) n0 n1 hx hy).2 W rfl).mono ?_
  rintro e W' ⟨v, rfl, ⟨rfl, D', l', S⟩, hsm⟩
  have hb := belowOf (St.kept l' S) hsm
  have hlt0 : ∀ x ∈ p0, x.block < W.heap.size := fun x hx => by simpa using hW'.lt x (by simp [hx])
  have hlt1 : ∀ x ∈ p1, x.block < W.heap.size := fun x hx => by simpa using hW'.lt x (by simp [hx])
  have hlt2 : ∀ x ∈ p2, x.block < W.heap.size := fun x hx => by simpa using hW'.lt x (by simp [hx])
  exact ⟨_, rfl, _, _, _, [], _, [], hW', trodAll_mk1 (shut_bool Try.underlying4 true), trodAll_mk3 (hb.trod Try.laidOut (by kernel_rfl) (of_decide_eq_true (by kernel_rfl)) h0 hlt0) (hb.trod Try.laidOut (by kernel_rfl) (of_decide_eq_true (by kernel_rfl)) h1 hlt1) (hb.trod Try.laidOut (by kernel_rfl) (of_decide_eq_true (by kernel_rfl)) h2 hlt2), rfl, hb.frame _, fun h => by cases h⟩

theorem heapLoads_holds : Rows.HeapLoadsSaid :=
  OpenClaim.holds_of_wide 9 Try.f9 rfl rfl rfl rfl rfl rfl rfl ⟨rfl, rfl, rfl, rfl, rfl⟩ rfl rfl rfl rfl rfl (by kernel_rfl) Try.func9 (by kernel_rfl)
    (of_decide_eq_true (by kernel_rfl)) (by unfold Func.isWrapper; first | (rw [if_pos (by decide +kernel)]; kernel_rfl) | (rw [if_neg (by decide +kernel)]; exact ⟨rfl, rfl⟩))
    (fun os started H enc _ => heapLoads_lifted os started H enc)
end Go.Proofs.Ytjcjlhpabjjflaa
