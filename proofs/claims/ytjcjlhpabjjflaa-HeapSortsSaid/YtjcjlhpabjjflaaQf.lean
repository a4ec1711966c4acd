/- The row of HeapSorts. -/
import Derived.Test.YtjcjlhpabjjflaaPg
import Derived.Test.YtjcjlhpabjjflaaNt
import Derived.Test.YtjcjlhpabjjflaaNs
namespace Go.Proofs.Ytjcjlhpabjjflaa
open Go Go.Proofs Go.ChangeShapes Go.WideShapes Go.ChangeAt Go.RowKit

theorem St.all (h : Heap) : St (allD h) [] h := ⟨by simp [ids], by simp, fun b o hb => ⟨hb, by simp [ids]⟩⟩
theorem St.kept {h h' : Heap} {C : List Chunk} {D : Fz} (l : Le (allD h) D) (S : St D C h') : Keep h h' where
  size := by
    rcases Nat.lt_or_ge h'.size h.size with hlt | hge
    · exfalso
      have h1 := (S.fz h'.size _ (l _ _ (show allD h h'.size = some h[h'.size] by simp [allD, hlt]))).1
      have := lt_of_get h1; omega
    · exact hge
  blk b hb _ := by
    have h1 := (S.fz b _ (l _ _ (show allD h b = some h[b] by simp [allD, hb]))).1
    rw [h1]; simp [hb]
theorem rows_ints {rows : List (List U)} (h : ∀ r ∈ rows, ShU (.i .i64 .nil) r) : ∃ l : List Int, rows = l.map eI ∧ ∀ x ∈ l, -9223372036854775808 ≤ x ∧ x ≤ 9223372036854775807 := by
  induction rows with
  | nil => exact ⟨[], rfl, by simp⟩
  | cons r rows ih =>
    obtain ⟨l, rfl, hl⟩ := ih fun r hr => h r (by simp [hr])
    obtain ⟨n, us', rfl, hw, rfl⟩ := h r (by simp)
    exact ⟨n :: l, rfl, fun x hx => by rcases List.mem_cons.1 hx with rfl | hx; exact wf64 hw; exact hl x hx⟩
set_option maxRecDepth 100000 in
theorem open_ints {H : Type} {enc : TypeId × Value → H} {W : World} {v : Value} {d : DataW H} {ps : List MemPlace} {b0 : Nat} {r : Reach}
    (hval : Value.okWide Try.prog W r b0 22 v) (h : DataW.Trod enc Try.prog W 0 (fun _ => true) true 22 v d ps) :
    ∃ (a : Option Addr) (n c : Nat) (l : List Int), v = .slice a n c ∧ Rd (allD W.heap) (.slice a n c) (.l (l.map eI)) := by
  obtain ⟨fuel, hf⟩ := h
  obtain ⟨a0, len, cap, rfl⟩ := okWide_slice Try.underlying22 hval
  obtain ⟨us, h1, -, h3⟩ := trod_rd 9 fuel 22 _ _ _ .nil (show dsOf Try.prog 9 22 .nil = some (.l (.i .i64 .nil) .nil) by kernel_rfl) hf
  obtain ⟨rows, us', e, -, hr, rfl⟩ := h3 [] rfl
  rw [List.append_nil] at e; subst e
  obtain ⟨l, rfl, -⟩ := rows_ints hr
  cases h1 with
  | cons a _ => exact ⟨a0, len, cap, l, rfl, a⟩

set_option maxRecDepth 100000 in
theorem heapSorts_lifted (os : Os) (started : os.Started) (H : Type) (enc : TypeId × Value → H) :
    ReturnsInHanded {} Try.checked os 3 .any (Rows.heapSortsSpec.pre6 enc Try.prog Try.f3 Rows.heapSortsRow.domain false) (Rows.heapSortsSpec.post enc Try.prog Try.f3 false true false false) := by
  refine returnsInHanded_of_change (C := Try.checked) Try.own started (by kernel_rfl) Try.func3
    (ChangeSpec.witness6 (enc := enc) (C := Try.checked) false ⟨#[], #[.slice none 0 0], []⟩ 8 (by kernel_rfl) (by kernel_rfl) (by kernel_rfl) (by kernel_rfl)) ?_
  intro W base args ds gs before hval0 hW hcnd _
  have hval : ∀ (j : Nat) t v, Try.f3.params[j]? = some t → args[j]? = some v → Value.okWide Try.prog W .any base t v := hval0
  have hW' := hW
  obtain ⟨p, q, hA0, hV, rfl, hfz, hnd⟩ := hW
  have hA : DataW.TrodAll enc Try.prog W 0 (fun _ => true) true Try.f3.params.toList args.toList ds p := hA0
  rw [Try.params3] at hA hval
  obtain ⟨v0, d0, rfl, rfl, h0⟩ := trodAll_one hA
  obtain ⟨rfl, rfl⟩ := trodVars_none hV
  obtain ⟨a, n, c, l, rfl, hx⟩ := open_ints (hval 0 22 v0 rfl rfl) h0
  clear hA0 hval0
  refine ((heapSorts_run (St.all W.heap) hx).2 W rfl).mono ?_
  rintro e W' ⟨v, rfl, ⟨rfl, S⟩, hsm⟩
  have hb := belowOf (St.kept (.refl _) S) hsm
  have hlt : ∀ x ∈ p, x.block < W.heap.size := fun x hx => by simpa using hW'.lt x (by simp [hx])
  exact ⟨_, rfl, _, _, _, [], _, [], hW', trodAll_mk1 (shut_bool Try.underlying4 true), trodAll_mk1 (hb.trod Try.laidOut (by kernel_rfl) (of_decide_eq_true (by kernel_rfl)) h0 hlt), rfl, hb.frame _, fun h => by cases h⟩

theorem heapSorts_holds : Rows.HeapSortsSaid :=
  OpenClaim.holds_of_wide 3 Try.f3 rfl rfl rfl rfl rfl rfl rfl ⟨rfl, rfl, rfl, rfl, rfl⟩ rfl rfl rfl rfl rfl (by kernel_rfl) Try.func3 (by kernel_rfl)
    (of_decide_eq_true (by kernel_rfl)) (by unfold Func.isWrapper; first | (rw [if_pos (by decide +kernel)]; kernel_rfl) | (rw [if_neg (by decide +kernel)]; exact ⟨rfl, rfl⟩))
    (fun os started H enc _ => heapSorts_lifted os started H enc)
end Go.Proofs.Ytjcjlhpabjjflaa
