/- The law HeapNobody, over the heap: what a queue that nobody made answers. -/
import Derived.Test.YtjcjlhpabjjflaaPr
set_option linter.unusedVariables false
namespace Go.Proofs.Ytjcjlhpabjjflaa
open Go Go.Proofs
attribute [local irreducible] appK copyK delK updK lookK makeK rangeK nextM entryM mapEntryK entryStK lenMapK

/-- Nobody made it: nil, or a struct of zeros. -/
def NG (h : Heap) (q : Option Addr) : Prop := q = none ∨ ∃ b, q = some ⟨b, 0, none⟩ ∧ h[b]? = some (.cells #[.slice none 0 0, .map none, .int .i64 0, .int .i64 0] 65 (0, 0))
theorem NG.keep {h h' : Heap} {q : Option Addr} (s : NG h q) (k : Keep h h') : NG h' q := by
  rcases s with rfl | ⟨b, rfl, hb⟩
  · exact .inl rfl
  · exact .inr ⟨b, rfl, k.get hb (by simp)⟩
theorem ngGiven {h : Heap} {q : Option Addr} (s : NG h q) : Run Try.prog 43 [.pointer q] h fun v h' => v = .bool false ∧ h' = h := by
  refine V43 _ _ _ ?_
  unfold VC43
  rcases s with rfl | ⟨b, rfl, hb⟩
  · exact cNot (cB (fun _ => ⟨rfl, rfl⟩) fun h => nomatch h)
  · refine cNot (cB (fun h => nomatch h) fun _ => ?_)
    exact ⟨none, by rw [hcell_of hb]; rfl, rfl, rfl⟩
theorem ngInsert {h : Heap} {q : Option Addr} (s : NG h q) (a b : Int) : Run Try.prog 12 [.pointer q, .int .i64 a, .int .i64 b] h fun v h' => v = .tuple #[.int .i64 0, .int .i64 1] ∧ h' = h := by
  refine V12 _ _ _ _ _ ?_
  unfold VC12
  refine (ngGiven s).mono ?_
  rintro v h1 ⟨rfl, rfl⟩
  exact ⟨_, rfl, cNot (cB (fun h => nomatch h) fun _ => ⟨rfl, rfl⟩)⟩
theorem ngPlace {h : Heap} {q : Option Addr} (s : NG h q) (a : Int) : Run Try.prog 60 [.pointer q, .int .i64 a] h fun v h' => v = .tuple #[.int .i64 0, .int .i64 1] ∧ h' = h := by
  refine V60 _ _ _ _ ?_
  unfold VC60
  refine (ngGiven s).mono ?_
  rintro v h1 ⟨rfl, rfl⟩
  exact ⟨_, rfl, cNot (cB (fun h => nomatch h) fun _ => ⟨rfl, rfl⟩)⟩
theorem ngMove {h : Heap} {q : Option Addr} (s : NG h q) (a b : Int) : Run Try.prog 37 [.pointer q, .int .i64 a, .int .i64 b] h fun v h' => v = .tuple #[.int .i64 0, .int .i64 1] ∧ h' = h := by
  refine V37 _ _ _ _ _ ?_
  unfold VC37
  refine (ngPlace s a).mono ?_
  rintro v h1 ⟨rfl, rfl⟩
  exact ⟨_, _, rfl, cNe (fun _ => ⟨rfl, rfl⟩) fun h => absurd h (by decide)⟩
theorem ngCancel {h : Heap} {q : Option Addr} (s : NG h q) (a : Int) : Run Try.prog 40 [.pointer q, .int .i64 a] h fun v h' => v = .int .i64 1 ∧ h' = h := by
  refine V40 _ _ _ _ ?_
  unfold VC40
  refine (ngPlace s a).mono ?_
  rintro v h1 ⟨rfl, rfl⟩
  exact ⟨_, _, rfl, cEq (fun h => absurd h (by decide)) fun _ => ⟨rfl, rfl⟩⟩
theorem ngList {h : Heap} {q : Option Addr} (s : NG h q) : Run Try.prog 41 [.pointer q] h fun v h' => v = .slice none 0 0 ∧ h' = h := by
  refine V41 _ _ _ ?_
  unfold VC41
  refine (ngGiven s).mono ?_
  rintro v h1 ⟨rfl, rfl⟩
  exact ⟨_, rfl, cNot (cB (fun h => nomatch h) fun _ => ⟨rfl, rfl⟩)⟩
theorem ngLen {h : Heap} {q : Option Addr} (s : NG h q) : Run Try.prog 14 [.pointer q] h fun v h' => v = .int .i64 0 ∧ h' = h := by
  refine V14 _ _ _ ?_
  unfold VC14
  refine (ngGiven s).mono ?_
  rintro v h1 ⟨rfl, rfl⟩
  exact ⟨_, rfl, cNot (cB (fun h => nomatch h) fun _ => ⟨rfl, rfl⟩)⟩
theorem ngNext {h : Heap} {q : Option Addr} (s : NG h q) : Run Try.prog 42 [.pointer q] h fun v h' => v = .int .i64 0 ∧ h' = h := by
  refine V42 _ _ _ ?_
  unfold VC42
  refine (ngGiven s).mono ?_
  rintro v h1 ⟨rfl, rfl⟩
  exact ⟨_, rfl, cNot (cB (fun h => nomatch h) fun _ => ⟨rfl, rfl⟩)⟩
def NoT (h : Heap) (v : Value) (h' : Heap) : Prop := Keep h h' ∧ v = .tuple #[.agg #[.int .i64 0, .int .i64 0, .int .i64 0], .bool false]
theorem ngFirst {h : Heap} {q : Option Addr} (s : NG h q) : Run Try.prog 38 [.pointer q] h (NoT h) := by
  refine V38 _ _ _ ?_
  unfold VC38
  refine newB_intro fun h1 hb1 k1 s1 => (ngGiven (s.keep k1)).mono ?_
  rintro v h2 ⟨rfl, rfl⟩
  refine ⟨_, rfl, cNot (cB (fun h => nomatch h) fun _ => ?_)⟩
  exact ret3 (t := (0, 0, 0)) (R := fun v h' => NoT h (.tuple #[v, .bool false]) h') hb1 rfl fun h' k => ⟨((KB.of_keep k1).trans k).keep (by simp), rfl⟩
theorem ngGet {h : Heap} {q : Option Addr} (s : NG h q) (a : Int) : Run Try.prog 39 [.pointer q, .int .i64 a] h (NoT h) := by
  refine V39 _ _ _ _ ?_
  unfold VC39
  refine newB_intro fun h1 hb1 k1 s1 => (ngPlace (s.keep k1) a).mono ?_
  rintro v h2 ⟨rfl, rfl⟩
  refine ⟨_, _, rfl, cNe (fun _ => ?_) fun h => absurd h (by decide)⟩
  exact ret3 (t := (0, 0, 0)) (R := fun v h' => NoT h (.tuple #[v, .bool false]) h') hb1 rfl fun h' k => ⟨((KB.of_keep k1).trans k).keep (by simp), rfl⟩
theorem ngPop {h : Heap} {q : Option Addr} (s : NG h q) (a : Int) : Run Try.prog 13 [.pointer q, .int .i64 a] h (NoT h) := by
  refine V13 _ _ _ _ ?_
  unfold VC13
  refine newB_intro fun h1 hb1 k1 s1 => (ngFirst (s.keep k1)).mono ?_
  rintro v h2 ⟨k2, rfl⟩
  refine ⟨_, _, _, _, rfl, newB_intro fun h3 hb3 k3 s3 => ?_⟩
  refine storeS_blk (l := [.int .i64 0, .int .i64 0, .int .i64 0]) hb3 (by simp) (encT_single (0, 0, 0)) fun h4 hb4 k4 s4 => ?_
  have k24 : Keep h2 h4 := ((KB.of_keep k3).trans k4).keep (by simp)
  have k14 := k2.trans k24
  refine cNot (cB (fun h => nomatch h) fun _ => ?_)
  exact ret3 (t := (0, 0, 0)) (R := fun v h' => NoT h (.tuple #[v, .bool false]) h') (k14.get hb1 (by simp)) rfl fun h' k => ⟨((KB.of_keep (k1.trans k14)).trans k).keep (by simp), rfl⟩

theorem heapNobody_run (a b : Int) (h : Heap) : Run Try.prog 10 [.int .i64 a, .int .i64 b] h fun v h' => v = .bool true ∧ Keep h h' := by
  refine V10 _ _ _ _ ?_
  unfold VC10
  refine newB_intro fun h1 hb1 k1 s1 => newB_intro fun h2 hb2 k2 s2 => ?_
  refine ⟨fun x h3 => Keep h2 h3 ∧ (x = 0 ∨ x = 1 ∨ x = 2), fun x _ => 2 - x.toNat, ⟨.refl _ _, .inl rfl⟩, ?_⟩
  rintro - h3 x ⟨k3, hx⟩
  have hb2' := k3.get hb2 (by simp)
  have hb1' := (k2.trans k3).get hb1 (by simp)
  refine cIf (fun hlt => ?_) (fun hge => ?_)
  · have hxx : x = 0 ∨ x = 1 := by omega
    obtain ⟨p, hp, hng⟩ : ∃ p : Option Addr, hcell h3 ⟨h1.size, 0 + Int.toNat x * 1, none⟩ = some (.pointer p) ∧ NG h3 p := by
      rcases hxx with rfl | rfl
      · exact ⟨none, by rw [hcell_of hb2']; rfl, .inl rfl⟩
      · exact ⟨some ⟨h.size, 0, none⟩, by rw [hcell_of hb2']; rfl, .inr ⟨_, rfl, hb1'⟩⟩
    refine ⟨by omega, by omega, p, hp, (ngInsert hng a b).mono ?_⟩
    rintro v h4 ⟨rfl, rfl⟩
    refine ⟨_, _, rfl, (ngMove hng a b).mono ?_⟩
    rintro v h5 ⟨rfl, rfl⟩
    refine ⟨_, _, rfl, (ngPop hng a).mono ?_⟩
    rintro v h6 ⟨k6, rfl⟩
    refine ⟨_, _, _, _, rfl, newB_intro fun h7 hb7 k7 s7 => ?_⟩
    refine storeS_blk (l := [.int .i64 0, .int .i64 0, .int .i64 0]) hb7 (by simp) (encT_single (0, 0, 0)) fun h8 hb8 k8 s8 => ?_
    have K8 : Keep h5 h8 := k6.trans (((KB.of_keep k7).trans k8).keep (by simp))
    refine (ngFirst (hng.keep K8)).mono ?_
    rintro v h9 ⟨k9, rfl⟩
    refine ⟨_, _, _, _, rfl, newB_intro fun h10 hb10 k10 s10 => ?_⟩
    refine storeS_blk (l := [.int .i64 0, .int .i64 0, .int .i64 0]) hb10 (by simp) (encT_single (0, 0, 0)) fun h11 hb11 k11 s11 => ?_
    have K11 : Keep h5 h11 := K8.trans (k9.trans (((KB.of_keep k10).trans k11).keep (by simp)))
    refine (ngGet (hng.keep K11) a).mono ?_
    rintro v h12 ⟨k12, rfl⟩
    refine ⟨_, _, _, _, rfl, newB_intro fun h13 hb13 k13 s13 => ?_⟩
    refine storeS_blk (l := [.int .i64 0, .int .i64 0, .int .i64 0]) hb13 (by simp) (encT_single (0, 0, 0)) fun h14 hb14 k14 s14 => ?_
    have K14 : Keep h5 h14 := K11.trans (k12.trans (((KB.of_keep k13).trans k14).keep (by simp)))
    have hng' := hng.keep K14
    refine cNe (fun h => absurd rfl h) fun _ => ?_
    refine cNe (fun h => absurd rfl h) fun _ => ?_
    refine cNe (fun h => absurd rfl h) fun _ => ?_
    refine cNe (fun h => absurd rfl h) fun _ => ?_
    refine cB (fun h => nomatch h) fun _ => ?_
    refine cB (fun h => nomatch h) fun _ => ?_
    refine cB (fun h => nomatch h) fun _ => ?_
    refine (ngCancel hng' a).mono ?_
    rintro v h15 ⟨rfl, rfl⟩
    refine ⟨_, rfl, cNe (fun h => absurd rfl h) fun _ => ?_⟩
    refine (ngList hng').mono ?_
    rintro v h16 ⟨rfl, rfl⟩
    refine ⟨_, _, _, rfl, cIf (fun h => absurd h (by decide)) fun _ => ?_⟩
    refine (ngLen hng').mono ?_
    rintro v h17 ⟨rfl, rfl⟩
    refine ⟨_, rfl, cNe (fun h => absurd rfl h) fun _ => ?_⟩
    refine (ngNext hng').mono ?_
    rintro v h18 ⟨rfl, rfl⟩
    refine ⟨_, rfl, cNe (fun h => absurd rfl h) fun _ => ?_⟩
    rw [w64 (by omega) (by omega)]
    exact ⟨⟨k3.trans K14, by omega⟩, by show 2 - (x + 1).toNat < 2 - x.toNat; omega⟩
  · refine (awake7_spec h3).mono ?_
    rintro v h4 ⟨rfl, k4⟩
    exact ⟨_, rfl, rfl, ((k1.trans k2).trans k3).trans k4⟩
end Go.Proofs.Ytjcjlhpabjjflaa
