/- What layer 7 computes: Move, New, and what must come. -/
import Derived.Test.YtjcjlhpabjjflaaPq
set_option linter.unusedVariables false
namespace Go.Proofs.Ytjcjlhpabjjflaa
open Go Go.Proofs
attribute [local irreducible] appK copyK delK updK lookK makeK rangeK nextM entryM mapEntryK entryStK lenMapK

def MoveR (B : Nat) (h : Heap) (qb mb : Nat) (a : Option Addr) (L : List Tm) (most next id at0 : Int) (v : Value) (h' : Heap) : Prop :=
  ∃ (n e : Int) (a' : Option Addr) (L' : List Tm) (next' : Int), v = .tuple #[.int .i64 n, .int .i64 e] ∧ Queue B h' qb mb a' L' most next' ∧ KB (foot qb mb a) h h' ∧ Moved h a a' ∧
    ((n = 0 ∧ e = 3 ∧ L' = L ∧ next' = next ∧ ∀ x ∈ L, x.2.1 ≠ id) ∨ ∃ t ∈ L, t.2.1 = id ∧
      if at0 < 0 then n = 0 ∧ e = 1 ∧ L' = L ∧ next' = next else if next = 1099511627776 then n = 0 ∧ e = 4 ∧ L' = L ∧ next' = next
      else n = next ∧ e = 0 ∧ next' = next + 1 ∧ ∃ L0, (t :: L0).Perm L ∧ L' = (at0, next, t.2.2) :: L0)
theorem move_spec {B : Nat} {h : Heap} {qb mb : Nat} {a : Option Addr} {L : List Tm} {most next : Int} (s : Queue B h qb mb a L most next) (hB : B ≤ h.size) (id at0 : Int) (ht : ∀ x ∈ L, x.2.1 ≠ next) (hn : L.length ≤ 100000) (hx : 0 ≤ next ∧ next < 9000000000000000000) :
    Run Try.prog 37 [.pointer (some ⟨qb, 0, none⟩), .int .i64 id, .int .i64 at0] h (MoveR B h qb mb a L most next id at0) := by
  have s' := s
  obtain ⟨c, xs, m, q, hH, hM, hp, hi⟩ := s
  have hln : xs.length = L.length := hp.length_eq
  have hmv : Moved h a a := fun x hx => .inl hx
  refine V37 _ _ _ _ _ ?_
  unfold VC37
  refine (place_spec q hM id).mono ?_
  rintro v h1 ⟨rfl, ⟨k, t, rfl, hk, he⟩ | ⟨rfl, hno⟩⟩
  · have htL : t ∈ L := hp.mem_iff.1 (List.mem_of_getElem? hk)
    refine ⟨_, _, rfl, cNe (fun h => absurd rfl h) fun _ => ?_⟩
    refine cIf (fun h0 => ⟨0, 1, a, L, next, rfl, s', .refl _ _, hmv, .inr ⟨t, htL, he, by rw [if_pos h0]; exact ⟨rfl, rfl, rfl, rfl⟩⟩⟩) fun h0 => ?_
    refine ⟨_, by rw [hcell_of q.q]; rfl, ?_⟩
    refine cEq (fun hf => ⟨0, 4, a, L, next, rfl, s', .refl _ _, hmv, .inr ⟨t, htL, he, by rw [if_neg h0, if_pos hf]; exact ⟨rfl, rfl, rfl, rfl⟩⟩⟩) fun hf => ?_
    refine (pull_spec q hH hM (ids_perm hp hi) hk (by omega)).mono ?_
    rintro v h2 ⟨rfl, L0, hQ, hP, k2⟩
    refine ⟨_, _, _, rfl, ?_⟩
    have hP2 := hP.trans hp
    have hl0 := hP2.length_eq
    simp only [List.length_cons] at hl0
    refine (numbers_spec hQ (by have := k2.size; omega) at0 t.2.2 (fun x hx => ht x (hP2.mem_iff.1 (by simp [hx]))) (by omega) hx).mono ?_
    rintro v h3 ⟨rfl, a', hQ3, k3, hmv3⟩
    refine ⟨_, rfl, next, 0, a', _, _, rfl, hQ3, k2.trans k3, fun x hx => ?_, .inr ⟨t, htL, he, by rw [if_neg h0, if_neg hf]; exact ⟨rfl, rfl, rfl, L0, hP2, rfl⟩⟩⟩
    rcases hmv3 x hx with h | h
    · exact .inl h
    · exact .inr (by have := k2.size; omega)
  · refine ⟨_, _, rfl, cNe (fun _ => ?_) fun h => absurd h (by decide)⟩
    exact ⟨0, 3, a, L, next, rfl, s', .refl _ _, hmv, .inl ⟨rfl, rfl, rfl, rfl, fun x hx => hno x (hp.mem_iff.2 hx)⟩⟩
theorem cancel_spec {B : Nat} {h : Heap} {qb mb : Nat} {a : Option Addr} {L : List Tm} {most next : Int} (s : Queue B h qb mb a L most next) (id : Int) (hn : L.length ≤ 100000) :
    Run Try.prog 40 [.pointer (some ⟨qb, 0, none⟩), .int .i64 id] h fun v h' => ∃ L', Queue B h' qb mb a L' most next ∧ KB (foot qb mb a) h h' ∧
      ((v = .int .i64 3 ∧ L' = L ∧ ∀ x ∈ L, x.2.1 ≠ id) ∨ ∃ t ∈ L, t.2.1 = id ∧ v = .int .i64 0 ∧ (t :: L').Perm L) := by
  have s' := s
  obtain ⟨c, xs, m, q, hH, hM, hp, hi⟩ := s
  have hln : xs.length = L.length := hp.length_eq
  refine V40 _ _ _ _ ?_
  unfold VC40
  refine (place_spec q hM id).mono ?_
  rintro v h1 ⟨rfl, ⟨k, t, rfl, hk, he⟩ | ⟨rfl, hno⟩⟩
  · refine ⟨_, _, rfl, cEq (fun _ => ?_) fun h => absurd rfl h⟩
    refine (pull_spec q hH hM (ids_perm hp hi) hk (by omega)).mono ?_
    rintro v h2 ⟨rfl, L0, hQ, hP, k2⟩
    exact ⟨_, _, _, rfl, L0, hQ, k2, .inr ⟨t, hp.mem_iff.1 (List.mem_of_getElem? hk), he, rfl, hP.trans hp⟩⟩
  · refine ⟨_, _, rfl, cEq (fun h => absurd h (by decide)) fun _ => ?_⟩
    exact ⟨L, s', .refl _ _, .inl ⟨rfl, rfl, fun x hx => hno x (hp.mem_iff.2 hx)⟩⟩

/- ## New -/
theorem new_spec (most : Int) (h : Heap) : Run Try.prog 11 [.int .i64 most] h fun v h' => Keep h h' ∧
    if most < 1 ∨ most > 1024 then v = .tuple #[.pointer none, .int .i64 1] else ∃ qb mb : Nat, v = .tuple #[.pointer (some ⟨qb, 0, none⟩), .int .i64 0] ∧ Queue h.size h' qb mb none [] most 1 := by
  refine V11 _ _ _ ?_
  unfold VC11
  refine V35 _ _ _ _ _ _ _ ?_
  unfold VC35
  refine cIf (fun h1 => ⟨none, 1, rfl, .refl _ _, by rw [if_pos (.inl h1)]⟩) fun h1 => ?_
  refine cIf (fun h2 => ⟨none, 1, rfl, .refl _ _, by rw [if_pos (.inr h2)]⟩) fun h2 => ?_
  refine cIf (fun h3 => by omega) fun h3 => ?_
  refine cIf (fun h4 => by omega) fun h4 => ?_
  refine cIf (fun h5 => by omega) fun h5 => ?_
  refine newB_intro fun h6 hb6 k6 s6 => newB_intro fun h7 hb7 k7 s7 => ?_
  refine ⟨fun i h8 => h8 = h7 ∧ i = 0, fun _ _ => 0, ⟨rfl, rfl⟩, ?_⟩
  rintro - h8 i ⟨rfl, rfl⟩
  refine cIf (fun hlt => by omega) fun _ => ?_
  refine ⟨_, _, rfl, k6.trans k7, ?_⟩
  rw [if_neg (by omega)]
  refine ⟨h6.size, h.size, rfl, 0, [], [], ⟨hb7, .nil _ _ _ _, MapI.keep (.made hb6) k7, k6.size, Nat.le_refl _⟩, fun i _ x y hx _ => by simp at hx, ⟨fun i x hx => by simp at hx, by simp⟩, .refl _, .nil⟩

theorem Queue.ge {B : Nat} {h : Heap} {qb mb : Nat} {a : Option Addr} {L : List Tm} {most next : Int} (s : Queue B h qb mb a L most next) : ∀ x ∈ foot qb mb a, B ≤ x := by
  obtain ⟨c, xs, m, q, -⟩ := s
  intro x hx
  simp only [foot, List.mem_cons] at hx
  rcases hx with rfl | rfl | hx
  · exact q.hq
  · exact q.hm
  · exact OwnS.ge q.row x hx
theorem awake7_spec (h : Heap) : Run Try.prog 15 [] h fun v h' => v = .bool true ∧ Keep h h' := by
  refine V15 _ _ ?_
  unfold VC15
  refine (new_spec 4 h).mono ?_
  rintro v h1 ⟨k1, hv⟩
  rw [if_neg (by omega)] at hv
  obtain ⟨qb, mb, rfl, hQ⟩ := hv
  refine ⟨_, _, rfl, cNe (fun h => absurd rfl h) fun _ => ?_⟩
  refine cB (fun h => nomatch h) fun _ => ?_
  have hB1 := k1.size
  refine (insert_spec hQ hB1 5 50 (by simp) (by simp) (by omega)).mono ?_
  rintro v h2 ⟨n2, e2, a2, L2, x2, rfl, hQ2, k2, mv2, hc2⟩
  rw [if_neg (by omega), if_neg (by simp)] at hc2
  obtain ⟨rfl, rfl, rfl, rfl⟩ := hc2
  refine ⟨_, _, rfl, ?_⟩
  have hB2 : h.size ≤ h2.size := Nat.le_trans hB1 k2.size
  refine (insert_spec hQ2 hB2 3 30 (by simp) (by simp) (by omega)).mono ?_
  rintro v h3 ⟨n3, e3, a3, L3, x3, rfl, hQ3, k3, mv3, hc3⟩
  rw [if_neg (by omega), if_neg (by simp)] at hc3
  obtain ⟨rfl, rfl, rfl, rfl⟩ := hc3
  refine ⟨_, _, rfl, ?_⟩
  have hB3 : h.size ≤ h3.size := Nat.le_trans hB2 k3.size
  refine (move_spec hQ3 hB3 1 4 (by simp) (by simp) (by omega)).mono ?_
  rintro v h4 ⟨n4, e4, a4, L4, x4, rfl, hQ4, k4, mv4, hc4⟩
  rcases hc4 with ⟨-, -, -, -, hno⟩ | ⟨t, htm, hti, hc4⟩
  · exact absurd rfl (hno (5, 1, 50) (by simp))
  rw [if_neg (by omega), if_neg (by omega)] at hc4
  obtain ⟨rfl, rfl, rfl, L0, hP0, rfl⟩ := hc4
  have htt : t = (5, 1, 50) := by
    simp at htm
    rcases htm with rfl | rfl
    · simp at hti
    · rfl
  subst htt
  have hL0 : L0 = [(3, 2, 30)] := by
    have h1 : ((5, 1, 50) :: L0).Perm ((5, 1, 50) :: [(3, 2, 30)]) := hP0.trans (List.Perm.swap _ _ _)
    exact List.perm_singleton.1 (List.Perm.cons_inv h1)
  subst hL0
  refine ⟨_, _, rfl, ?_⟩
  refine (pop_spec hQ4 (by simp) 9).mono ?_
  rintro v h5 ⟨t5, b5, L5, rfl, hQ5, k5, hc5⟩
  have K1 := ((KB.of_keep k1).trans k2).keep hQ.ge
  have K2 := ((KB.of_keep K1).trans k3).keep hQ2.ge
  have K3 := ((KB.of_keep K2).trans k4).keep hQ3.ge
  have K4 := ((KB.of_keep K3).trans k5).keep hQ4.ge
  rcases hc5 with ⟨-, -, -, hno⟩ | ⟨rfl, hP5, -, hmin⟩
  · have := hno (3, 2, 30) (by simp); simp at this
  have ht5 : t5 = (3, 2, 30) := by
    have hm : t5 ∈ [((4 : Int), (3 : Int), (50 : Int)), (3, 2, 30)] := hP5.mem_iff.1 (by simp)
    simp at hm
    rcases hm with rfl | rfl
    · have := hmin (3, 2, 30) (by simp); unfold leT at this; simp at this
    · rfl
  subst ht5
  have hL5 : L5 = [(4, 3, 50)] := by
    have h1 : ((3, 2, 30) :: L5).Perm ((3, 2, 30) :: [((4 : Int), (3 : Int), (50 : Int))]) := hP5.trans (List.Perm.swap _ _ _)
    exact List.perm_singleton.1 (List.Perm.cons_inv h1)
  subst hL5
  refine ⟨_, _, _, _, rfl, newB_intro fun h6 hb6 k6 s6 => ?_⟩
  refine storeS_blk (l := [.int .i64 0, .int .i64 0, .int .i64 0]) hb6 (by simp) (encT_single (3, 2, 30)) fun h7 hb7 k7 s7 => ?_
  have hb7' : h7[h5.size]? = some (.cells #[.int .i64 3, .int .i64 2, .int .i64 30] 30 (0, 0)) := by simpa [splice] using hb7
  have k57 : Keep h5 h7 := ((KB.of_keep k6).trans k7).keep (by simp)
  obtain ⟨c7, xs7, m7, q7, hH7, hM7, hp7, hi7⟩ := hQ5.keep k57
  have hx7 : xs7 = [(4, 3, 50)] := List.perm_singleton.1 hp7
  subst hx7
  refine (first_spec q7).mono ?_
  rintro v h8 ⟨k8, t8, b8, rfl, ⟨hx, -, -⟩ | ⟨rfl, h0⟩⟩
  · simp at hx
  simp at h0
  subst h0
  refine ⟨_, _, _, _, rfl, newB_intro fun h9 hb9 k9 s9 => ?_⟩
  refine storeS_blk (l := [.int .i64 0, .int .i64 0, .int .i64 0]) hb9 (by simp) (encT_single (4, 3, 50)) fun h10 hb10 k10 s10 => ?_
  have hb10' : h10[h8.size]? = some (.cells #[.int .i64 4, .int .i64 3, .int .i64 50] 30 (0, 0)) := by simpa [splice] using hb10
  have k810 : Keep h8 h10 := ((KB.of_keep k9).trans k10).keep (by simp)
  have e7 : h10[h5.size]? = _ := k810.get (k8.get hb7' (by simp)) (by simp)
  have Q10 : Queue h.size h10 qb mb a4 [(4, 3, 50)] 4 (1 + 1 + 1 + 1) := (hQ5.keep k57).keep (k8.trans k810)
  refine cEq (fun _ => ?_) (fun h => absurd rfl h)
  refine cEq (fun _ => ?_) (fun h => absurd rfl h)
  refine cEq (fun _ => ?_) (fun h => absurd rfl h)
  refine cEq (fun _ => ?_) (fun h => absurd rfl h)
  refine ⟨_, by rw [hcell_of e7]; rfl, _, by rw [hcell_of e7]; rfl, _, by rw [hcell_of e7]; rfl, ?_⟩
  refine cB (fun _ => ?_) fun h => absurd h (by decide)
  refine cB (fun _ => ?_) fun h => nomatch h
  refine ⟨_, by rw [hcell_of hb10']; rfl, _, by rw [hcell_of hb10']; rfl, _, by rw [hcell_of hb10']; rfl, ?_⟩
  refine cB (fun _ => ?_) fun h => absurd h (by decide)
  refine cB (fun _ => ?_) fun h => nomatch h
  refine (len_spec Q10).mono ?_
  rintro v h11 ⟨rfl, rfl⟩
  refine ⟨_, rfl, cEq (fun _ => ?_) (fun h => absurd rfl h)⟩
  refine (next_spec7 Q10).mono ?_
  rintro v h12 ⟨rfl, rfl⟩
  exact ⟨_, rfl, rfl, (K4.trans k57).trans (k8.trans k810)⟩
end Go.Proofs.Ytjcjlhpabjjflaa
