/- What layer 7 computes: compare; a queue in memory; set. -/
import Derived.Test.YtjcjlhpabjjflaaEh
import Derived.Test.YtjcjlhpabjjflaaPk
import Derived.Test.YtjcjlhpabjjflaaPd
import Derived.Test.YtjcjlhpabjjflaaV2
import Derived.Test.YtjcjlhpabjjflaaV4
set_option linter.unusedVariables false
namespace Go.Proofs.Ytjcjlhpabjjflaa
open Go Go.Proofs
attribute [local irreducible] appK copyK delK updK lookK makeK rangeK nextM entryM mapEntryK entryStK lenMapK

def encT (x : Tm) : List Value := [.int .i64 x.1, .int .i64 x.2.1, .int .i64 x.2.2]
theorem encT_len (x : Tm) : (encT x).length = 3 := rfl
theorem encT_single (x : Tm) : ∀ v ∈ encT x, single v = true := by
  intro v hv; simp [encT] at hv; rcases hv with rfl | rfl | rfl <;> rfl

/- ## compare -/
theorem isNaN_spec (x : Int) (h : Heap) : Run Try.prog 86 [.int .i64 x] h fun v h' => v = .bool false ∧ h' = h := by
  refine V86 _ _ _ ?_
  unfold VC86
  exact ⟨by simp, rfl⟩
theorem cmpInt_spec (x y : Int) (h : Heap) : Run Try.prog 80 [.int .i64 x, .int .i64 y] h fun v h' => v = .int .i64 (if x < y then -1 else if x > y then 1 else 0) ∧ h' = h := by
  refine V80 _ _ _ _ ?_
  unfold VC80
  refine (isNaN_spec x h).mono ?_
  rintro v h1 ⟨rfl, rfl⟩
  refine ⟨_, rfl, (isNaN_spec y h1).mono ?_⟩
  rintro v h2 ⟨rfl, rfl⟩
  refine ⟨_, rfl, ?_⟩
  refine cB (fun h => nomatch h) fun _ => ?_
  refine cB (fun h => nomatch h) fun _ => ?_
  refine cIf (fun hl => ⟨by rw [if_pos hl], rfl⟩) fun hl => ?_
  refine cIf (fun hg => ⟨by rw [if_neg hl, if_pos hg], rfl⟩) fun hg => ⟨by rw [if_neg hl, if_neg hg], rfl⟩
theorem or_spec {h : Heap} {b : Nat} {x y : Int} (hb : h[b]? = some (.cells #[.int .i64 x, .int .i64 y] 3 (0, 0))) :
    Run Try.prog 79 [.slice (some ⟨b, 0, none⟩) 2 2] h fun v h' => v = .int .i64 (if x ≠ 0 then x else y) ∧ h' = h := by
  refine V79 _ _ _ _ _ ?_
  unfold VC79
  refine ⟨fun i h1 => h1 = h ∧ (i = 0 ∨ (i = 1 ∧ x = 0) ∨ (i = 2 ∧ x = 0 ∧ y = 0)), fun i _ => 2 - i.toNat, ⟨rfl, .inl rfl⟩, ?_⟩
  rintro - h1 i ⟨rfl, hi⟩
  refine cIf (fun hlt => ?_) (fun hge => ?_)
  · rcases hi with rfl | ⟨rfl, hx⟩ | ⟨rfl, -⟩
    · refine ⟨by omega, by omega, x, by rw [hcell_of hb]; rfl, ?_⟩
      refine cNe (fun hne => ⟨by rw [if_pos hne], rfl⟩) fun he => ?_
      exact ⟨⟨rfl, .inr (.inl ⟨rfl, he⟩)⟩, by show 2 - (IntKind.wrap .i64 (0 + 1)).toNat < 2 - Int.toNat 0; decide⟩
    · refine ⟨by omega, by omega, y, by rw [hcell_of hb]; rfl, ?_⟩
      refine cNe (fun hne => ⟨by rw [if_neg (by omega)], rfl⟩) fun he => ?_
      exact ⟨⟨rfl, .inr (.inr ⟨rfl, hx, he⟩)⟩, by show 2 - (IntKind.wrap .i64 (1 + 1)).toNat < 2 - Int.toNat 1; decide⟩
    · omega
  · rcases hi with rfl | ⟨rfl, hx⟩ | ⟨rfl, hx, hy⟩
    · omega
    · omega
    · exact ⟨by rw [if_neg (by omega), hy], rfl⟩
theorem compare_spec (a b : Tm) (h : Heap) : Run Try.prog 63 [.agg #[.int .i64 a.1, .int .i64 a.2.1, .int .i64 a.2.2], .agg #[.int .i64 b.1, .int .i64 b.2.1, .int .i64 b.2.2]] h
    fun v h' => Keep h h' ∧ ∃ x : Int, v = .int .i64 x ∧ (x > 0 ↔ ¬ leT a b) ∧ (x < 0 ↔ ¬ leT b a) := by
  refine V63 _ _ _ _ _ _ _ _ ?_
  unfold VC63
  refine newB_intro fun h1 hb1 k1 s1 => newB_intro fun h2 hb2 k2 s2 => ?_
  have hb1' : h2[h.size]? = _ := k2.get hb1 (by simp)
  refine ⟨_, by rw [hcell_of hb1']; rfl, _, by rw [hcell_of hb2]; rfl, _, by rw [hcell_of hb1']; rfl, _, by rw [hcell_of hb2]; rfl, ?_⟩
  refine (cmpInt_spec _ _ _).mono ?_
  rintro v h3 ⟨rfl, rfl⟩
  refine ⟨_, rfl, ⟨_, by rw [hcell_of hb2]; rfl, rfl⟩, ⟨_, by rw [hcell_of hb1']; rfl, rfl⟩, ?_⟩
  refine (cmpInt_spec _ _ _).mono ?_
  rintro v h4 ⟨rfl, rfl⟩
  refine ⟨_, rfl, newB_intro fun h5 hb5 k5 s5 => ?_⟩
  refine (or_spec hb5).mono ?_
  rintro v h6 ⟨rfl, rfl⟩
  refine ⟨_, rfl, (k1.trans k2).trans k5, _, rfl, ?_, ?_⟩
  · unfold leT
    split <;> split <;> (try split) <;> (try split) <;> omega
  · unfold leT
    split <;> split <;> (try split) <;> (try split) <;> omega

/- ## Rows of timers -/
theorem flat_put {α : Type} {enc : α → List Value} {sz : Nat} (he : ∀ x, (enc x).length = sz) : ∀ (xs : List α) (i t : Nat) (x : α) (v : Value), xs[i]? = some x → (enc x)[t]? = some v → (xs.flatMap enc)[i * sz + t]? = some v
  | [], i, t, x, v, h, _ => by simp at h
  | y :: xs, i, t, x, v, h, hv => by
    rw [List.flatMap_cons]
    cases i with
    | zero =>
      simp at h; subst h
      have hj := (List.getElem?_eq_some_iff.1 hv).1
      rw [Nat.zero_mul, Nat.zero_add, List.getElem?_append_left hj]
      exact hv
    | succ i =>
      rw [List.getElem?_append_right (by rw [he]; rw [Nat.succ_mul]; omega)]
      rw [he, show (i + 1) * sz + t - sz = i * sz + t by rw [Nat.succ_mul]; omega]
      exact flat_put he xs i t x v (by simpa using h) hv
/-- An own row that reads as xs. -/
abbrev OwnT (B : Nat) (h : Heap) (a : Option Addr) (c : Nat) (xs : List Tm) : Prop := OwnS B 30 3 h a xs.length c (xs.flatMap encT)
theorem OwnT.get {B : Nat} {h : Heap} {a : Option Addr} {c : Nat} {xs : List Tm} (s : OwnT B h a c xs) {k : Nat} {x : Tm} (hx : xs[k]? = some x) :
    ∃ b, a = some ⟨b, 0, none⟩ ∧ b ∈ ownB a ∧ hcell h ⟨b, 0 + k * 3, none⟩ = some (.int .i64 x.1) ∧ hcell h ⟨b, 0 + k * 3 + 1, none⟩ = some (.int .i64 x.2.1) ∧ hcell h ⟨b, 0 + k * 3 + 2, none⟩ = some (.int .i64 x.2.2) := by
  rcases s with ⟨-, hn, -⟩ | ⟨b, l, rfl, h1, h2, h3, h4, h5, h6⟩
  · have := (List.getElem?_eq_some_iff.1 hx).1; omega
  · refine ⟨b, rfl, by simp [ownB], ?_, ?_, ?_⟩
    · rw [hcell_of h2]; exact h6 _ _ (by rw [Nat.zero_add]; exact flat_put encT_len xs k 0 x _ hx rfl)
    · rw [hcell_of h2]; exact h6 _ _ (by rw [Nat.zero_add]; exact flat_put encT_len xs k 1 x _ hx rfl)
    · rw [hcell_of h2]; exact h6 _ _ (by rw [Nat.zero_add]; exact flat_put encT_len xs k 2 x _ hx rfl)
theorem OwnT.put {B : Nat} {h : Heap} {b c : Nat} {xs : List Tm} (s : OwnT B h (some ⟨b, 0, none⟩) c xs) {k : Nat} (hk : k < xs.length) (t : Tm) {K : Heap → Prop}
    (hK : ∀ h' : Heap, OwnT B h' (some ⟨b, 0, none⟩) c (xs.set k t) → KB [b] h h' → h'.size = h.size → K h') : storeS b (0 + k * 3) [.int .i64 t.1, .int .i64 t.2.1, .int .i64 t.2.2] 0 h K := by
  rcases s with ⟨h, -⟩ | ⟨b', l, e, h1, h2, h3, h4, h5, h6⟩
  · cases h
  cases e
  have hle : 0 + k * 3 + 0 + (encT t).length ≤ l.toList.length := by
    rw [encT_len, Array.length_toList, h3]
    omega
  refine storeS_blk (l := l.toList) (by simpa using h2) hle (encT_single t) fun h' hb' k' s' => ?_
  refine hK h' (.inr ⟨b, _, rfl, h1, hb', ?_, by simpa using h4, ?_, ?_⟩) k' s'
  · simp [splice_length, h3]
  · rw [flat_len encT_len]
  · intro j v hv
    obtain ⟨i, q, x, g1, g2, rfl⟩ := flat_get encT_len _ j v hv
    have hq : q < 3 := by have := (List.getElem?_eq_some_iff.1 g2).1; rwa [encT_len] at this
    simp only [List.getElem?_toArray]
    show (splice l.toList (0 + k * 3 + 0) (encT t))[i * 3 + q]? = some v
    rw [splice_get _ _ _ _ hle, encT_len]
    by_cases hik : i = k
    · subst hik
      rw [List.getElem?_set_self hk] at g1
      cases g1
      rw [if_neg (by omega), if_pos (by omega)]
      rw [show i * 3 + q - (0 + i * 3 + 0) = q by omega]
      exact g2
    · rw [List.getElem?_set_ne (Ne.symm hik)] at g1
      have hl : l.toList[i * 3 + q]? = some v := by
        have := h6 _ _ (flat_put encT_len xs i q x v g1 g2)
        simpa using this
      by_cases hlt : i * 3 + q < 0 + k * 3 + 0
      · rw [if_pos hlt]; exact hl
      · rw [if_neg hlt, if_neg (by omega)]; exact hl

/- ## A queue in memory -/
structure QB (B : Nat) (h : Heap) (qb mb : Nat) (a : Option Addr) (c : Nat) (xs : List Tm) (m : List Stk) (most next : Int) : Prop where
  q : h[qb]? = some (.cells #[.slice a xs.length c, .map (some mb), .int .i64 most, .int .i64 next] 65 (0, 0))
  row : OwnT B h a c xs
  map : MapI h mb (MV m)
  hq : B ≤ qb
  hm : B ≤ mb
/-- The blocks of a queue. -/
def foot (qb mb : Nat) (a : Option Addr) : List Nat := qb :: mb :: ownB a
theorem QB.kb {F : List Nat} {B : Nat} {h h' : Heap} {qb mb : Nat} {a : Option Addr} {c : Nat} {xs : List Tm} {m : List Stk} {most next : Int} (s : QB B h qb mb a c xs m most next) (k : KB F h h') (hd : ∀ b ∈ foot qb mb a, b ∉ F) : QB B h' qb mb a c xs m most next where
  q := k.get s.q (hd _ (by simp [foot]))
  row := s.row.kb k fun b o e => hd b (by subst e; simp [foot, ownB])
  map := s.map.kb k (hd _ (by simp [foot]))
  hq := s.hq
  hm := s.hm
theorem QB.keep {B : Nat} {h h' : Heap} {qb mb : Nat} {a : Option Addr} {c : Nat} {xs : List Tm} {m : List Stk} {most next : Int} (s : QB B h qb mb a c xs m most next) (k : Keep h h') : QB B h' qb mb a c xs m most next := s.kb k (by simp)
theorem QB.ne {B : Nat} {h : Heap} {qb mb : Nat} {a : Option Addr} {c : Nat} {xs : List Tm} {m : List Stk} {most next : Int} (s : QB B h qb mb a c xs m most next) : qb ≠ mb ∧ qb ∉ ownB a ∧ mb ∉ ownB a := by
  obtain ⟨es, clk, hb, -⟩ := s.map
  refine ⟨fun e => ?_, fun hq => ?_, fun hq => ?_⟩
  · subst e; have := s.q; rw [hb] at this; cases this
  · rcases s.row with ⟨rfl, -⟩ | ⟨b, l, rfl, h1, h2, -⟩
    · simp [ownB] at hq
    · simp [ownB] at hq; subst hq; have := s.q; rw [h2] at this; cases this
  · rcases s.row with ⟨rfl, -⟩ | ⟨b, l, rfl, h1, h2, -⟩
    · simp [ownB] at hq
    · simp [ownB] at hq; subst hq; rw [h2] at hb; cases hb
theorem set_spec {B : Nat} {h : Heap} {qb mb : Nat} {a : Option Addr} {c : Nat} {xs : List Tm} {m : List Stk} {most next : Int} (s : QB B h qb mb a c xs m most next) {k : Nat} (hk : k < xs.length) (t : Tm) :
    Run Try.prog 64 [.pointer (some ⟨qb, 0, none⟩), .int .i64 (k : Int), .agg #[.int .i64 t.1, .int .i64 t.2.1, .int .i64 t.2.2]] h
      fun v h' => v = .tuple #[] ∧ QB B h' qb mb a c (xs.set k t) (cSet m t.2.1 k) most next ∧ KB (foot qb mb a) h h' := by
  refine V64 _ _ _ _ _ _ _ ?_
  unfold VC64
  refine newB_intro fun h1 hb1 k1 s1 => ?_
  have q1 := s.keep k1
  obtain ⟨hne1, hne2, hne3⟩ := q1.ne
  refine ⟨_, _, _, by rw [hcell_of q1.q]; rfl, _, by rw [hcell_of hb1]; rfl, _, by rw [hcell_of hb1]; rfl, _, by rw [hcell_of hb1]; rfl, ?_⟩
  obtain ⟨b, rfl, hbo, -⟩ := OwnT.get q1.row (k := k) (x := xs[k]) (by simp)
  refine ⟨by omega, by omega, ?_⟩
  rw [Int.toNat_natCast]
  refine OwnT.put q1.row hk t fun h2 row2 k2 s2 => ?_
  have hb1s : h.size ≠ b := fun e => by
    rcases s.row with ⟨e', -⟩ | ⟨b', l, e', -, h2', -⟩
    · cases e'
    · cases e'; have := lt_of_get h2'; omega
  refine ⟨some mb, ?_, t.2.1, ?_, ?_⟩
  · have := k2.get q1.q (fun hm => hne2 (by simpa [ownB] using hm))
    rw [hcell_of this]; rfl
  · rw [hcell_of (k2.get hb1 (by simpa using hb1s))]; rfl
  refine updM (c := m) (q1.map.kb k2 fun hm => hne3 (by simpa [ownB] using hm)) fun h3 hm3 k3 s3 => ?_
  refine ⟨rfl, ⟨?_, ?_, hm3, q1.hq, q1.hm⟩, ?_⟩
  · rw [List.length_set]
    exact k3.get (k2.get q1.q (fun hm => hne2 (by simpa [ownB] using hm))) (by simpa using hne1)
  · exact row2.kb k3 fun b' o e => by cases e; intro hm; exact hne3 (by simp at hm; simp [ownB, hm])
  · refine ((KB.of_keep k1).trans ((k2.mono ?_).trans (k3.mono ?_)))
    · intro x hx _; simp at hx; subst hx; simp [foot, ownB]
    · intro x hx _; simp at hx; subst hx; simp [foot]
theorem given_spec {B : Nat} {h : Heap} {qb mb : Nat} {a : Option Addr} {c : Nat} {xs : List Tm} {m : List Stk} {most next : Int} (s : QB B h qb mb a c xs m most next) :
    Run Try.prog 43 [.pointer (some ⟨qb, 0, none⟩)] h fun v h' => v = .bool true ∧ h' = h := by
  refine V43 _ _ _ ?_
  unfold VC43
  refine cNot (cB (fun h => nomatch h) fun _ => ?_)
  exact ⟨some mb, by rw [hcell_of s.q]; rfl, rfl, rfl⟩
end Go.Proofs.Ytjcjlhpabjjflaa
