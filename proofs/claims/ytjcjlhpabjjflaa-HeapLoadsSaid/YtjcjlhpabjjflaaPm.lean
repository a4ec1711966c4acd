/- What layer 7 computes: up. -/
import Derived.Test.YtjcjlhpabjjflaaPl
set_option linter.unusedVariables false
namespace Go.Proofs.Ytjcjlhpabjjflaa
open Go Go.Proofs
attribute [local irreducible] appK copyK delK updK lookK makeK rangeK nextM entryM mapEntryK entryStK lenMapK

theorem cSet_self (c : List Stk) (k n : Int) : (k, n) ∈ cSet c k n := by
  induction c with
  | nil => simp [cSet]
  | cons p c ih => simp only [cSet]; split <;> simp [ih]
theorem cSet_keep {c : List Stk} {k n : Int} {p : Stk} (h : p ∈ c) (hp : p.1 ≠ k) : p ∈ cSet c k n := by
  induction c with
  | nil => simp at h
  | cons q c ih =>
    simp only [cSet]
    rcases List.mem_cons.1 h with rfl | h
    · rw [if_neg hp]; simp
    · split
      · simp [h]
      · simp [ih h]

/-- The map says where each one stands, but for the one at k. -/
structure MEx (m : List Stk) (ys : List Tm) (k : Nat) : Prop where
  pos : ∀ i x, ys[i]? = some x → i ≠ k → (x.2.1, (i : Int)) ∈ m
  only : ∀ p ∈ m, ∃ x ∈ ys, x.2.1 = p.1
/-- The map says where each one stands. -/
structure MAll (m : List Stk) (ys : List Tm) : Prop where
  pos : ∀ (i : Nat) x, ys[i]? = some x → (x.2.1, (i : Int)) ∈ m
  only : ∀ p ∈ m, ∃ x ∈ ys, x.2.1 = p.1
abbrev Ids (ys : List Tm) : Prop := (ys.map (·.2.1)).Nodup
theorem Ids.inj {ys : List Tm} (h : Ids ys) {i j : Nat} {x y : Tm} (hx : ys[i]? = some x) (hy : ys[j]? = some y) (he : x.2.1 = y.2.1) : i = j := by
  obtain ⟨h1, h2⟩ := List.getElem?_eq_some_iff.1 hx
  obtain ⟨h3, h4⟩ := List.getElem?_eq_some_iff.1 hy
  have hp := List.pairwise_iff_getElem.1 h
  rcases Nat.lt_trichotomy i j with hlt | rfl | hlt
  · refine (hp i j (by simpa using h1) (by simpa using h3) hlt ?_).elim
    rw [List.getElem_map, List.getElem_map, h2, h4, he]
  · rfl
  · refine (hp j i (by simpa using h3) (by simpa using h1) hlt ?_).elim
    rw [List.getElem_map, List.getElem_map, h2, h4, he]
theorem MEx.close {m : List Stk} {ys : List Tm} {k : Nat} {t : Tm} (h : MEx m ys k) (hi : Ids ys) (ht : ys[k]? = some t) : MAll (cSet m t.2.1 k) ys where
  pos i x hx := by
    by_cases hik : i = k
    · subst hik; rw [ht] at hx; cases hx; exact cSet_self _ _ _
    · exact cSet_keep (h.pos i x hx hik) fun e => hik (hi.inj hx ht e)
  only p hp := by
    rcases cSet_mem hp with rfl | hp
    · exact ⟨t, List.mem_of_getElem? ht, rfl⟩
    · exact h.only p hp
theorem MEx.move {m : List Stk} {ys : List Tm} {k a : Nat} {t p : Tm} (h : MEx m ys k) (hi : Ids ys) (ht : ys[k]? = some t) (hp : ys[a]? = some p) (hka : k ≠ a) : MEx (cSet m p.2.1 k) (swp ys k a t p) a := by
  have hkl := (List.getElem?_eq_some_iff.1 ht).1
  have hal := (List.getElem?_eq_some_iff.1 hp).1
  have g := swp_get (ys := ys) (x := t) (y := p) hkl hal hka
  refine ⟨fun i x hx hia => ?_, fun q hq => ?_⟩
  · rw [g] at hx
    by_cases hik : i = k
    · rw [if_pos hik] at hx; cases hx; subst hik; exact cSet_self _ _ _
    · rw [if_neg hik, if_neg hia] at hx
      exact cSet_keep (h.pos i x hx hik) fun e => hia (hi.inj hx hp e)
  · have hperm := swp_perm ht hp hka
    rcases cSet_mem hq with rfl | hq
    · exact ⟨p, hperm.mem_iff.2 (List.mem_of_getElem? hp), rfl⟩
    · obtain ⟨x, hx, he⟩ := h.only q hq
      exact ⟨x, hperm.mem_iff.2 hx, he⟩
theorem ids_perm {xs ys : List Tm} (h : ys.Perm xs) (hi : Ids xs) : Ids ys := (h.map _).nodup_iff.2 hi
theorem tdiv_par {k : Nat} (hk : 0 < k) (hb : k ≤ 1000000) : IntKind.wrap .i64 (Int.tdiv (IntKind.wrap .i64 ((k : Int) - 1)) 2) = (par k : Nat) := by
  rw [w64 (x := (k : Int) - 1) (by omega) (by omega)]
  have : ((k : Int) - 1) = ((k - 1 : Nat) : Int) := by omega
  rw [this, Int.tdiv_eq_ediv_of_nonneg (by omega)]
  have h2 : (((k - 1 : Nat) : Int) / 2) = (((k - 1) / 2 : Nat) : Int) := by omega
  rw [h2, w64 (by omega) (by omega)]; rfl

def UpR (B : Nat) (h : Heap) (qb mb : Nat) (a : Option Addr) (c : Nat) (xs : List Tm) (k : Nat) (t : Tm) (most next : Int) (v : Value) (h' : Heap) : Prop :=
  v = .tuple #[] ∧ ∃ (ys : List Tm) (m' : List Stk) (k' : Nat), QB B h' qb mb a c ys m' most next ∧ KB (foot qb mb a) h h' ∧ ys.Perm xs ∧ HE ys k' ∧ UpOK ys k' ∧ ys[k']? = some t ∧ MAll m' ys ∧ ((k' = k ∧ ys = xs) ∨ DownOK ys k')
theorem up_spec {B : Nat} {h : Heap} {qb mb : Nat} {a : Option Addr} {c : Nat} {xs : List Tm} {m : List Stk} {most next : Int} (s : QB B h qb mb a c xs m most next) {k : Nat} {t : Tm} (hk : xs[k]? = some t) (hn : xs.length ≤ 1000000) (hi : Ids xs) (hH : HE xs k) (hM : MEx m xs k) :
    Run Try.prog 65 [.pointer (some ⟨qb, 0, none⟩), .int .i64 (k : Int)] h (UpR B h qb mb a c xs k t most next) := by
  have hkl := (List.getElem?_eq_some_iff.1 hk).1
  refine V65 _ _ _ _ ?_
  unfold VC65
  refine ⟨_, _, _, by rw [hcell_of s.q]; rfl, ?_⟩
  obtain ⟨b, rfl, hbo, g0, g1, g2⟩ := OwnT.get s.row hk
  refine ⟨by omega, by omega, ?_⟩
  rw [Int.toNat_natCast]
  refine ⟨_, g0, _, g1, _, g2, newB_intro fun h1 hb1 k1 s1 => ?_⟩
  refine storeS_blk (l := [.int .i64 0, .int .i64 0, .int .i64 0]) hb1 (by simp) (encT_single t) fun h2 hb2 k2 s2 => ?_
  have hb2' : h2[h.size]? = some (.cells #[.int .i64 t.1, .int .i64 t.2.1, .int .i64 t.2.2] 30 (0, 0)) := by simpa [splice] using hb2
  have k02 : Keep h h2 := ((KB.of_keep k1).trans k2).keep (by simp)
  have hfr : ∀ {h' : Heap} (q : QB B h' qb mb (some ⟨b, 0, none⟩) c xs m most next), True := fun _ => trivial
  have hft : h.size ∉ foot qb mb (some ⟨b, 0, none⟩) := by
    intro hm
    have e1 := lt_of_get s.q
    have e2 := s.map.lt
    have e3 : b < h.size := by
      have := hcell_lt g0; exact this
    simp [foot, ownB] at hm; omega
  refine ⟨fun x4 h3 => ∃ (j : Nat) (zs : List Tm) (m3 : List Stk) (ys : List Tm), x4 = j ∧ QB B h3 qb mb (some ⟨b, 0, none⟩) c zs m3 most next ∧ zs.set j t = ys ∧ ys[j]? = some t ∧ ys.Perm xs ∧ HE ys j ∧ MEx m3 ys j ∧
      ((j = k ∧ ys = xs) ∨ DownOK ys j) ∧ h3[h.size]? = some (.cells #[.int .i64 t.1, .int .i64 t.2.1, .int .i64 t.2.2] 30 (0, 0)) ∧ KB (foot qb mb (some ⟨b, 0, none⟩)) h h3, fun x4 _ => x4.toNat,
    ⟨k, xs, m, xs, rfl, s.keep k02, ?_, hk, .refl _, hH, hM, .inl ⟨rfl, rfl⟩, hb2', .of_keep k02⟩, ?_⟩
  · apply List.ext_getElem?
    intro i
    by_cases hik : k = i
    · subst hik; rw [List.getElem?_set_self hkl, hk]
    · rw [List.getElem?_set_ne hik]
  rintro - h3 x4 ⟨j, zs, m3, ys, rfl, q3, hset, hj, hperm, hH3, hM3, hdn, hb3, k3⟩
  have hlz : zs.length = ys.length := by rw [← hset, List.length_set]
  have hly : ys.length = xs.length := hperm.length_eq
  have hjl := (List.getElem?_eq_some_iff.1 hj).1
  have hiy : Ids ys := ids_perm hperm hi
  have hzy : ∀ i, i ≠ j → zs[i]? = ys[i]? := fun i hij => by rw [← hset, List.getElem?_set_ne (Ne.symm hij)]
  have c0 : hcell h3 ⟨h.size, 0, none⟩ = some (.int .i64 t.1) := by rw [hcell_of hb3]; rfl
  have c1 : hcell h3 ⟨h.size, 1, none⟩ = some (.int .i64 t.2.1) := by rw [hcell_of hb3]; rfl
  have c2 : hcell h3 ⟨h.size, 2, none⟩ = some (.int .i64 t.2.2) := by rw [hcell_of hb3]; rfl
  have hend : ∀ h4 : Heap, Keep h3 h4 → UpOK ys j → Run Try.prog 64 [.pointer (some ⟨qb, 0, none⟩), .int .i64 (j : Int), .agg #[.int .i64 t.1, .int .i64 t.2.1, .int .i64 t.2.2]] h4
      fun v h5 => v = .tuple #[] ∧ UpR B h qb mb (some ⟨b, 0, none⟩) c xs k t most next (.tuple #[]) h5 := fun h4 k4 hu => by
    refine (set_spec (q3.keep k4) (k := j) (by omega) t).mono ?_
    rintro v h5 ⟨rfl, q5, k5⟩
    rw [hset] at q5
    exact ⟨rfl, rfl, ys, _, j, q5, (k3.trans (.of_keep k4)).trans k5, hperm, hH3, hu, hj, hM3.close hiy hj, hdn⟩
  refine cIf (fun hpos => ?_) (fun h0 => ?_)
  · have hj0 : 0 < j := by omega
    rw [tdiv_par hj0 (by omega)]
    have hpj := par_lt hj0
    have hpl : par j < zs.length := by omega
    have hzp : zs[par j]? = ys[par j]? := hzy _ (by omega)
    obtain ⟨p, hp⟩ : ∃ p, ys[par j]? = some p := ⟨ys[par j]'(by omega), List.getElem?_eq_getElem (by omega)⟩
    have hpz : zs[par j]? = some p := hzp.trans hp
    obtain ⟨b', e', -, f0, f1, f2⟩ := OwnT.get q3.row hpz
    cases e'
    refine ⟨by decide, _, c0, _, c1, _, c2, _, _, _, by rw [hcell_of q3.q]; rfl, ?_⟩
    refine ⟨by omega, by omega, ?_⟩
    rw [Int.toNat_natCast]
    refine ⟨_, f0, _, f1, _, f2, (compare_spec t p h3).mono ?_⟩
    rintro v h4 ⟨k4, x, rfl, hx1, hx2⟩
    refine ⟨_, rfl, cIf (fun hgt => ?_) (fun hle => ?_)⟩
    · refine ⟨_, k4.cell c0 (by simp), _, k4.cell c1 (by simp), _, k4.cell c2 (by simp), hend h4 k4 fun _ u w hu hw => ?_⟩
      rw [hp] at hu; rw [hj] at hw
      cases hu; cases hw
      exact leT.total (hx1.1 hgt)
    · have hlt : leT t p := Decidable.byContradiction fun hc => hle (hx1.2 hc)
      have q4 := q3.keep k4
      obtain ⟨b', e', -, f0, f1, f2⟩ := OwnT.get q4.row hpz
      cases e'
      refine ⟨_, _, _, by rw [hcell_of q4.q]; rfl, ?_⟩
      refine ⟨by omega, by omega, _, f0, _, f1, _, f2, ?_⟩
      refine (set_spec q4 (k := j) (by omega) p).mono ?_
      rintro v h5 ⟨rfl, q5, k5⟩
      obtain ⟨hup, hdo⟩ := hH3.up hj0 hj hp hlt
      refine ⟨rfl, ⟨par j, _, _, swp ys j (par j) t p, rfl, q5, ?_, ?_, (swp_perm hj hp (by omega)).trans hperm, hup, hM3.move hiy hj hp (by omega), .inr hdo, ?_, ?_⟩, by simp only [Int.toNat_natCast]; exact hpj⟩
      · unfold swp
        rw [← hset, List.set_set]
      · rw [swp_get hjl (by omega) (by omega), if_neg (by omega), if_pos rfl]
      · exact k5.get (k4.get hb3 (by simp)) hft
      · exact (k3.trans (.of_keep k4)).trans k5
  · exact ⟨_, c0, _, c1, _, c2, hend h3 (.refl _ _) fun h => by omega⟩
end Go.Proofs.Ytjcjlhpabjjflaa
