/- The laws GoodsSums and GoodsTimes, over the heap. -/
import Derived.Test.YtjcjlhpabjjflaaPi
set_option linter.unusedVariables false
namespace Go.Proofs.Ytjcjlhpabjjflaa
open Go Go.Sort Go.Shelf Go.Proofs
attribute [local irreducible] appK copyK delK updK lookK makeK rangeK nextM entryM mapEntryK entryStK lenMapK

theorem SubP.len {a b r : List Stk} {e : Int} (h : SubP a b e r) (ha : ∀ k, 0 ≤ tot b k) : r.length ≤ a.length := by
  by_cases he : e = 0
  · obtain ⟨h1, h2⟩ := h.2.2 he
    have h3 : (r.map (·.1)).Nodup := rise_keys h1
    have h4 := List.Nodup.length_le_of_subset h3 (l₂ := a.map (·.1)) fun k hk => by
      obtain ⟨⟨k', n⟩, hp, rfl⟩ := List.mem_map.1 hk
      obtain ⟨h3, h4⟩ := (h2 k' n).1 hp
      obtain ⟨s, hs, he⟩ := tot_pos (l := a) (k := k') (by have := ha k'; omega)
      exact List.mem_map.2 ⟨s, hs, he⟩
    simpa using h4
  · rw [h.2.1 he]; exact Nat.zero_le _
theorem SubP.len2 {a b r : List Stk} {e : Int} (h : SubP a b e r) : r.length ≤ a.length := by
  by_cases he : e = 0
  · refine h.len fun k => ?_
    by_cases hp : pairE a b = 0
    · exact tot_nonneg (errN_zero.1 (pairE_zero.1 hp).2).1 k
    · exact absurd (h.1.symm.trans he) (by rw [subE_bad hp]; exact hp)
  · rw [h.2.1 he]; exact Nat.zero_le _
theorem TimesP.len {l r : List Stk} {n e : Int} (h : TimesP l n e r) : r.length ≤ l.length := by
  by_cases he : e = 0
  · obtain ⟨h1, h2⟩ := h.2.2 he
    have h3 : (r.map (·.1)).Nodup := rise_keys h1
    have h4 := List.Nodup.length_le_of_subset h3 (l₂ := l.map (·.1)) fun k hk => by
      obtain ⟨⟨k', v⟩, hp, rfl⟩ := List.mem_map.1 hk
      obtain ⟨h3, h4⟩ := (h2 k' v).1 hp
      obtain ⟨s, hs, he⟩ := tot_pos (l := l) (k := k') (fun h0 => by rw [h0, Int.zero_mul] at h3; omega)
      exact List.mem_map.2 ⟨s, hs, he⟩
    simpa using h4
  · rw [h.2.1 he]; exact Nat.zero_le _

theorem goodsSums_run {h : Heap} {a b : Option Addr} {n c n' c' : Nat} {x y : List Stk} {z : Int} (s : Sl h a n c x) (t : Sl h b n' c' y) (hx : rng x) (hy : rng y) (hz : z ≤ 9223372036854775807) :
    Run Try.prog 6 [.slice a n c, .slice b n' c', .int .i64 z] h fun v h' => v = .bool true ∧ Keep h h' := by
  have hxn : x.length = n := s.1
  have hyn : y.length = n' := t.1
  refine V6 _ _ _ _ _ _ _ _ _ ?_
  unfold VC6
  have haw : ∀ h1 : Heap, Keep h h1 → Run Try.prog 16 [] h1 fun v h2 => ∃ b : Bool, v = .bool b ∧ (fun (v : Value) (h' : Heap) => v = .bool true ∧ Keep h h') (.bool b) h2 := fun h1 k1 => by
    refine (awake_spec h1).mono ?_
    rintro v h2 ⟨rfl, k2⟩
    exact ⟨_, rfl, rfl, k1.trans k2⟩
  refine cIf (fun _ => haw _ (.refl _ _)) (fun hn => ?_)
  refine cIf (fun _ => haw _ (.refl _ _)) (fun hn' => ?_)
  refine (add_spec s t hx hy (by omega) (by omega)).mono ?_
  rintro v h1 ⟨a1, n1, c1, q1, e1, rfl, s1, k1, hA1⟩
  refine ⟨_, _, _, _, rfl, (refAdd_spec (s.keep k1) (t.keep k1) hx hy (by omega) (by omega)).mono ?_⟩
  rintro v h2 ⟨a2, n2, c2, q2, e2, rfl, s2, k2', hA2⟩
  obtain ⟨rfl, rfl⟩ := hA1.unique hA2
  have k2 := k1.trans k2'
  refine ⟨_, _, _, _, rfl, (sub_spec (s.keep k2) (t.keep k2) hx hy (by omega) (by omega)).mono ?_⟩
  rintro v h3 ⟨a3, n3, c3, q3, e3, rfl, s3, k3', hS3⟩
  have k3 := k2.trans k3'
  refine ⟨_, _, _, _, rfl, (refSub_spec (s.keep k3) (t.keep k3) hx hy (by omega) (by omega)).mono ?_⟩
  rintro v h4 ⟨a4, n4, c4, q4, e4, rfl, s4, k4', hS4⟩
  obtain ⟨rfl, rfl⟩ := hS3.unique hS4
  have k4 := k3.trans k4'
  refine ⟨_, _, _, _, rfl, (times_spec (s.keep k4) hx (by omega) hz).mono ?_⟩
  rintro v h5 ⟨a5, n5, c5, q5, e5, rfl, s5, k5', hT5⟩
  have k5 := k4.trans k5'
  refine ⟨_, _, _, _, rfl, (refTimes_spec (s.keep k5) hx (by omega) hz).mono ?_⟩
  rintro v h6 ⟨a6, n6, c6, q6, e6, rfl, s6, k6', hT6⟩
  obtain ⟨rfl, rfl⟩ := hT5.unique hT6
  have k6 := k5.trans k6'
  refine ⟨_, _, _, _, rfl, ?_⟩
  have l1 := hA1.len
  have l3 := hS3.len2
  have l5 := hT5.len
  have z1 : q1.length = n1 := s1.1
  have z3 : q3.length = n3 := s3.1
  have z5 : q5.length = n5 := s5.1
  refine (same_spec (((((s1.keep k2').keep k3').keep k4').keep k5').keep k6') ((((s2.keep k3').keep k4').keep k5').keep k6') (by omega)).mono ?_
  rintro v h7 ⟨rfl, rfl⟩
  refine ⟨_, rfl, ?_⟩
  rw [decide_eq_true rfl]
  refine cB (fun _ => ?_) fun h => nomatch h
  refine cEq (fun _ => ?_) (fun h => absurd rfl h)
  refine (same_spec (((s3.keep k4').keep k5').keep k6') ((s4.keep k5').keep k6') (by omega)).mono ?_
  rintro v h8 ⟨rfl, rfl⟩
  refine ⟨_, rfl, ?_⟩
  rw [decide_eq_true rfl]
  refine cB (fun _ => ?_) fun h => nomatch h
  refine cEq (fun _ => ?_) (fun h => absurd rfl h)
  refine (same_spec (s5.keep k6') s6 (by omega)).mono ?_
  rintro v h9 ⟨rfl, rfl⟩
  refine ⟨_, rfl, ?_⟩
  rw [decide_eq_true rfl]
  refine cB (fun _ => ?_) fun h => nomatch h
  refine cEq (fun _ => ?_) (fun h => absurd rfl h)
  exact haw _ k6

/- ## Times of a sum -/
theorem TimesP.facts {l r : List Stk} {n : Int} (h : TimesP l n 0 r) : errN l = 0 ∧ 0 ≤ n ∧ ∀ k, tot l k * n ≤ MaxQ := by
  have h1 := h.1
  by_cases he : errN l = 0
  · by_cases hn : n < 0
    · rw [timesE_neg he hn] at h1; omega
    · refine ⟨he, by omega, fun k => Int.not_lt.1 fun hk => ?_⟩
      rw [timesE_over he hn hk] at h1; omega
  · rw [timesE_bad he] at h1; exact absurd h1.symm he
theorem TimesP.tot {l r : List Stk} {n : Int} (h : TimesP l n 0 r) (k : Int) : tot r k = tot l k * n := by
  obtain ⟨he, hn, -⟩ := h.facts
  obtain ⟨h1, h2⟩ := h.2.2 rfl
  have htl := Int.mul_nonneg (tot_nonneg (errN_zero.1 he).1 k) hn
  by_cases h0 : Go.Proofs.Ytjcjlhpabjjflaa.tot l k * n = 0
  · rw [h0]
    by_cases hr : Go.Proofs.Ytjcjlhpabjjflaa.tot r k = 0
    · exact hr
    · obtain ⟨⟨k', v⟩, hp, rfl⟩ := tot_pos hr
      have := (h2 k' v).1 hp
      simp only at h0; omega
  · exact tot_mem (rise_keys h1) ((h2 k _).2 ⟨rfl, by omega⟩)
theorem TimesP.good {l r : List Stk} {n : Int} (h : TimesP l n 0 r) : good r := by
  rintro ⟨k, v⟩ hp
  obtain ⟨he, hn, -⟩ := h.facts
  obtain ⟨h1, h2⟩ := ((h.2.2 rfl).2 k v).1 hp
  obtain ⟨s, hs, rfl⟩ := tot_pos (l := l) (k := k) (fun h0 => by rw [h0, Int.zero_mul] at h1; omega)
  exact ⟨((errN_zero.1 he).1 s hs).1, by show 0 ≤ v; omega⟩
theorem TimesP.sn {l r : List Stk} {n : Int} (h : TimesP l n 0 r) : SN r r := ⟨(h.2.2 rfl).1, fun k v => by rw [(h.2.2 rfl).2, h.tot]⟩
theorem TimesP.errN {l r : List Stk} {n : Int} (h : TimesP l n 0 r) : errN r = 0 :=
  errN_ok h.good fun ho => by
    obtain ⟨k, hk⟩ := over_iff.1 ho
    rw [h.tot] at hk
    have := h.facts.2.2 k; omega
theorem TimesP.rng {l r : List Stk} {n : Int} (h : TimesP l n 0 r) (hr : rng l) : rng r := by
  have hM : MaxQ = 1125899906842624 := rfl
  rintro ⟨k, v⟩ hp
  obtain ⟨h1, h2⟩ := ((h.2.2 rfl).2 k v).1 hp
  obtain ⟨s, hs, rfl⟩ := tot_pos (l := l) (k := k) (fun h0 => by rw [h0, Int.zero_mul] at h1; omega)
  have := h.facts.2.2 s.1
  exact ⟨(hr s hs).1, by show _ ≤ v; omega, by show v ≤ _; omega⟩
theorem TimesP.norm {l r : List Stk} {n : Int} (h : TimesP l n 0 r) (hn : 0 < n) : SN l (r.map fun p => (p.1, Go.Proofs.Ytjcjlhpabjjflaa.tot l p.1)) := by
  obtain ⟨he, -, -⟩ := h.facts
  have htn := tot_nonneg (errN_zero.1 he).1
  obtain ⟨h1, h2⟩ := h.2.2 rfl
  refine ⟨by rw [List.pairwise_map]; exact h1, fun k v => ?_⟩
  rw [List.mem_map]
  constructor
  · rintro ⟨⟨k', w⟩, hp, heq⟩
    simp only [Prod.mk.injEq] at heq
    obtain ⟨rfl, rfl⟩ := heq
    obtain ⟨e1, e2⟩ := (h2 k' w).1 hp
    refine ⟨rfl, ?_⟩
    have := htn k'
    by_cases hz : Go.Proofs.Ytjcjlhpabjjflaa.tot l k' = 0
    · rw [hz, Int.zero_mul] at e1; omega
    · omega
  · rintro ⟨rfl, hv⟩
    exact ⟨(k, Go.Proofs.Ytjcjlhpabjjflaa.tot l k * n), (h2 k _).2 ⟨rfl, Int.mul_pos hv hn⟩, rfl⟩
theorem sumQ_map (l : List Stk) (n : Int) : sumQ (l.map fun p => (p.1, p.2 * n)) = sumQ l * n := by
  induction l with
  | nil => simp [sumQ, sumI]
  | cons p l ih => rw [List.map_cons, sumQ_cons, sumQ_cons, ih, Int.add_mul]
theorem TimesP.sum {l r q : List Stk} {n : Int} (h : TimesP l n 0 r) (hq : SN l q) : sumQ r = sumQ q * n := by
  obtain ⟨he, hn, -⟩ := h.facts
  have htn := tot_nonneg (errN_zero.1 he).1
  obtain ⟨h1, h2⟩ := h.2.2 rfl
  by_cases h0 : n = 0
  · have : r = [] := by
      cases hr : r with
      | nil => rfl
      | cons p l' =>
        exfalso
        obtain ⟨k, v⟩ := p
        have := (h2 k v).1 (by rw [hr]; simp)
        rw [h0, Int.mul_zero] at this; omega
    rw [this, h0, Int.mul_zero]; rfl
  · have hr : r = q.map fun p => (p.1, p.2 * n) := by
      refine rise_unique h1 ?_ ?_
      · rw [List.pairwise_map]; exact hq.1
      · rintro ⟨k, v⟩
        rw [h2, List.mem_map]
        constructor
        · rintro ⟨rfl, hv⟩
          refine ⟨(k, Go.Proofs.Ytjcjlhpabjjflaa.tot l k), (hq.2 k _).2 ⟨rfl, ?_⟩, rfl⟩
          have := htn k
          by_cases hz : Go.Proofs.Ytjcjlhpabjjflaa.tot l k = 0
          · rw [hz, Int.zero_mul] at hv; omega
          · omega
        · rintro ⟨⟨k', w⟩, hp, heq⟩
          simp only [Prod.mk.injEq] at heq
          obtain ⟨rfl, rfl⟩ := heq
          obtain ⟨e1, e2⟩ := (hq.2 k' w).1 hp
          rw [← e1]
          exact ⟨rfl, Int.mul_pos e2 (by omega)⟩
    rw [hr, sumQ_map]

theorem goodsTimes_run {h : Heap} {a : Option Addr} {k c : Nat} {l : List Stk} {n m : Int} (s : Sl h a k c l) (hr : rng l) (hn : 0 ≤ n ∧ n ≤ 65535) (hm : 0 ≤ m ∧ m ≤ 65535) :
    Run Try.prog 7 [.slice a k c, .int .u16 n, .int .u16 m] h fun v h' => v = .bool true ∧ Keep h h' := by
  have hlk : l.length = k := s.1
  have hM : MaxQ = 1125899906842624 := rfl
  refine V7 _ _ _ _ _ _ _ ?_
  unfold VC7
  have haw : ∀ h1 : Heap, Keep h h1 → Run Try.prog 16 [] h1 fun v h2 => ∃ b : Bool, v = .bool b ∧ (fun (v : Value) (h' : Heap) => v = .bool true ∧ Keep h h') (.bool b) h2 := fun h1 k1 => by
    refine (awake_spec h1).mono ?_
    rintro v h2 ⟨rfl, k2⟩
    exact ⟨_, rfl, rfl, k1.trans k2⟩
  rw [w64 (x := n) (by omega) (by omega), w64 (x := m) (by omega) (by omega), w64 (x := n + m) (by omega) (by omega)]
  refine cIf (fun _ => haw _ (.refl _ _)) (fun hk => ?_)
  refine (times_spec s hr (by omega) (by omega)).mono ?_
  rintro v h1 ⟨a1, n1, c1, q1, e1, rfl, s1, k1, hT1⟩
  refine ⟨_, _, _, _, rfl, (times_spec (s.keep k1) hr (by omega) (by omega)).mono ?_⟩
  rintro v h2 ⟨a2, n2, c2, q2, e2, rfl, s2, k2', hT2⟩
  have k2 := k1.trans k2'
  refine ⟨_, _, _, _, rfl, (times_spec (s.keep k2) hr (by omega) (by omega)).mono ?_⟩
  rintro v h3 ⟨a3, n3, c3, q3, e3, rfl, s3, k3', hT3⟩
  have k3 := k2.trans k3'
  refine ⟨_, _, _, _, rfl, ?_⟩
  refine cNe (fun _ => haw _ k3) fun hz1 => ?_
  refine cNe (fun _ => haw _ k3) fun hz2 => ?_
  refine cNe (fun _ => haw _ k3) fun hz3 => ?_
  subst hz1 hz2 hz3
  have l1 := hT1.len
  have l2 := hT2.len
  have l3 := hT3.len
  have z1 : q1.length = n1 := s1.1
  have z2 : q2.length = n2 := s2.1
  have z3 : q3.length = n3 := s3.1
  have s1' := (s1.keep k2').keep k3'
  have hel : errN l = 0 := hT1.facts.1
  have gl := (errN_zero.1 hel).1
  refine (add_spec s1' (s2.keep k3') (hT1.rng hr) (hT2.rng hr) (by omega) (by omega)).mono ?_
  rintro v h4 ⟨a4, n4, c4, q4, e4, rfl, s4, k4', hA⟩
  have k4 := k3.trans k4'
  refine ⟨_, _, _, _, rfl, (size_spec (s1'.keep k4') (hT1.rng hr) (by omega)).mono ?_⟩
  rintro v h5 ⟨p, e5, rfl, k5', he5, -, hp⟩
  have k5 := k4.trans k5'
  refine ⟨_, _, rfl, (size_spec (s.keep k5) hr (by omega)).mono ?_⟩
  rintro v h6 ⟨q, e6, rfl, k6', he6, -, hq⟩
  have k6 := k5.trans k6'
  refine ⟨_, _, rfl, (same_spec (((s3.keep k4').keep k5').keep k6') ((s4.keep k5').keep k6') (by omega)).mono ?_⟩
  rintro v h7 ⟨rfl, rfl⟩
  refine ⟨_, rfl, ?_⟩
  have ht : ∀ j, tot (q1 ++ q2) j = tot l j * (n + m) := fun j => by rw [tot_append, hT1.tot, hT2.tot, Int.mul_add]
  have eA : errN (q1 ++ q2) = 0 := errN_ok (good_append.2 ⟨hT1.good, hT2.good⟩) fun ho => by
    obtain ⟨j, hj⟩ := over_iff.1 ho
    rw [ht] at hj
    have := hT3.facts.2.2 j; omega
  have e4z : e4 = 0 := hA.1.trans (addE_zero.2 ⟨hT1.errN, hT2.errN, eA⟩)
  subst e4z
  have h34 : q3 = q4 := SN.unique (l := q1 ++ q2) ⟨(hT3.2.2 rfl).1, fun j v => by rw [(hT3.2.2 rfl).2, ht]⟩ (hA.2.2 rfl)
  have e5z : e5 = 0 := he5.trans hT1.errN
  subst e5z
  have e6z : e6 = 0 := he6.trans hel
  subst e6z
  have hp2 : p = sumQ q1 := hp rfl q1 hT1.sn
  have hpq : p = q * n := by
    by_cases hn0 : n = 0
    · have hq1 : q1 = [] := by
        cases hqq : q1 with
        | nil => rfl
        | cons u l' =>
          exfalso
          obtain ⟨k', v⟩ := u
          have := ((hT1.2.2 rfl).2 k' v).1 (by rw [hqq]; simp)
          rw [hn0, Int.mul_zero] at this; omega
      rw [hp2, hq1, hn0, Int.mul_zero]; rfl
    · have hql := hT1.norm (by omega)
      rw [hp2, hq rfl _ hql]; exact hT1.sum hql
  have hbd := sumQ_bd (hT1.sn.bd hT1.errN)
  have hml := mul_bd (k := q1.length) (by omega)
  rw [decide_eq_true h34]
  refine cB (fun _ => ?_) fun h => nomatch h
  refine cEq (fun _ => ?_) (fun h => absurd rfl h)
  refine cEq (fun _ => ?_) (fun h => absurd rfl h)
  refine cEq (fun _ => ?_) (fun h => absurd rfl h)
  rw [Int.mul_comm n q, ← hpq, w64 (by omega) (by omega)]
  refine cEq (fun _ => ?_) (fun h => absurd rfl h)
  exact haw _ k6
end Go.Proofs.Ytjcjlhpabjjflaa
