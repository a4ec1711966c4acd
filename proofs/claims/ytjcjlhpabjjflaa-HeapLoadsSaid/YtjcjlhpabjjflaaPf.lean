/- What layer 8 computes: Sub; what must come; the law GoodsNorms over the heap. -/
import Derived.Test.YtjcjlhpabjjflaaPe
set_option linter.unusedVariables false
namespace Go.Proofs.Ytjcjlhpabjjflaa
open Go Go.Sort Go.Shelf Go.Proofs
attribute [local irreducible] appK copyK delK updK lookK makeK rangeK nextM entryM mapEntryK entryStK lenMapK

noncomputable def pairE (a b : List Stk) : Int := if errN a = 0 then errN b else errN a
theorem pairE_zero {a b : List Stk} : pairE a b = 0 ↔ errN a = 0 ∧ errN b = 0 := by
  unfold pairE
  by_cases h : errN a = 0
  · rw [if_pos h]; exact ⟨fun h2 => ⟨h, h2⟩, fun h2 => h2.2⟩
  · rw [if_neg h]; exact ⟨fun h2 => absurd h2 h, fun h2 => absurd h2.1 h⟩
def PairR (h : Heap) (a b : List Stk) (v : Value) (h' : Heap) : Prop :=
  ∃ (r1 r2 : Option Nat) (c1 c2 : List Stk) (e : Int), v = .tuple #[.map r1, .map r2, .int .i64 e] ∧ Keep h h' ∧ e = pairE a b ∧
    (e = 0 → MapO h' r1 (MV c1) ∧ MapO h' r2 (MV c2) ∧ CM a c1 ∧ CM b c2 ∧ ∃ b1, r1 = some b1 ∧ h.size ≤ b1 ∧ r2 ≠ some b1)
theorem pair_spec {h : Heap} {a b : Option Addr} {n c n' c' : Nat} {x y : List Stk} (s : Sl h a n c x) (t : Sl h b n' c' y) (hx : rng x) (hy : rng y) (hn : n ≤ 1000) (hn' : n' ≤ 1000) :
    Run Try.prog 48 [.slice a n c, .slice b n' c'] h (PairR h x y) := by
  refine V48 _ _ _ _ _ _ _ _ ?_
  unfold VC48
  refine (counts_spec s hx hn).mono ?_
  rintro v h1 ⟨r1, c1, e1, rfl, hm1, k1, hf1, he1, h0, h0'⟩
  refine ⟨_, _, rfl, ?_⟩
  refine cNe (fun hz => ⟨none, none, [], [], e1, rfl, k1, by unfold pairE; rw [if_neg (he1 ▸ hz)]; exact he1, fun h => absurd h hz⟩) fun hz => ?_
  refine (counts_spec (t.keep k1) hy hn').mono ?_
  rintro v h2 ⟨r2, c2, e2, rfl, hm2, k2, hf2, he2, g0, g0'⟩
  refine ⟨_, _, rfl, r1, r2, c1, c2, e2, rfl, k1.trans k2, by unfold pairE; rw [if_pos (he1 ▸ hz)]; exact he2, fun hz2 => ?_⟩
  obtain ⟨hc1, b1, rfl⟩ := h0 hz
  obtain ⟨hc2, b2, rfl⟩ := g0 hz2
  refine ⟨MapO.keep hm1 k2, hm2, hc1, hc2, b1, rfl, hf1 b1 rfl, fun he => ?_⟩
  cases he
  have h1 := MapI.lt hm1
  have h2 := hf2 b1 rfl
  omega

/- ## Sub -/
open Classical in
noncomputable def subE (a b : List Stk) : Int := if pairE a b = 0 then (if ∃ k, tot a k < tot b k then 7 else 0) else pairE a b
def SubP (a b : List Stk) (e : Int) (r : List Stk) : Prop :=
  e = subE a b ∧ (e ≠ 0 → r = []) ∧ (e = 0 → r.Pairwise (fun x y => x.1 < y.1) ∧ ∀ k n, (k, n) ∈ r ↔ n = tot a k - tot b k ∧ 0 < n)
theorem SubP.unique {a b r q : List Stk} {e f : Int} (h1 : SubP a b e r) (h2 : SubP a b f q) : e = f ∧ r = q := by
  have he : e = f := h1.1.trans h2.1.symm
  subst he
  by_cases h : e = 0
  · exact ⟨rfl, rise_unique (h1.2.2 h).1 (h2.2.2 h).1 fun p => by obtain ⟨k, n⟩ := p; rw [(h1.2.2 h).2, (h2.2.2 h).2]⟩
  · exact ⟨rfl, (h1.2.1 h).trans (h2.2.1 h).symm⟩
theorem subE_bad {a b : List Stk} (h : pairE a b ≠ 0) : subE a b = pairE a b := by unfold subE; rw [if_neg h]
theorem subE_less {a b : List Stk} (h : pairE a b = 0) {k : Int} (hk : tot a k < tot b k) : subE a b = 7 := by unfold subE; rw [if_pos h, if_pos ⟨k, hk⟩]
theorem subE_ok {a b : List Stk} (h : pairE a b = 0) (hk : ∀ k, tot b k ≤ tot a k) : subE a b = 0 := by
  unfold subE; rw [if_pos h, if_neg]; rintro ⟨k, h2⟩; have := hk k; omega
def SubR (h : Heap) (x y : List Stk) (v : Value) (h' : Heap) : Prop :=
  ∃ (a : Option Addr) (n c : Nat) (r : List Stk) (e : Int), v = .tuple #[.slice a n c, .int .i64 e] ∧ Sl h' a n c r ∧ Keep h h' ∧ SubP x y e r
theorem tot_le {c : List Stk} (hnd : (c.map (·.1)).Nodup) (hpos : ∀ p ∈ c, 1 ≤ p.1 ∧ 0 ≤ p.2 ∧ p.2 ≤ MaxQ) (k : Int) : 0 ≤ tot c k ∧ tot c k ≤ MaxQ := by
  by_cases h0 : tot c k = 0
  · rw [h0]; decide
  · obtain ⟨p, hp, he⟩ := tot_pos h0
    rw [← he, tot_mem hnd hp]; exact (hpos p hp).2
theorem sub_spec {h : Heap} {a b : Option Addr} {n c n' c' : Nat} {x y : List Stk} (s : Sl h a n c x) (t : Sl h b n' c' y) (hx : rng x) (hy : rng y) (hn : n ≤ 400) (hn' : n' ≤ 400) :
    Run Try.prog 27 [.slice a n c, .slice b n' c'] h (SubR h x y) := by
  have hxn : x.length = n := s.1
  have hyn : y.length = n' := t.1
  have hM : MaxQ = 1125899906842624 := rfl
  refine V27 _ _ _ _ _ _ _ _ ?_
  unfold VC27
  refine (pair_spec s t hx hy (by omega) (by omega)).mono ?_
  rintro v h1 ⟨r1, r2, c1, c2, e, rfl, k1, he, h0⟩
  refine ⟨_, _, _, rfl, ?_⟩
  refine cNe (fun hz => ⟨none, 0, 0, [], e, rfl, .nil _ _ _ _ _, k1, he.trans (subE_bad (he ▸ hz)).symm, fun _ => rfl, fun h => absurd h hz⟩) fun hz => ?_
  obtain ⟨hm1, hm2, hc1, hc2, b1, rfl, hb1, hb12⟩ := h0 hz
  have hpe : pairE x y = 0 := he ▸ hz
  have hnd2 := hm2.nodup
  have hlt1 := MapI.lt hm1
  have hl1 := hc1.len
  have hl2 := hc2.len
  refine range_spec tyM hm2 fun h2 hI k2 s2 => ?_
  refine ⟨fun h3 => ∃ (left : List Int) (c : List Stk), IterI h3 h1.size r2 (MV c2) left ∧ Keep h h3 ∧ MapI h3 b1 (MV c) ∧ (∀ k, tot c k = tot x k - if k ∈ left then 0 else tot y k) ∧ (∀ k, k ∉ left → tot y k ≤ tot x k) ∧
      (∀ p ∈ c, 1 ≤ p.1 ∧ 0 ≤ p.2 ∧ p.2 ≤ MaxQ) ∧ (∀ p ∈ c, p.1 ≤ 9223372036854775807) ∧ c.length + left.length ≤ c1.length + c2.length, fun h3 => leftN h1.size r2 h3,
    ⟨_, c1, hI, k1.trans k2, MapI.keep hm1 k2, fun k => ?_, fun k hk => ?_, hc1.pos, hc1.top, by simp [MV]⟩, ?_⟩
  · rw [hc1.tots]
    split
    · omega
    · rename_i hk
      rw [MV_keys] at hk
      rw [← hc2.tots k, tot_none hk]; omega
  · rw [MV_keys] at hk
    rw [← hc2.tots k, tot_none hk, ← hc1.tots k]
    exact (tot_le hm1.nodup hc1.pos k).1
  rintro - h3 ⟨left, c, hI3, k3, hm3, htot, hle, hpos, htop, hlen⟩
  have hndc : (c.map (·.1)).Nodup := by rw [← MV_keys]; exact MapI.nodup hm3
  refine next_spec hI3 (fun hl => ?_) (fun k w h4 hk hw hI4 k4 s4 => ?_)
  · subst hl
    refine (listed_spec (m := some b1) hm3 hndc hpos htop (by simp at hlen; omega)).mono ?_
    rintro v h5 ⟨a5, n5, c5, r, rfl, hs5, k5, hsn, -⟩
    refine ⟨_, _, _, rfl, _, _, _, r, 0, rfl, hs5, k3.trans k5, (subE_ok hpe fun k => hle k (by simp)).symm, fun h => absurd rfl h, fun _ => ⟨hsn.1, fun k n => ?_⟩⟩
    rw [hsn.2, htot]; simp
  · obtain ⟨q, hq, hqe⟩ := List.mem_map.1 hw
    simp only [Prod.mk.injEq] at hqe
    obtain ⟨rfl, rfl⟩ := hqe
    have hv := tot_mem hnd2 hq
    rw [hc2.tots] at hv
    have hq0 := hc2.pos q hq
    have hm4 := hm3.kb k4 (by simp; omega)
    refine ⟨_, _, rfl, ?_⟩
    have hxk := htot q.1
    rw [if_pos hk, Int.sub_zero] at hxk
    have hbd := tot_le hndc hpos q.1
    have k34 : Keep h h4 := ((KB.of_keep k3).trans k4).keep (by have := k1.size; simp; omega)
    refine lookM (r := some b1) hm4 fun _ => ⟨_, rfl, ?_⟩
    refine cIf (fun hlt => ?_) (fun hge => ?_)
    · exact ⟨none, 0, 0, [], 7, rfl, .nil _ _ _ _ _, k34, (subE_less hpe (k := q.1) (by omega)).symm, fun _ => rfl, fun h => by omega⟩
    refine lookM (r := some b1) hm4 fun _ => ⟨_, rfl, ?_⟩
    rw [w64 (by omega) (by omega)]
    refine updM hm4 fun h5 hm5 k5 s5 => ?_
    have hI5 : IterI h5 h1.size r2 (MV c2) (left.erase q.1) := hI4.kb k5 (by simp; omega) (fun b hb => by
      subst hb
      simp only [List.mem_singleton]
      rintro rfl; exact hb12 rfl)
    have hll : (left.erase q.1).length = left.length - 1 := List.length_erase_of_mem hk
    have hlp := List.length_pos_of_mem hk
    refine ⟨⟨_, _, hI5, ((KB.of_keep k34).trans k5).keep (by simp; omega), hm5, fun k => ?_, fun k hk2 => ?_, fun p hp => ?_, fun p hp => ?_, ?_⟩, ?_⟩
    · rw [cSet_tot hndc]
      by_cases hkq : k = q.1
      · subst hkq
        rw [if_pos rfl, if_neg (by rw [List.Nodup.mem_erase_iff hI3.nodup]; exact fun h => h.1 rfl)]
        omega
      · rw [if_neg hkq, htot]
        have : k ∈ left.erase q.1 ↔ k ∈ left := by rw [List.Nodup.mem_erase_iff hI3.nodup]; exact ⟨fun h => h.2, fun h => ⟨hkq, h⟩⟩
        simp only [this]
    · by_cases hkq : k = q.1
      · subst hkq; omega
      · exact hle k fun h => hk2 (by rw [List.Nodup.mem_erase_iff hI3.nodup]; exact ⟨hkq, h⟩)
    · rcases cSet_mem hp with rfl | hp
      · exact ⟨hq0.1, by show 0 ≤ tot c q.1 - q.2; omega, by show tot c q.1 - q.2 ≤ MaxQ; omega⟩
      · exact hpos p hp
    · rcases cSet_mem hp with rfl | hp
      · exact hc2.top q hq
      · exact htop p hp
    · have := cSet_len c q.1 (tot c q.1 - q.2)
      omega
    · show leftN h1.size r2 h5 < leftN h1.size r2 h3
      rw [leftN_eq hI3, leftN_eq hI5, hll]
      omega

/- ## What must come -/
theorem sl_blk {h : Heap} {b n : Nat} {l : List Stk} (hb : h[b]? = some (.cells (l.flatMap encS).toArray 74 (0, 0))) (hn : l.length = n) : Sl h (some ⟨b, 0, none⟩) n n l := by
  refine OwnS.slOf (B := 0) (e := 74) encS_len (.inr ⟨b, _, rfl, Nat.zero_le _, hb, ?_, Nat.le_refl _, ?_, ?_⟩) hn
  · have : (l.flatMap encS).length = l.length * 2 := by
      clear hb hn
      induction l with
      | nil => rfl
      | cons x l ih => rw [List.flatMap_cons, List.length_append, ih, encS_len, List.length_cons]; omega
    simp only [List.size_toArray, this, hn]
  · clear hb
    subst hn
    induction l with
    | nil => rfl
    | cons x l ih => rw [List.flatMap_cons, List.length_append, ih, encS_len, List.length_cons]; omega
  · intro j v hv; simpa using hv
def lA : List Stk := [(2, 5), (1, 1), (2, 3)]
def lB : List Stk := [(1, 1), (2, 8)]
def lC : List Stk := [(1, 2)]
theorem goodA : errN lA = 0 := errN_ok (by intro s hs; simp [lA] at hs; rcases hs with rfl | rfl | rfl <;> decide) (by
  rintro ⟨s, hs, ho⟩
  simp [lA] at hs
  rcases hs with rfl | rfl | rfl <;> revert ho <;> decide)
theorem goodB : errN lB = 0 := errN_ok (by intro s hs; simp [lB] at hs; rcases hs with rfl | rfl <;> decide) (by
  rintro ⟨s, hs, ho⟩
  simp [lB] at hs
  rcases hs with rfl | rfl <;> revert ho <;> decide)
theorem goodC : errN lC = 0 := errN_ok (by intro s hs; simp [lC] at hs; rcases hs with rfl; decide) (by
  rintro ⟨s, hs, ho⟩
  simp [lC] at hs
  rcases hs with rfl; revert ho; decide)
theorem snAB : SN lA lB := by
  refine ⟨by simp [lB], fun k n => ?_⟩
  simp only [lA, lB, tot, List.mem_cons, Prod.mk.injEq, List.not_mem_nil, or_false]
  by_cases h1 : (2 : Int) = k
  · subst h1; simp; omega
  · by_cases h2 : (1 : Int) = k
    · subst h2; simp; omega
    · simp [h1, h2]; omega
theorem snBB : SN lB lB := by
  refine ⟨by simp [lB], fun k n => ?_⟩
  simp only [lB, tot, List.mem_cons, Prod.mk.injEq, List.not_mem_nil, or_false]
  by_cases h1 : (2 : Int) = k
  · subst h1; simp; omega
  · by_cases h2 : (1 : Int) = k
    · subst h2; simp; omega
    · simp [h1, h2]; omega
theorem awake_spec (h : Heap) : Run Try.prog 16 [] h fun v h' => v = .bool true ∧ Keep h h' := by
  have rA : rng lA := by intro s hs; simp [lA] at hs; rcases hs with rfl | rfl | rfl <;> decide
  have rB : rng lB := by intro s hs; simp [lB] at hs; rcases hs with rfl | rfl <;> decide
  have rC : rng lC := by intro s hs; simp [lC] at hs; rcases hs with rfl; decide
  refine V16 _ _ ?_
  unfold VC16
  refine newB_intro fun h1 hb1 k1 s1 => ?_
  refine (norm_spec (l := lA) (sl_blk hb1 rfl) rA (by decide)).mono ?_
  rintro v h2 ⟨a, n, c, r, e, rfl, hs, k2, hN⟩
  refine ⟨_, _, _, _, rfl, ?_⟩
  have he : e = 0 := hN.1.trans goodA
  subst he
  have hr : r = lB := (hN.2.1 rfl).unique snAB
  subst hr
  have hn : n = 2 := hs.1.symm
  subst hn
  refine newB_intro fun h3 hb3 k3 s3 => ?_
  refine (sub_spec (x := lB) (y := lC) (hs.keep k3) (sl_blk hb3 rfl) rB rC (by decide) (by decide)).mono ?_
  rintro v h4 ⟨a4, n4, c4, r4, e4, rfl, hs4, k4, hS⟩
  refine ⟨_, _, _, _, rfl, ?_⟩
  have he4 : e4 = 7 := hS.1.trans (subE_less (k := 1) (pairE_zero.2 ⟨goodB, goodC⟩) (by decide))
  subst he4
  have s4 : Sl h4 a 2 c lB := (hs.keep k3).keep k4
  refine (size_spec s4 rB (by decide)).mono ?_
  rintro v h5 ⟨sz, e5, rfl, k5, he5, -, hsz⟩
  refine ⟨_, _, rfl, ?_⟩
  have he5' : e5 = 0 := he5.trans goodB
  subst he5'
  have hsz' : sz = 9 := hsz rfl lB snBB
  subst hsz'
  refine newB_intro fun h6 hb6 k6 s6 => ?_
  have s6' : Sl h6 a 2 c lB := (s4.keep k5).keep k6
  refine (same_spec (x := lB) (y := lB) s6' (sl_blk hb6 rfl) (by decide)).mono ?_
  rintro v h7 ⟨rfl, rfl⟩
  refine ⟨_, rfl, ?_⟩
  rw [decide_eq_true rfl]
  refine cB (fun _ => ?_) (fun h => nomatch h)
  refine cEq (fun _ => ?_) (fun h => absurd rfl h)
  refine cEq (fun _ => ?_) (fun h => absurd rfl h)
  refine cEq (fun _ => ?_) (fun h => absurd rfl h)
  refine cEq (fun _ => ?_) (fun h => absurd rfl h)
  refine (count_spec s6' rB (by decide) 2).mono ?_
  rintro v h8 ⟨x8, rfl, k8, hx8⟩
  refine ⟨_, rfl, ?_⟩
  rw [if_pos goodB] at hx8
  have hx8' : x8 = 8 := hx8
  subst hx8'
  refine cEq (fun _ => ?_) (fun h => absurd rfl h)
  refine (check_spec (s6'.keep k8) (by decide) 1).mono ?_
  rintro v h9 ⟨e9, rfl, k9, h91, h92⟩
  refine ⟨_, rfl, ?_⟩
  have he9 : e9 = 1 := by
    rcases h91 with h | h
    · have := (h92.1 h).el (2, 8) (by simp [lB]); omega
    · exact h
  subst he9
  exact ⟨rfl, (((((((k1.trans k2).trans k3).trans k4).trans k5).trans k6).trans k8).trans k9)⟩

theorem goodsNorms_run {h : Heap} {a : Option Addr} {n c : Nat} {l : List Stk} (s : Sl h a n c l) (hr : rng l) (types kind : Int) : Run Try.prog 4 [.slice a n c, .int .i64 types, .int .i64 kind] h fun v h' => v = .bool true ∧ Keep h h' := by
  refine V4 _ _ _ _ _ _ _ ?_
  unfold VC4
  refine cIf (fun hn => ?_) (fun hn => ?_)
  · refine (awake_spec h).mono ?_
    rintro v h1 ⟨rfl, k1⟩
    exact ⟨_, rfl, rfl, k1⟩
  have hn' : n ≤ 20 := by omega
  refine (norm_spec s hr (by omega)).mono ?_
  rintro v h1 ⟨a1, n1, c1, r1, e1, rfl, s1, k1, hN1⟩
  refine ⟨_, _, _, _, rfl, ?_⟩
  refine (refNorm_spec (s.keep k1) hr (by omega)).mono ?_
  rintro v h2 ⟨a2, n2, c2, r2, e2, rfl, s2, k2, hN2⟩
  refine ⟨_, _, _, _, rfl, ?_⟩
  obtain ⟨rfl, rfl⟩ := hN1.unique hN2
  have q2 := (s.keep k1).keep k2
  have hn1 : n1 ≤ 1000 := by have := hN1.len; have := s.1; have := s1.1; omega
  refine (size_spec q2 hr (by omega)).mono ?_
  rintro v h3 ⟨z3, e3, rfl, k3, he3, h3a, h3b⟩
  refine ⟨_, _, rfl, ?_⟩
  refine (refSize_spec (q2.keep k3) hr (by omega)).mono ?_
  rintro v h4 ⟨z4, e4, rfl, k4, he4, h4a, h4b⟩
  refine ⟨_, _, rfl, ?_⟩
  have hee : e3 = e4 := he3.trans he4.symm
  subst hee
  have hzz : z3 = z4 := by
    by_cases hz : e3 = 0
    · have h1 := hN1.2.1 (hN1.1.trans (he3.symm.trans hz))
      rw [h3b hz _ h1, h4b hz _ h1]
    · rw [h3a hz, h4a hz]
  subst hzz
  have q4 := (q2.keep k3).keep k4
  refine (same_spec (((s1.keep k2).keep k3).keep k4) ((s2.keep k3).keep k4) hn1).mono ?_
  rintro v h5 ⟨rfl, rfl⟩
  refine ⟨_, rfl, ?_⟩
  rw [decide_eq_true rfl]
  refine cEq (fun _ => ?_) (fun h => absurd rfl h)
  refine cEq (fun _ => ?_) (fun h => absurd rfl h)
  refine cEq (fun _ => ?_) (fun h => absurd rfl h)
  refine (check_spec q4 (by omega) types).mono ?_
  rintro v h6 ⟨e6, rfl, k6, h6a, h6b⟩
  refine ⟨_, rfl, ?_⟩
  refine (refCheck_spec (q4.keep k6) hr (by omega) types).mono ?_
  rintro v h7 ⟨e7, rfl, k7, h7a, h7b⟩
  refine ⟨_, rfl, ?_⟩
  have h67 : e6 = e7 := by
    rcases h6a with h | h <;> rcases h7a with g | g
    · omega
    · have := h7b.2 (h6b.1 h); omega
    · have := h6b.2 (h7b.1 g); omega
    · omega
  subst h67
  refine cEq (fun _ => ?_) (fun h => absurd rfl h)
  have q7 := (q4.keep k6).keep k7
  refine (count_spec q7 hr (by omega) kind).mono ?_
  rintro v h8 ⟨x8, rfl, k8, hx8⟩
  refine ⟨_, rfl, ?_⟩
  refine (refCount_spec (q7.keep k8) hr (by omega) kind).mono ?_
  rintro v h9 ⟨x9, rfl, k9, hx9⟩
  refine ⟨_, rfl, ?_⟩
  have h89 : x8 = x9 := hx8.trans hx9.symm
  subst h89
  refine cEq (fun _ => ?_) (fun h => absurd rfl h)
  refine (awake_spec h9).mono ?_
  rintro v h10 ⟨rfl, k10⟩
  exact ⟨_, rfl, rfl, (((((((k1.trans k2).trans k3).trans k4).trans k6).trans k7).trans k8).trans k9).trans k10⟩
end Go.Proofs.Ytjcjlhpabjjflaa
