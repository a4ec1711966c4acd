/- What layer 8 computes: Times (the code's and the reference's), the reference's Add and Sub; the laws GoodsSums and GoodsTimes over the heap. -/
import Derived.Test.YtjcjlhpabjjflaaPh
set_option linter.unusedVariables false
namespace Go.Proofs.Ytjcjlhpabjjflaa
open Go Go.Sort Go.Shelf Go.Proofs
attribute [local irreducible] appK copyK delK updK lookK makeK rangeK nextM entryM mapEntryK entryStK lenMapK

/- ## Products -/
theorem call72 : Callable Try.prog 72 := ⟨_, Try.func72, by kernel_rfl, by kernel_rfl⟩
theorem mul64_spec (x y : Nat) (hx : x < 18446744073709551616) (hy : y < 18446744073709551616) (h : Heap) :
    Run Try.prog 72 [.int .u64 x, .int .u64 y] h fun v h' => v = .tuple #[.int .u64 ((x * y / 18446744073709551616 : Nat) : Int), .int .u64 ((x * y % 18446744073709551616 : Nat) : Int)] ∧ h' = h := by
  refine ⟨call72, fun w hw => (Any.bits_Mul64 Try.lays264 x y hx hy w).mono ?_⟩
  rintro e w' ⟨rfl, rfl⟩
  exact ⟨_, rfl, ⟨rfl, hw⟩, .refl _⟩
theorem calcSize_spec {x : Nat} (hx : x < 18446744073709551616) (h : Heap) : Run Try.prog 73 [.int .i64 (x : Int)] h fun v h' => v = .int .u64 (x : Int) ∧ h' = h := by
  refine V73 _ _ _ ?_
  unfold VC73
  refine cIf (fun hn => by omega) (fun _ => ?_)
  rw [IntKind.wrap_u64]
  exact ⟨by congr 1; omega, rfl⟩
theorem calcMul_spec {a b : Int} {h : Heap} {R : Value → Heap → Prop} (ha : 0 ≤ a ∧ a ≤ 9223372036854775807) (hb : 0 ≤ b ∧ b ≤ 9223372036854775807)
    (h1 : a * b ≤ 9223372036854775807 → R (.tuple #[.int .i64 (a * b), .int .i64 0]) h) (h2 : 9223372036854775807 < a * b → R (.tuple #[.int .i64 0, .int .i64 5]) h) : Run Try.prog 50 [.int .i64 a, .int .i64 b] h R := by
  obtain ⟨x, rfl⟩ := Int.eq_ofNat_of_zero_le ha.1
  obtain ⟨y, rfl⟩ := Int.eq_ofNat_of_zero_le hb.1
  refine V50 _ _ _ _ ?_
  unfold VC50
  refine (calcSize_spec (by omega) h).mono ?_
  rintro v h' ⟨rfl, rfl⟩
  refine ⟨_, rfl, (calcSize_spec (by omega) h').mono ?_⟩
  rintro v h2' ⟨rfl, rfl⟩
  refine ⟨_, rfl, (mul64_spec x y (by omega) (by omega) h2').mono ?_⟩
  rintro v h3 ⟨rfl, rfl⟩
  refine ⟨_, _, rfl, ?_⟩
  rw [← Int.natCast_mul] at h1 h2
  generalize hz : x * y = z at *
  rw [decide_eq_false (show ¬ (x : Int) < 0 by omega), decide_eq_false (show ¬ (y : Int) < 0 by omega)]
  refine cNot (cB (fun _ => ?_) (fun h => absurd h (by decide)))
  refine cIf (fun h => h2 (by omega)) fun hq => ?_
  refine cIf (fun h => h2 (by omega)) fun hq2 => ?_
  refine cNot (cB (fun _ => ?_) (fun h => absurd h (by decide)))
  have e1 : ((z % 18446744073709551616 : Nat) : Int) = (z : Int) := by omega
  rw [e1] at hq2 ⊢
  rw [w64 (by omega) (by omega)]
  exact h1 (by omega)

/- ## Times -/
open Classical in
noncomputable def timesE (l : List Stk) (n : Int) : Int := if errN l = 0 then (if n < 0 then 1 else if ∃ k, MaxQ < tot l k * n then 5 else 0) else errN l
def TimesP (l : List Stk) (n e : Int) (r : List Stk) : Prop := e = timesE l n ∧ (e ≠ 0 → r = []) ∧ (e = 0 → r.Pairwise (fun x y => x.1 < y.1) ∧ ∀ k m, (k, m) ∈ r ↔ m = tot l k * n ∧ 0 < m)
theorem TimesP.unique {l r q : List Stk} {n e f : Int} (h1 : TimesP l n e r) (h2 : TimesP l n f q) : e = f ∧ r = q := by
  have he : e = f := h1.1.trans h2.1.symm
  subst he
  by_cases h : e = 0
  · exact ⟨rfl, rise_unique (h1.2.2 h).1 (h2.2.2 h).1 fun p => by obtain ⟨k, n⟩ := p; rw [(h1.2.2 h).2, (h2.2.2 h).2]⟩
  · exact ⟨rfl, (h1.2.1 h).trans (h2.2.1 h).symm⟩
theorem timesE_bad {l : List Stk} {n : Int} (h : errN l ≠ 0) : timesE l n = errN l := by unfold timesE; rw [if_neg h]
theorem timesE_neg {l : List Stk} {n : Int} (h : errN l = 0) (hn : n < 0) : timesE l n = 1 := by unfold timesE; rw [if_pos h, if_pos hn]
theorem timesE_over {l : List Stk} {n k : Int} (h : errN l = 0) (hn : ¬ n < 0) (hk : MaxQ < tot l k * n) : timesE l n = 5 := by unfold timesE; rw [if_pos h, if_neg hn, if_pos ⟨k, hk⟩]
theorem timesE_ok {l : List Stk} {n : Int} (h : errN l = 0) (hn : ¬ n < 0) (hk : ∀ k, tot l k * n ≤ MaxQ) : timesE l n = 0 := by
  unfold timesE; rw [if_pos h, if_neg hn, if_neg]; rintro ⟨k, h2⟩; have := hk k; omega
def TimesR (h : Heap) (l : List Stk) (n : Int) (v : Value) (h' : Heap) : Prop :=
  ∃ (a : Option Addr) (m c : Nat) (r : List Stk) (e : Int), v = .tuple #[.slice a m c, .int .i64 e] ∧ Sl h' a m c r ∧ Keep h h' ∧ TimesP l n e r
theorem times_spec {h : Heap} {a : Option Addr} {m c : Nat} {l : List Stk} {n : Int} (s : Sl h a m c l) (hr : rng l) (hm : m ≤ 1000) (hn : n ≤ 9223372036854775807) : Run Try.prog 30 [.slice a m c, .int .i64 n] h (TimesR h l n) := by
  have hlm : l.length = m := s.1
  have hM : MaxQ = 1125899906842624 := rfl
  refine V30 _ _ _ _ _ _ ?_
  unfold VC30
  refine (counts_spec s hr hm).mono ?_
  rintro v h1 ⟨r, cc, e, rfl, hmm, k1, hfr, he, h0, -⟩
  refine ⟨_, _, rfl, ?_⟩
  refine cNe (fun hz => ⟨none, 0, 0, [], e, rfl, .nil _ _ _ _ _, k1, he.trans (timesE_bad (he ▸ hz)).symm, fun _ => rfl, fun h => absurd h hz⟩) fun hz => ?_
  have hez : errN l = 0 := he ▸ hz
  refine cIf (fun hn0 => ⟨none, 0, 0, [], 1, rfl, .nil _ _ _ _ _, k1, (timesE_neg hez hn0).symm, fun _ => rfl, fun h => absurd h (by decide)⟩) fun hn0 => ?_
  obtain ⟨hcm, b, rfl⟩ := h0 hz
  have hb := hfr b rfl
  have hlc := hcm.len
  have htl := tot_nonneg (errN_zero.1 hez).1
  have hbl := MapI.lt hmm
  have hkeys0 : ∀ k, k ∉ cc.map (·.1) → tot l k = 0 := fun k hk => by rw [← hcm.tots]; exact tot_none hk
  refine range_spec tyM hmm fun h2 hI k2 s2 => ?_
  refine ⟨fun h3 => ∃ (left : List Int) (c' : List Stk), IterI h3 h1.size (some b) (MV c') left ∧ Keep h h3 ∧ (∀ k, tot c' k = if k ∈ left then tot l k else tot l k * n) ∧ (∀ k, k ∉ left → tot l k * n ≤ MaxQ) ∧
      (∀ p ∈ c', 1 ≤ p.1 ∧ 0 ≤ p.2 ∧ p.2 ≤ MaxQ) ∧ c'.map (·.1) = cc.map (·.1), fun h3 => leftN h1.size (some b) h3,
    ⟨_, cc, hI, k1.trans k2, fun k => ?_, fun k hk => ?_, hcm.pos, rfl⟩, ?_⟩
  · rw [hcm.tots]
    split
    · rfl
    · rename_i hk
      rw [MV_keys] at hk
      rw [hkeys0 k hk, Int.zero_mul]
  · rw [MV_keys] at hk
    rw [hkeys0 k hk, Int.zero_mul]; decide
  rintro - h3 ⟨left, c', hI3, k3, htot, hle, hpos, hkeys⟩
  have hm3 : MapI h3 b (MV c') := hI3.mapO
  have hnd : (c'.map (·.1)).Nodup := by rw [← MV_keys]; exact MapI.nodup hm3
  have htop : ∀ p ∈ c', p.1 ≤ 9223372036854775807 := fun p hp => by
    have : p.1 ∈ cc.map (·.1) := by rw [← hkeys]; exact List.mem_map.2 ⟨p, hp, rfl⟩
    obtain ⟨q, hq, he⟩ := List.mem_map.1 this
    have := hcm.top q hq
    omega
  have hlen : c'.length ≤ 1000 := by have := congrArg List.length hkeys; simp only [List.length_map] at this; omega
  refine next_spec hI3 (fun hl => ?_) (fun k w h4 hk hw hI4 k4 s4 => ?_)
  · subst hl
    refine (listed_spec (m := some b) hm3 hnd hpos htop hlen).mono ?_
    rintro v h5 ⟨a5, n5, c5, q, rfl, hs5, k5, hsn, -⟩
    refine ⟨_, _, _, rfl, _, _, _, q, 0, rfl, hs5, k3.trans k5, (timesE_ok hez hn0 fun k => hle k (by simp)).symm, fun h => absurd rfl h, fun _ => ⟨hsn.1, fun k n' => ?_⟩⟩
    rw [hsn.2, htot]; simp
  · obtain ⟨q, hq, hqe⟩ := List.mem_map.1 hw
    simp only [Prod.mk.injEq] at hqe
    obtain ⟨rfl, rfl⟩ := hqe
    have hv := tot_mem hnd hq
    have hv2 := htot q.1
    rw [if_pos hk] at hv2
    have hq0 := hpos q hq
    have hm4 : MapI h4 b (MV c') := hI4.mapO
    have hql : q.2 = tot l q.1 := by omega
    have k34 : Keep h h4 := ((KB.of_keep k3).trans k4).keep (by have := k1.size; simp; omega)
    refine ⟨_, _, rfl, ?_⟩
    refine calcMul_spec (by omega) (by omega) (fun hp => ⟨_, _, rfl, ?_⟩) (fun hp => ⟨_, _, rfl, ?_⟩)
    · refine cNe (fun h => absurd rfl h) fun _ => ?_
      refine cIf (fun ho => ?_) (fun ho => ?_)
      · exact ⟨none, 0, 0, [], 5, rfl, .nil _ _ _ _ _, k34, (timesE_over (k := q.1) hez hn0 (by rw [← hql]; omega)).symm, fun _ => rfl, fun h => absurd h (by decide)⟩
      · have hkk : q.1 ∈ (MV c').map (·.1) := by rw [MV_keys]; exact List.mem_map.2 ⟨q, hq, rfl⟩
        refine upd_spec2 tyM tyI hm4 fun h5 hm5 k5 s5 hx5 => ?_
        have hI5 := hI4.upd hm5 k5 hkk hx5
        have hkset := kvSet_keys (x := .int .i64 (q.2 * n)) hkk
        rw [MV_set] at hm5 hI5 hkset
        rw [MV_keys, MV_keys] at hkset
        have hnn : 0 ≤ q.2 * n := Int.mul_nonneg hq0.2.1 (by omega)
        refine ⟨⟨_, _, hI5, ((KB.of_keep k34).trans k5).keep (by simp; omega), fun j => ?_, fun j hj => ?_, fun p hp => ?_, hkset.trans hkeys⟩, ?_⟩
        · rw [cSet_tot hnd, htot]
          by_cases hjq : j = q.1
          · subst hjq
            rw [if_pos rfl, if_neg (by rw [List.Nodup.mem_erase_iff hI3.nodup]; exact fun h => h.1 rfl), hql]
          · rw [if_neg hjq]
            have : j ∈ left.erase q.1 ↔ j ∈ left := by rw [List.Nodup.mem_erase_iff hI3.nodup]; exact ⟨fun h => h.2, fun h => ⟨hjq, h⟩⟩
            simp only [this]
        · by_cases hjq : j = q.1
          · subst hjq; rw [← hql]; omega
          · exact hle j fun h => hj (by rw [List.Nodup.mem_erase_iff hI3.nodup]; exact ⟨hjq, h⟩)
        · rcases cSet_mem hp with rfl | hp
          · exact ⟨hq0.1, hnn, by show q.2 * n ≤ MaxQ; omega⟩
          · exact hpos p hp
        · show leftN h1.size (some b) h5 < leftN h1.size (some b) h3
          rw [leftN_eq hI3, leftN_eq hI5, List.length_erase_of_mem hk]
          have := List.length_pos_of_mem hk
          omega
    · refine cNe (fun _ => ?_) fun h => absurd h (by decide)
      exact ⟨none, 0, 0, [], 5, rfl, .nil _ _ _ _ _, k34, (timesE_over (k := q.1) hez hn0 (by rw [← hql]; omega)).symm, fun _ => rfl, fun h => absurd h (by decide)⟩
theorem refTimes_spec {h : Heap} {a : Option Addr} {m c : Nat} {l : List Stk} {n : Int} (s : Sl h a m c l) (hr : rng l) (hm : m ≤ 1000) (hn : n ≤ 9223372036854775807) : Run Try.prog 31 [.slice a m c, .int .i64 n] h (TimesR h l n) := by
  have hlm : l.length = m := s.1
  have hM : MaxQ = 1125899906842624 := rfl
  refine V31 _ _ _ _ _ _ ?_
  unfold VC31
  refine (refNorm_spec s hr hm).mono ?_
  rintro v h1 ⟨a1, n1, c1, r1, e, rfl, s1, k1, hN⟩
  refine ⟨_, _, _, _, rfl, ?_⟩
  refine cNe (fun hz => ⟨none, 0, 0, [], e, rfl, .nil _ _ _ _ _, k1, hN.1.trans (timesE_bad (hN.1 ▸ hz)).symm, fun _ => rfl, fun h => absurd h hz⟩) fun hz => ?_
  have hez : errN l = 0 := hN.1 ▸ hz
  refine cIf (fun hn0 => ⟨none, 0, 0, [], 1, rfl, .nil _ _ _ _ _, k1, (timesE_neg hez hn0).symm, fun _ => rfl, fun h => absurd h (by decide)⟩) fun hn0 => ?_
  have hsn := hN.2.1 hz
  have hlen := hN.len
  have hr1 : r1.length = n1 := s1.1
  have hbd := hsn.bd hez
  have hel : ∀ p ∈ r1, p.2 = tot l p.1 ∧ 0 < p.2 := fun p hp => (hsn.2 p.1 p.2).1 hp
  refine ⟨fun p q qc i h2 => ∃ (j : Nat) (out : List Stk), i = j ∧ j ≤ n1 ∧ Keep h1 h2 ∧ OwnS h1.size 74 2 h2 p q qc (out.flatMap encS) ∧ out.length = q ∧ (∀ p ∈ r1.take j, p.2 * n ≤ MaxQ) ∧ q ≤ j ∧
      out.Pairwise (fun x y => x.1 < y.1) ∧ (∀ k v, (k, v) ∈ out ↔ 0 < v ∧ ∃ p ∈ r1.take j, p.1 = k ∧ v = p.2 * n), fun _ _ _ i _ => n1 - i.toNat,
    ⟨0, [], rfl, Nat.zero_le _, .refl _ _, .nil _ _ _ _, rfl, by simp, Nat.le_refl _, .nil, by simp⟩, ?_⟩
  rintro - h2 p q qc i ⟨j, out, rfl, hj, k2, own, hoq, hle, hqj, hrise, hmem⟩
  refine cIf (fun hlt => ?_) (fun hge => ?_)
  · have hjl : j < r1.length := by omega
    have s2 := s1.keep k2
    have hx := hel r1[j] (by simp)
    have hxb := hbd r1[j] (by simp)
    refine Sl.el s2 hjl fun b o c0 c1 => ⟨by omega, by omega, _, c1, by omega, ?_⟩
    have htd : Int.tdiv 1125899906842624 r1[j].2 = 1125899906842624 / r1[j].2 := Int.tdiv_eq_ediv_of_nonneg (by decide)
    have hdle : (1125899906842624 : Int) / r1[j].2 ≤ 1125899906842624 := Int.ediv_le_self _ (by decide)
    have hd0 : (0 : Int) ≤ 1125899906842624 / r1[j].2 := Int.ediv_nonneg (by decide) (by omega)
    rw [htd, w64 (by omega) (by omega)]
    have hiff : n ≤ 1125899906842624 / r1[j].2 ↔ n * r1[j].2 ≤ 1125899906842624 := Int.le_ediv_iff_mul_le hx.2
    rw [w64n (by omega)]
    refine cIf (fun ho => ?_) (fun ho => ?_)
    · refine ⟨none, 0, 0, [], 5, rfl, .nil _ _ _ _ _, k1.trans k2, (timesE_over (k := r1[j].1) hez hn0 ?_).symm, fun _ => rfl, fun h => absurd h (by decide)⟩
      rw [← hx.1, Int.mul_comm, hM]
      exact Int.not_le.1 fun hc => by have := hiff.2 hc; omega
    have hok : r1[j].2 * n ≤ MaxQ := by rw [Int.mul_comm, hM]; exact hiff.1 (by omega)
    have hle' : ∀ p ∈ r1.take (j + 1), p.2 * n ≤ MaxQ := fun p hp => by
      rw [take_snoc hjl] at hp
      rcases List.mem_append.1 hp with hp | hp
      · exact hle p hp
      · simp at hp; subst hp; exact hok
    refine cIf (fun hpos => ?_) (fun hnp => ?_)
    · refine Sl.el s2 hjl fun b o c0 c1 => ⟨by omega, by omega, _, c0, ?_⟩
      refine Sl.el s2 hjl fun b o c0 c1 => ⟨by omega, by omega, _, c1, ?_⟩
      have hnn : 0 < r1[j].2 * n := Int.mul_pos hx.2 hpos
      rw [Int.mul_comm n, w64 (by omega) (by omega)]
      refine newB_intro fun h3 hb3 k3 s3 => ?_
      refine app1 (x := (r1[j].1, r1[j].2 * n)) (r := out) (B := h1.size) (own.keep k3) (by have := k2.size; omega) (by omega) hb3 fun a' c' h4 own4 k4 _ => ?_
      have hge := own.ge
      refine ⟨_, _, _, rfl, ⟨j + 1, _, rfl, by omega, ((KB.of_keep (k2.trans k3)).trans k4).keep hge, own4, by simp [hoq], hle', by omega, ?_, fun k v => ?_⟩, by simp only [Int.toNat_natCast]; omega⟩
      · rw [List.pairwise_append]
        refine ⟨hrise, by simp, fun u hu w hw => ?_⟩
        simp at hw; subst hw
        obtain ⟨-, p, hp, hpe, -⟩ := (hmem u.1 u.2).1 hu
        have hrr := hsn.1
        rw [← List.take_append_drop j r1, List.pairwise_append] at hrr
        have := hrr.2.2 p hp r1[j] (mem_drop_get hjl)
        show u.1 < r1[j].1
        omega
      · rw [List.mem_append, hmem, take_snoc hjl]
        simp only [List.mem_append, List.mem_singleton, Prod.mk.injEq]
        constructor
        · rintro (⟨h1, p, hp, h2, h3⟩ | ⟨rfl, rfl⟩)
          · exact ⟨h1, p, .inl hp, h2, h3⟩
          · exact ⟨hnn, _, .inr rfl, rfl, rfl⟩
        · rintro ⟨h1, p, hp | rfl, h2, h3⟩
          · exact .inl ⟨h1, p, hp, h2, h3⟩
          · exact .inr ⟨h2.symm, h3⟩
    · have hn00 : n = 0 := by omega
      refine ⟨⟨j + 1, out, rfl, by omega, k2, own, hoq, hle', by omega, hrise, fun k v => ?_⟩, by simp only [Int.toNat_natCast]; omega⟩
      rw [hmem, hn00]
      simp only [Int.mul_zero]
      constructor
      · rintro ⟨h1, p, -, -, h3⟩; omega
      · rintro ⟨h1, p, -, -, h3⟩; omega
  · rw [List.take_of_length_le (by omega)] at hle hmem
    have htn := tot_nonneg (errN_zero.1 hez).1
    have hall : ∀ k, tot l k * n ≤ MaxQ := fun k => by
      by_cases h0 : tot l k = 0
      · rw [h0, Int.zero_mul]; decide
      · exact hle (k, tot l k) ((hsn.2 k _).2 ⟨rfl, by have := htn k; omega⟩)
    refine ⟨p, q, qc, out, 0, rfl, own.slOf encS_len hoq, k1.trans k2, (timesE_ok hez hn0 hall).symm, fun h => absurd rfl h, fun _ => ⟨hrise, fun k v => ?_⟩⟩
    rw [hmem]
    constructor
    · rintro ⟨h1, p, hp, rfl, rfl⟩
      rw [← (hel p hp).1]; exact ⟨rfl, h1⟩
    · rintro ⟨rfl, h2⟩
      refine ⟨h2, (k, tot l k), (hsn.2 k _).2 ⟨rfl, ?_⟩, rfl, rfl⟩
      have := htn k
      by_cases h0 : tot l k = 0
      · rw [h0, Int.zero_mul] at h2; omega
      · omega

/- ## The reference's Add and Sub -/
def BothR (h : Heap) (x y : List Stk) (v : Value) (h' : Heap) : Prop :=
  ∃ (p1 : Option Addr) (m1 m2 : Nat) (p2 : Option Addr) (m3 m4 : Nat) (e : Int) (r1 r2 : List Stk), v = .tuple #[.slice p1 m1 m2, .slice p2 m3 m4, .int .i64 e] ∧ Keep h h' ∧ e = pairE x y ∧
    (e = 0 → Sl h' p1 m1 m2 r1 ∧ Sl h' p2 m3 m4 r2 ∧ SN x r1 ∧ SN y r2)
theorem both_spec {h : Heap} {a b : Option Addr} {n c n' c' : Nat} {x y : List Stk} (s : Sl h a n c x) (t : Sl h b n' c' y) (hx : rng x) (hy : rng y) (hn : n ≤ 1000) (hn' : n' ≤ 1000) :
    Run Try.prog 49 [.slice a n c, .slice b n' c'] h (BothR h x y) := by
  refine V49 _ _ _ _ _ _ _ _ ?_
  unfold VC49
  refine (refNorm_spec s hx hn).mono ?_
  rintro v h1 ⟨a1, n1, c1, r1, e1, rfl, s1, k1, hN1⟩
  refine ⟨_, _, _, _, rfl, ?_⟩
  refine cNe (fun hz => ⟨_, _, _, _, _, _, e1, [], [], rfl, k1, by unfold pairE; rw [if_neg (hN1.1 ▸ hz)]; exact hN1.1, fun h => absurd h hz⟩) fun hz => ?_
  have ex : errN x = 0 := hN1.1 ▸ hz
  refine (refNorm_spec (t.keep k1) hy hn').mono ?_
  rintro v h2 ⟨a2, n2, c2, r2, e2, rfl, s2, k2, hN2⟩
  refine ⟨_, _, _, _, rfl, ?_⟩
  refine cNe (fun hz2 => ⟨_, _, _, _, _, _, e2, [], [], rfl, k1.trans k2, by unfold pairE; rw [if_pos ex]; exact hN2.1, fun h => absurd h hz2⟩) fun hz2 => ?_
  exact ⟨_, _, _, _, _, _, 0, r1, r2, rfl, k1.trans k2, (pairE_zero.2 ⟨ex, hN2.1 ▸ hz2⟩).symm, fun _ => ⟨s1.keep k2, s2, hN1.2.1 hz, hN2.2.1 hz2⟩⟩
theorem refAdd_spec {h : Heap} {a b : Option Addr} {n c n' c' : Nat} {x y : List Stk} (s : Sl h a n c x) (t : Sl h b n' c' y) (hx : rng x) (hy : rng y) (hn : n ≤ 400) (hn' : n' ≤ 400) :
    Run Try.prog 28 [.slice a n c, .slice b n' c'] h (AddR h x y) := by
  have hxn : x.length = n := s.1
  have hyn : y.length = n' := t.1
  refine V28 _ _ _ _ _ _ _ _ ?_
  unfold VC28
  refine (both_spec s t hx hy (by omega) (by omega)).mono ?_
  rintro v h1 ⟨p1, m1, m2, p2, m3, m4, e, r1, r2, rfl, k1, he, h0⟩
  refine ⟨_, _, _, _, _, _, _, rfl, ?_⟩
  refine cNe (fun hz => ⟨none, 0, 0, [], e, rfl, .nil _ _ _ _ _, k1, ?_, fun _ => rfl, fun h => absurd h hz⟩) fun hz => ?_
  · unfold addE; rw [if_neg (he ▸ hz)]; exact he
  obtain ⟨s1, s2, sn1, sn2⟩ := h0 hz
  have hpe : pairE x y = 0 := he ▸ hz
  obtain ⟨ex, ey⟩ := pairE_zero.1 hpe
  have l1 := sn1.len
  have l2 := sn2.len
  have z1 : r1.length = m1 := s1.1
  have z2 : r2.length = m3 := s2.1
  refine appS (r := []) (B := h1.size) (.nil _ _ _ _) (Nat.le_refl _) (by omega) (by omega) s1 fun a2 c2 h2 own2 k2 => ?_
  refine ⟨_, _, _, rfl, ?_⟩
  have k12 : Keep h1 h2 := k2.keep (by simp [ownB])
  rw [List.nil_append] at own2
  refine appS (r := r1) (B := h1.size) own2 k12.size (by omega) (by omega) (s2.keep k12) fun a3 c3 h3 own3 k3 => ?_
  refine ⟨_, _, _, rfl, ?_⟩
  have k13 : Keep h1 h3 := ((KB.of_keep k12).trans k3).keep own2.ge
  have hs3 : Sl h3 a3 (0 + m1 + m3) c3 (r1 ++ r2) := own3.slOf encS_len (by simp [z1, z2])
  refine (refNorm_spec hs3 (rng_append (sn1.rng ex hx) (sn2.rng ey hy)) (by omega)).mono ?_
  rintro v h4 ⟨a4, n4, c4, r, e4, rfl, s4, k4, hN⟩
  exact ⟨_, _, _, _, rfl, _, _, _, r, e4, rfl, s4, (k1.trans k13).trans k4, add_norm hpe sn1 sn2 hN⟩
theorem refSub_spec {h : Heap} {a b : Option Addr} {n c n' c' : Nat} {x y : List Stk} (s : Sl h a n c x) (t : Sl h b n' c' y) (hx : rng x) (hy : rng y) (hn : n ≤ 400) (hn' : n' ≤ 400) :
    Run Try.prog 29 [.slice a n c, .slice b n' c'] h (SubR h x y) := by
  have hxn : x.length = n := s.1
  have hyn : y.length = n' := t.1
  have hM : MaxQ = 1125899906842624 := rfl
  refine V29 _ _ _ _ _ _ _ _ ?_
  unfold VC29
  refine (both_spec s t hx hy (by omega) (by omega)).mono ?_
  rintro v h1 ⟨p1, m1, m2, p2, m3, m4, e, r1, r2, rfl, k1, he, h0⟩
  refine ⟨_, _, _, _, _, _, _, rfl, ?_⟩
  refine cNe (fun hz => ⟨none, 0, 0, [], e, rfl, .nil _ _ _ _ _, k1, he.trans (subE_bad (he ▸ hz)).symm, fun _ => rfl, fun h => absurd h hz⟩) fun hz => ?_
  obtain ⟨s1, s2, sn1, sn2⟩ := h0 hz
  have hpe : pairE x y = 0 := he ▸ hz
  obtain ⟨ex, ey⟩ := pairE_zero.1 hpe
  have gx := (errN_zero.1 ex).1
  have gy := (errN_zero.1 ey).1
  have tx := tot_nonneg gx
  have ty := tot_nonneg gy
  have l1 := sn1.len
  have l2 := sn2.len
  have z1 : r1.length = m1 := s1.1
  have z2 : r2.length = m3 := s2.1
  have rr1 := sn1.rng ex hx
  have rr2 := sn2.rng ey hy
  have e1 := sn1.errN ex
  have e2 := sn2.errN ey
  have b1 := sn1.bd ex
  have b2 := sn2.bd ey
  have mx : ∀ k, tot x k ≤ MaxQ := not_over gx (errN_zero.1 ex).2
  have my : ∀ k, tot y k ≤ MaxQ := not_over gy (errN_zero.1 ey).2
  refine ⟨fun i h2 => ∃ j : Nat, i = j ∧ j ≤ m3 ∧ Keep h1 h2 ∧ ∀ p ∈ r2.take j, p.2 ≤ tot x p.1, fun i _ => m3 - i.toNat, ⟨0, rfl, Nat.zero_le _, .refl _ _, by simp⟩, ?_⟩
  rintro - h2 i ⟨j, rfl, hj, k2, hok⟩
  refine cIf (fun hlt => ?_) (fun hge => ?_)
  · have hjl : j < r2.length := by omega
    refine Sl.el (s2.keep k2) hjl fun b o c0 c1 => ⟨by omega, by omega, _, c0, ?_⟩
    obtain ⟨b', o', hp2, hc2⟩ := (s2.keep k2).2.2 j r2[j] (List.getElem?_eq_getElem hjl)
    subst hp2
    refine ⟨by omega, by omega, _, hc2 1 _ rfl, ?_⟩
    refine (refCount_spec (s1.keep k2) rr1 (by omega) r2[j].1).mono ?_
    rintro v h3 ⟨w, rfl, k3, hw⟩
    rw [if_pos e1, sn1.tot tx] at hw
    subst hw
    refine ⟨_, rfl, ⟨_, k3.cell (hc2 1 _ rfl) (by simp), rfl⟩, ?_⟩
    have hmem := (sn2.2 r2[j].1 r2[j].2).1 (List.getElem_mem hjl)
    refine cIf (fun hl => ?_) (fun hl => ?_)
    · exact ⟨none, 0, 0, [], 7, rfl, .nil _ _ _ _ _, (k1.trans k2).trans k3, (subE_less hpe (k := r2[j].1) (by omega)).symm, fun _ => rfl, fun h => absurd h (by decide)⟩
    · rw [w64n (by omega)]
      refine ⟨⟨j + 1, rfl, by omega, k2.trans k3, fun p hp => ?_⟩, by simp only [Int.toNat_natCast]; omega⟩
      rw [take_snoc hjl] at hp
      rcases List.mem_append.1 hp with hp | hp
      · exact hok p hp
      · simp at hp; subst hp; omega
  rw [List.take_of_length_le (by omega)] at hok
  have hall : ∀ k, tot y k ≤ tot x k := fun k => by
    by_cases h0 : tot y k = 0
    · rw [h0]; exact tx k
    · exact hok (k, tot y k) ((sn2.2 k _).2 ⟨rfl, by have := ty k; omega⟩)
  clear hge hj
  refine ⟨fun p q qc i h3 => ∃ (j : Nat) (out : List Stk), i = j ∧ j ≤ m1 ∧ Keep h2 h3 ∧ OwnS h2.size 74 2 h3 p q qc (out.flatMap encS) ∧ out.length = q ∧ q ≤ j ∧
      out.Pairwise (fun x y => x.1 < y.1) ∧ (∀ k v, (k, v) ∈ out ↔ 0 < v ∧ k ∈ (r1.take j).map (·.1) ∧ v = tot x k - tot y k), fun _ _ _ i _ => m1 - i.toNat,
    ⟨0, [], rfl, Nat.zero_le _, .refl _ _, .nil _ _ _ _, rfl, Nat.le_refl _, .nil, by simp⟩, ?_⟩
  rintro - h3 p q qc i ⟨j, out, rfl, hj, k3, own, hoq, hqj, hrise, hmem⟩
  have k23 := k2.trans k3
  refine cIf (fun hlt => ?_) (fun hge => ?_)
  · have hjl : j < r1.length := by omega
    obtain ⟨b', o', hp2, hc2⟩ := (s1.keep k23).2.2 j r1[j] (List.getElem?_eq_getElem hjl)
    have s1' := s1.keep k23
    subst hp2
    have hx1 := (sn1.2 r1[j].1 r1[j].2).1 (List.getElem_mem hjl)
    refine ⟨by omega, by omega, _, hc2 1 _ rfl, by omega, by omega, _, hc2 0 _ rfl, ?_⟩
    refine (refCount_spec (s2.keep k23) rr2 (by omega) r1[j].1).mono ?_
    rintro v h4 ⟨w, rfl, k4, hw⟩
    rw [if_pos e2, sn2.tot ty] at hw
    subst hw
    refine ⟨_, rfl, ⟨_, k4.cell (hc2 1 _ rfl) (by simp), rfl⟩, ?_⟩
    have hty := ty r1[j].1
    have hmy := my r1[j].1
    have hmx := mx r1[j].1
    have k34 := k3.trans k4
    rw [w64 (by omega) (by omega), w64n (by omega)]
    refine cIf (fun hp => ?_) (fun hp => ?_)
    · refine ⟨by omega, by omega, _, k4.cell (hc2 0 _ rfl) (by simp), ?_⟩
      refine newB_intro fun h5 hb5 k5 s5 => ?_
      refine app1 (x := (r1[j].1, r1[j].2 - tot y r1[j].1)) (r := out) (B := h2.size) ((own.keep k4).keep k5) (by have := k34.size; omega) (by omega) hb5 fun a' c' h6 own6 k6 _ => ?_
      have hge := own.ge
      refine ⟨_, _, _, rfl, ⟨j + 1, _, rfl, by omega, ((KB.of_keep (k34.trans k5)).trans k6).keep hge, own6, by simp [hoq], by omega, ?_, fun k v => ?_⟩, by simp only [Int.toNat_natCast]; omega⟩
      · rw [List.pairwise_append]
        refine ⟨hrise, by simp, fun u hu w hw => ?_⟩
        simp at hw; subst hw
        obtain ⟨-, hk, -⟩ := (hmem u.1 u.2).1 hu
        obtain ⟨p, hp, hpe⟩ := List.mem_map.1 hk
        have hrr := sn1.1
        rw [← List.take_append_drop j r1, List.pairwise_append] at hrr
        have := hrr.2.2 p hp r1[j] (mem_drop_get hjl)
        show u.1 < r1[j].1
        omega
      · rw [List.mem_append, hmem, take_snoc hjl]
        simp only [List.map_append, List.map_cons, List.map_nil, List.mem_append, List.mem_singleton, Prod.mk.injEq]
        constructor
        · rintro (⟨h1, h2, h3⟩ | ⟨rfl, rfl⟩)
          · exact ⟨h1, .inl h2, h3⟩
          · exact ⟨hp, .inr rfl, by omega⟩
        · rintro ⟨h1, h2 | rfl, h3⟩
          · exact .inl ⟨h1, h2, h3⟩
          · exact .inr ⟨rfl, by omega⟩
    · refine ⟨⟨j + 1, out, rfl, by omega, k34, own.keep k4, hoq, by omega, hrise, fun k v => ?_⟩, by simp only [Int.toNat_natCast]; omega⟩
      rw [hmem, take_snoc hjl]
      simp only [List.map_append, List.map_cons, List.map_nil, List.mem_append, List.mem_singleton]
      constructor
      · rintro ⟨h1, h2, h3⟩; exact ⟨h1, .inl h2, h3⟩
      · rintro ⟨h1, h2 | rfl, h3⟩
        · exact ⟨h1, h2, h3⟩
        · omega
  · rw [List.take_of_length_le (by omega)] at hmem
    refine ⟨p, q, qc, out, 0, rfl, own.slOf encS_len hoq, (k1.trans k2).trans k3, (subE_ok hpe hall).symm, fun h => absurd rfl h, fun _ => ⟨hrise, fun k v => ?_⟩⟩
    rw [hmem]
    constructor
    · rintro ⟨h1, h2, h3⟩; exact ⟨h3, h1⟩
    · rintro ⟨h1, h2⟩
      refine ⟨h2, List.mem_map.2 ⟨(k, tot x k), (sn1.2 k _).2 ⟨rfl, ?_⟩, rfl⟩, h1⟩
      have := ty k; omega
end Go.Proofs.Ytjcjlhpabjjflaa
