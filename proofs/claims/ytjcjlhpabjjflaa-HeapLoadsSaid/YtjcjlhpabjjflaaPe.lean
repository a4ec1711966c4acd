/- What layer 8 computes: Norm, Size, Same, Check, Count, Sub, and the law GoodsNorms. -/
import Derived.Test.YtjcjlhpabjjflaaPd
set_option linter.unusedVariables false
namespace Go.Proofs.Ytjcjlhpabjjflaa
open Go Go.Sort Go.Shelf Go.Proofs
attribute [local irreducible] appK copyK delK updK lookK makeK rangeK nextM entryM mapEntryK entryStK lenMapK

/- ## Plain -/
theorem SN.of_tots {l c r : List Stk} (h : SN c r) (ht : ∀ k, tot c k = tot l k) : SN l r := ⟨h.1, fun k n => by rw [h.2, ht]⟩
theorem SN.nil {r : List Stk} (h : SN [] r) : r = [] := by
  cases r with
  | nil => rfl
  | cons p r =>
    obtain ⟨k, n⟩ := p
    have := (h.2 k n).1 (by simp)
    simp only [tot] at this; omega
def sumI : List Int → Int
  | [] => 0
  | x :: l => x + sumI l
theorem sumI_perm {l m : List Int} (h : l.Perm m) : sumI l = sumI m := by
  induction h with
  | nil => rfl
  | cons x _ ih => simp only [sumI, ih]
  | swap x y l => simp only [sumI]; omega
  | trans _ _ ih1 ih2 => exact ih1.trans ih2
def sumQ (l : List Stk) : Int := sumI (l.map (·.2))
theorem sumQ_cons (p : Stk) (l : List Stk) : sumQ (p :: l) = p.2 + sumQ l := rfl
theorem sumQ_perm {l m : List Stk} (h : l.Perm m) : sumQ l = sumQ m := sumI_perm (h.map _)
theorem sumQ_pos (l : List Stk) (h : ∀ p ∈ l, 0 ≤ p.2) : sumQ (l.filter fun p => decide (0 < p.2)) = sumQ l := by
  induction l with
  | nil => rfl
  | cons p l ih =>
    have h1 := ih fun q hq => h q (by simp [hq])
    have h2 := h p (by simp)
    simp only [List.filter_cons]
    by_cases hp : 0 < p.2
    · simp only [hp, decide_true, if_true]; rw [sumQ_cons, sumQ_cons, h1]
    · simp only [hp, decide_false]; rw [sumQ_cons]; simp only [Bool.false_eq_true, if_false]; omega
theorem nodup_of_keys {c : List Stk} (h : (c.map (·.1)).Nodup) : c.Nodup := by
  rw [List.Nodup, List.pairwise_map] at h
  exact h.imp fun hn e => hn (by rw [e])
theorem rise_keys {r : List Stk} (h : r.Pairwise (fun a b => a.1 < b.1)) : (r.map (·.1)).Nodup := by
  rw [List.Nodup, List.pairwise_map]
  exact h.imp fun h => by omega
theorem SN.sum {c r : List Stk} (h : SN c r) (hnd : (c.map (·.1)).Nodup) (hp : ∀ p ∈ c, 0 ≤ p.2) : sumQ r = sumQ c := by
  rw [← sumQ_pos c hp]
  refine sumQ_perm ((List.perm_ext_iff_of_nodup (nodup_of_keys (rise_keys h.1)) ((nodup_of_keys hnd).filter _)).2 ?_)
  rintro ⟨k, n⟩
  rw [h.2, List.mem_filter, decide_eq_true_iff]
  constructor
  · rintro ⟨h1, h2⟩
    obtain ⟨p, hp, he⟩ := tot_pos (l := c) (k := k) (by omega)
    have := tot_mem hnd hp
    rw [he] at this
    have hpe : p = (k, n) := by obtain ⟨p1, p2⟩ := p; simp only at he this; subst he; rw [h1, this]
    subst hpe
    exact ⟨hp, h2⟩
  · rintro ⟨h1, h2⟩; exact ⟨(tot_mem hnd h1).symm, h2⟩
theorem sumQ_bd {l : List Stk} (h : ∀ p ∈ l, 0 ≤ p.2 ∧ p.2 ≤ MaxQ) : 0 ≤ sumQ l ∧ sumQ l ≤ l.length * MaxQ := by
  induction l with
  | nil => simp [sumQ, sumI]
  | cons p l ih =>
    have h1 := ih fun q hq => h q (by simp [hq])
    have h2 := h p (by simp)
    rw [sumQ_cons, List.length_cons]
    have : ((l.length + 1 : Nat) : Int) * MaxQ = l.length * MaxQ + MaxQ := by rw [Int.natCast_succ, Int.add_mul, Int.one_mul]
    omega
theorem tots_sum {c : List Stk} (hnd : (c.map (·.1)).Nodup) : sumI ((c.map (·.1)).map (tot c)) = sumQ c := by
  have : (c.map (·.1)).map (tot c) = c.map (·.2) := by
    rw [List.map_map]
    exact List.map_congr_left fun p hp => tot_mem hnd hp
  rw [this]; rfl
theorem MapO.nodup {h : Heap} {r : Option Nat} {c : List Stk} (hm : MapO h r (MV c)) : (c.map (·.1)).Nodup := by
  cases r with
  | none => have : c = [] := by simpa [MapO, MV] using hm
            subst this; exact .nil
  | some b => rw [← MV_keys]; exact MapI.nodup hm

theorem mem_drop_get {l : List Stk} {j : Nat} (h : j < l.length) : l[j] ∈ l.drop j := by rw [List.drop_eq_getElem_cons h]; exact List.mem_cons_self
theorem mem_take_get {l : List Stk} {j : Nat} (h : j < l.length) : l[j] ∈ l.take (j + 1) := by rw [take_snoc h]; exact List.mem_append_right _ (List.mem_singleton.2 rfl)

/- ## Norm -/
theorem norm_spec {h : Heap} {a : Option Addr} {n c : Nat} {l : List Stk} (s : Sl h a n c l) (hr : rng l) (hn : n ≤ 1000) : Run Try.prog 17 [.slice a n c] h (NormR h l) := by
  refine V17 _ _ _ _ _ ?_
  unfold VC17
  refine (counts_spec s hr hn).mono ?_
  rintro v h1 ⟨r, m, e, rfl, hm, k1, -, he, h0, h1'⟩
  have hln : l.length = n := s.1
  refine ⟨_, _, rfl, ?_⟩
  by_cases hz : e = 0
  · obtain ⟨hcm, -⟩ := h0 hz
    refine (listed_spec hm hm.nodup hcm.pos hcm.top (by have := hcm.len; omega)).mono ?_
    rintro v h2 ⟨a', n', c', q, rfl, hs, k2, hsn, -⟩
    exact ⟨_, _, _, rfl, _, _, _, q, e, rfl, hs, k1.trans k2, he, fun _ => hsn.of_tots hcm.tots, fun h => absurd hz h⟩
  · obtain ⟨rfl, rfl⟩ := h1' hz
    refine (listed_spec hm hm.nodup (by simp) (by simp) (by simp)).mono ?_
    rintro v h2 ⟨a', n', c', q, rfl, hs, k2, hsn, -⟩
    exact ⟨_, _, _, rfl, _, _, _, q, e, rfl, hs, k1.trans k2, he, fun h => absurd h hz, fun _ => hsn.nil⟩

/- ## Same -/
theorem same_spec {h : Heap} {a b : Option Addr} {n c n' c' : Nat} {x y : List Stk} (s : Sl h a n c x) (t : Sl h b n' c' y) (hn : n ≤ 1000) : Run Try.prog 21 [.slice a n c, .slice b n' c'] h fun v h' => h' = h ∧ v = .bool (decide (x = y)) := by
  have hx : x.length = n := s.1
  have hy : y.length = n' := t.1
  refine V21 _ _ _ _ _ _ _ _ ?_
  unfold VC21
  refine cNe (fun hne => ⟨rfl, ?_⟩) fun he => ?_
  · rw [decide_eq_false]; rintro rfl; omega
  have hnn : n' = n := by omega
  subst hnn
  have hfull : ∀ i : Nat, ¬ ((i : Int) < (n' : Int)) → i ≤ n' → x.take i = y.take i → x = y := fun i h1 h2 h3 => by
    have : i = n' := by omega
    subst this
    rwa [List.take_of_length_le (by omega), List.take_of_length_le (by omega)] at h3
  refine ⟨fun z h1 => h1 = h ∧ ∃ i : Nat, z = i ∧ i ≤ n' ∧ x.take i = y.take i, fun z _ => n' - z.toNat, ⟨rfl, 0, rfl, by omega, rfl⟩, ?_⟩
  rintro - h1 z ⟨rfl, i, rfl, hi, ht⟩
  refine cIf (fun h1 => ?_) (fun h1 => ⟨rfl, by rw [decide_eq_true (hfull i h1 hi ht)]⟩)
  refine cIf (fun h2 => ?_) (fun h2 => ⟨rfl, by rw [decide_eq_true (hfull i h2 hi ht)]⟩)
  have hix : i < x.length := by omega
  have hiy : i < y.length := by omega
  refine Sl.el s hix fun b o c0 c1 => ⟨by omega, by omega, _, c0, _, c1, ?_⟩
  refine Sl.el t hiy fun b o c0 c1 => ⟨by omega, by omega, _, c0, _, c1, ?_⟩
  rw [w64n (by have := s.2.1; omega)]
  have hbeq : (x[i].1 == y[i].1 && (x[i].2 == y[i].2 && true)) = decide (x[i] = y[i]) := by
    rw [Bool.and_true]
    by_cases he : x[i] = y[i]
    · rw [he]; simp
    · rw [decide_eq_false he]
      by_cases h1 : x[i].1 = y[i].1
      · by_cases h2 : x[i].2 = y[i].2
        · exact absurd (Prod.ext h1 h2) he
        · simp [h2]
      · simp [h1]
  rw [hbeq]
  refine cNot (cIf (fun he => ?_) fun hne => ⟨rfl, ?_⟩)
  · refine ⟨⟨rfl, i + 1, rfl, by omega, ?_⟩, by simp only [Int.toNat_natCast]; omega⟩
    rw [take_snoc hix, take_snoc hiy, ht, he]
  · rw [decide_eq_false]; rintro rfl; exact hne rfl

/- ## Size -/
def SizeR (h : Heap) (l : List Stk) (v : Value) (h' : Heap) : Prop :=
  ∃ s e : Int, v = .tuple #[.int .i64 s, .int .i64 e] ∧ Keep h h' ∧ e = errN l ∧ (e ≠ 0 → s = 0) ∧ (e = 0 → ∀ r, SN l r → s = sumQ r)
theorem mul_bd {k : Nat} (h : k ≤ 1000) : (k : Int) * MaxQ ≤ 1000 * 1125899906842624 := by
  have hM : MaxQ = 1125899906842624 := rfl
  rw [hM]; omega
theorem size_spec {h : Heap} {a : Option Addr} {n c : Nat} {l : List Stk} (s : Sl h a n c l) (hr : rng l) (hn : n ≤ 1000) : Run Try.prog 19 [.slice a n c] h (SizeR h l) := by
  have hln : l.length = n := s.1
  have hM : MaxQ = 1125899906842624 := rfl
  refine V19 _ _ _ _ _ ?_
  unfold VC19
  refine (counts_spec s hr hn).mono ?_
  rintro v h1 ⟨r, m, e, rfl, hm, k1, -, he, h0, h1'⟩
  refine ⟨_, _, rfl, ?_⟩
  refine cNe (fun hz => ⟨0, e, rfl, k1, he, fun _ => rfl, fun h => absurd h hz⟩) fun hz => ?_
  obtain ⟨hcm, -⟩ := h0 hz
  have hnd := hm.nodup
  have hbd := sumQ_bd fun p hp => (hcm.pos p hp).2
  have hml := mul_bd (k := m.length) (by have := hcm.len; omega)
  refine range_spec tyM hm fun h2 hI k2 s2 => ?_
  refine ⟨fun x h3 => ∃ left, IterI h3 h1.size r (MV m) left ∧ Keep h h3 ∧ x + sumI (left.map (tot m)) = sumQ m ∧ 0 ≤ x ∧ (∀ k ∈ left, 0 ≤ tot m k ∧ tot m k ≤ MaxQ), fun _ h3 => leftN h1.size r h3, ⟨_, hI, k1.trans k2, ?_, Int.le_refl _, ?_⟩, ?_⟩
  · rw [MV_keys, tots_sum hnd]; omega
  · intro k hk
    rw [MV_keys] at hk
    obtain ⟨p, hp, rfl⟩ := List.mem_map.1 hk
    rw [tot_mem hnd hp]; exact (hcm.pos p hp).2
  rintro - h3 x ⟨left, hI3, k3, hsum, hx0, hlft⟩
  have hpos : ∀ (l : List Int), (∀ k ∈ l, 0 ≤ tot m k ∧ tot m k ≤ MaxQ) → 0 ≤ sumI (l.map (tot m)) := by
    intro l
    induction l with
    | nil => intro _; exact Int.le_refl _
    | cons k l ih =>
      intro hl
      have h1 := ih fun q hq => hl q (by simp [hq])
      have h2 := hl k (by simp)
      simp only [List.map_cons, sumI]; omega
  refine next_spec hI3 (fun hl => ?_) (fun k y h4 hk hy hI4 k4 s4 => ?_)
  · subst hl
    refine ⟨x, 0, rfl, k3, hz ▸ he, fun h => absurd rfl h, fun _ q hq => ?_⟩
    have hq2 : SN m q := hq.of_tots fun k => (hcm.tots k).symm
    rw [hq2.sum hnd fun p hp => (hcm.pos p hp).2.1]
    simp only [List.map_nil, sumI] at hsum; omega
  · obtain ⟨q, hq, hqe⟩ := List.mem_map.1 hy
    simp only [Prod.mk.injEq] at hqe
    obtain ⟨rfl, rfl⟩ := hqe
    have hv := tot_mem hnd hq
    have hperm := sumI_perm ((List.perm_cons_erase hk).map (tot m))
    simp only [List.map_cons, sumI, hv] at hperm
    have hq0 := (hcm.pos q hq).2
    have hrest := hpos (left.erase q.1) fun k hk => hlft k (List.mem_of_mem_erase hk)
    refine ⟨_, _, rfl, ?_⟩
    rw [w64 (by omega) (by omega)]
    refine ⟨⟨_, hI4, ((KB.of_keep k3).trans k4).keep (by have := k1.size; simp; omega), by omega, by omega, fun k hk => hlft k (List.mem_of_mem_erase hk)⟩, ?_⟩
    show leftN h1.size r h4 < leftN h1.size r h3
    rw [leftN_eq hI3, leftN_eq hI4, List.length_erase_of_mem hk]
    have := List.length_pos_of_mem hk
    omega
theorem SN.bd {l r : List Stk} (h : SN l r) (hg : errN l = 0) : ∀ p ∈ r, 0 ≤ p.2 ∧ p.2 ≤ MaxQ := by
  rintro ⟨k, n⟩ hp
  obtain ⟨h1, h2⟩ := (h.2 k n).1 hp
  obtain ⟨h3, h4⟩ := errN_zero.1 hg
  have := not_over h3 h4 k
  exact ⟨by show 0 ≤ n; omega, by show n ≤ MaxQ; omega⟩
theorem SN.len {l r : List Stk} (h : SN l r) : r.length ≤ l.length := by
  have h1 : (r.map (·.1)).Nodup := rise_keys h.1
  have h2 := List.Nodup.length_le_of_subset h1 (l₂ := l.map (·.1)) fun k hk => by
    obtain ⟨⟨k', n⟩, hp, rfl⟩ := List.mem_map.1 hk
    obtain ⟨h3, h4⟩ := (h.2 k' n).1 hp
    obtain ⟨s, hs, he⟩ := tot_pos (l := l) (k := k') (by omega)
    exact List.mem_map.2 ⟨s, hs, he⟩
  simpa using h2
theorem NormP.len {l r : List Stk} {e : Int} (h : NormP l e r) : r.length ≤ l.length := by
  by_cases he : e = 0
  · exact (h.2.1 he).len
  · rw [h.2.2 he]; exact Nat.zero_le _
theorem refSize_spec {h : Heap} {a : Option Addr} {n c : Nat} {l : List Stk} (s : Sl h a n c l) (hr : rng l) (hn : n ≤ 1000) : Run Try.prog 20 [.slice a n c] h (SizeR h l) := by
  have hln : l.length = n := s.1
  refine V20 _ _ _ _ _ ?_
  unfold VC20
  refine (refNorm_spec s hr hn).mono ?_
  rintro v h1 ⟨a', n', c', r, e, rfl, hs, k1, hN⟩
  have hlen := hN.len
  have hrn : r.length = n' := hs.1
  refine ⟨_, _, _, _, rfl, ?_⟩
  have hbds : ∀ p ∈ r, 0 ≤ p.2 ∧ p.2 ≤ MaxQ := by
    by_cases he : e = 0
    · exact (hN.2.1 he).bd (hN.1 ▸ he)
    · rw [hN.2.2 he]; simp
  have hbd := sumQ_bd hbds
  have hml := mul_bd (k := r.length) (by omega)
  refine ⟨fun x i h2 => h2 = h1 ∧ ∃ j : Nat, i = j ∧ j ≤ n' ∧ x + sumQ (r.drop j) = sumQ r ∧ 0 ≤ x, fun _ i _ => n' - i.toNat, ⟨rfl, 0, rfl, by omega, by simp, Int.le_refl _⟩, ?_⟩
  rintro - h2 x i ⟨rfl, j, rfl, hj, hsum, hx⟩
  refine cIf (fun hlt => ?_) (fun hge => ?_)
  · have hjl : j < r.length := by omega
    refine Sl.el hs hjl fun b o c0 c1 => ⟨by omega, by omega, _, c1, ?_⟩
    have hd : r.drop j = r[j] :: r.drop (j + 1) := List.drop_eq_getElem_cons hjl
    rw [hd, sumQ_cons] at hsum
    have h1 := hbds r[j] (by simp)
    have h2 := (sumQ_bd (l := r.drop (j + 1)) fun p hp => hbds p (List.mem_of_mem_drop hp)).1
    rw [w64n (by omega), w64 (by omega) (by omega)]
    exact ⟨⟨rfl, j + 1, rfl, by omega, by omega, by omega⟩, by simp only [Int.toNat_natCast]; omega⟩
  · rw [List.drop_eq_nil_of_le (by omega)] at hsum
    have hx2 : x = sumQ r := by simp only [sumQ, List.map_nil, sumI] at hsum ⊢; omega
    refine ⟨x, e, rfl, k1, hN.1, fun he => ?_, fun he q hq => ?_⟩
    · rw [hx2, hN.2.2 he]; rfl
    · rw [hx2, (hN.2.1 he).unique hq]

/- ## Count -/
open Classical in
def CountR (h : Heap) (l : List Stk) (k : Int) (v : Value) (h' : Heap) : Prop := ∃ x : Int, v = .int .i64 x ∧ Keep h h' ∧ x = if errN l = 0 then tot l k else 0
theorem count_spec {h : Heap} {a : Option Addr} {n c : Nat} {l : List Stk} (s : Sl h a n c l) (hr : rng l) (hn : n ≤ 1000) (k : Int) : Run Try.prog 24 [.slice a n c, .int .i64 k] h (CountR h l k) := by
  refine V24 _ _ _ _ _ _ ?_
  unfold VC24
  refine (counts_spec s hr hn).mono ?_
  rintro v h1 ⟨r, m, e, rfl, hm, k1, -, he, h0, h1'⟩
  refine ⟨_, _, rfl, ?_⟩
  refine cNe (fun hz => ⟨0, rfl, k1, by rw [if_neg (he ▸ hz)]⟩) fun hz => ?_
  obtain ⟨hcm, -⟩ := h0 hz
  refine lookM hm fun _ => ⟨_, rfl, _, rfl, k1, ?_⟩
  rw [if_pos (he ▸ hz), hcm.tots]
theorem refCount_spec {h : Heap} {a : Option Addr} {n c : Nat} {l : List Stk} (s : Sl h a n c l) (hr : rng l) (hn : n ≤ 1000) (k : Int) : Run Try.prog 25 [.slice a n c, .int .i64 k] h (CountR h l k) := by
  have hln : l.length = n := s.1
  refine V25 _ _ _ _ _ _ ?_
  unfold VC25
  refine (refNorm_spec s hr hn).mono ?_
  rintro v h1 ⟨a', n', c', r, e, rfl, hs, k1, hN⟩
  have hlen := hN.len
  have hrn : r.length = n' := hs.1
  refine ⟨_, _, _, _, rfl, ?_⟩
  refine ⟨fun i h2 => h2 = h1 ∧ ∃ j : Nat, i = j ∧ j ≤ n' ∧ k ∉ (r.take j).map (·.1), fun i _ => n' - i.toNat, ⟨rfl, 0, rfl, by omega, by simp⟩, ?_⟩
  rintro - h2 i ⟨rfl, j, rfl, hj, hno⟩
  refine cIf (fun hlt => ?_) (fun hge => ?_)
  · have hjl : j < r.length := by omega
    refine Sl.el hs hjl fun b o c0 c1 => ⟨by omega, by omega, _, c0, ?_⟩
    refine cEq (fun he => ?_) (fun he => ?_)
    · refine Sl.el hs hjl fun b o c0 c1 => ⟨by omega, by omega, _, c1, _, rfl, k1, ?_⟩
      have hmem : r[j] ∈ r := by simp
      by_cases hz : e = 0
      · rw [if_pos (hN.1 ▸ hz)]
        have := ((hN.2.1 hz).2 r[j].1 r[j].2).1 hmem
        rw [this.1, he]
      · exact absurd hjl (by rw [hN.2.2 hz]; simp)
    · rw [w64n (by omega)]
      refine ⟨⟨rfl, j + 1, rfl, by omega, ?_⟩, by simp only [Int.toNat_natCast]; omega⟩
      rw [take_snoc hjl, List.map_append, List.mem_append]
      rintro (h | h)
      · exact hno h
      · simp at h; exact he h.symm
  · rw [List.take_of_length_le (by omega)] at hno
    refine ⟨0, rfl, k1, ?_⟩
    by_cases hz : e = 0
    · rw [if_pos (hN.1 ▸ hz)]
      have hg := (errN_zero.1 (hN.1 ▸ hz)).1
      have h0 := tot_nonneg hg k
      by_cases ht : tot l k = 0
      · exact ht.symm
      · exact absurd (List.mem_map.2 ⟨(k, tot l k), ((hN.2.1 hz).2 k (tot l k)).2 ⟨rfl, by omega⟩, rfl⟩) hno
    · rw [if_neg (hN.1 ▸ hz)]

/- ## Check -/
structure CheckOK (l : List Stk) (types : Int) : Prop where
  len : l.length ≤ 8
  rise : l.Pairwise (fun a b => a.1 < b.1)
  el : ∀ s ∈ l, 1 ≤ s.1 ∧ s.1 ≤ types ∧ 1 ≤ s.2 ∧ s.2 ≤ MaxQ
def CheckR (h : Heap) (l : List Stk) (types : Int) (v : Value) (h' : Heap) : Prop := ∃ e : Int, v = .int .i64 e ∧ Keep h h' ∧ (e = 0 ∨ e = 1) ∧ (e = 0 ↔ CheckOK l types)
theorem check_spec {h : Heap} {a : Option Addr} {n c : Nat} {l : List Stk} (s : Sl h a n c l) (hn : n ≤ 1000) (types : Int) : Run Try.prog 22 [.slice a n c, .int .i64 types] h (CheckR h l types) := by
  have hln : l.length = n := s.1
  have hM : MaxQ = 1125899906842624 := rfl
  refine V22 _ _ _ _ _ _ ?_
  unfold VC22
  refine ⟨fun x i h1 => Keep h h1 ∧ ∃ j : Nat, i = j ∧ j ≤ n ∧ 0 ≤ x ∧ (l.take j).Pairwise (fun a b => a.1 < b.1) ∧ (∀ s ∈ l.take j, 1 ≤ s.1 ∧ s.1 ≤ types ∧ 1 ≤ s.2 ∧ s.2 ≤ MaxQ) ∧ (∀ s ∈ l.take j, s.1 ≤ x) ∧ (0 < x → ∃ s ∈ l.take j, s.1 = x),
    fun _ i _ => n - i.toNat, ⟨.refl _ _, 0, rfl, by omega, Int.le_refl _, .nil, by simp, by simp, fun h => by omega⟩, ?_⟩
  rintro - h1 x i ⟨k1, j, rfl, hj, hx0, hp, hel, hle, hex⟩
  refine cIf (fun hlt => ?_) (fun hge => ?_)
  · have hjl : j < l.length := by omega
    have s1 := s.keep k1
    refine Sl.el s1 hjl fun b o c0 c1 => ⟨by omega, by omega, _, c0, _, c1, ?_⟩
    refine newB_intro fun h2 hb2 k2 s2 => ?_
    refine storeS_blk (l := [.int .i64 0, .int .i64 0]) hb2 (by simp) (by simp [single]) fun h3 hb3 k3 s3 => ?_
    have hb3' : h3[h1.size]? = some (.cells #[.int .i64 l[j].1, .int .i64 l[j].2] 74 (0, 0)) := by simpa [splice] using hb3
    have k13 : Keep h h3 := k1.trans (((KB.of_keep k2).trans k3).keep (by simp))
    have e0 : hcell h3 ⟨h1.size, 0, none⟩ = some (.int .i64 l[j].1) := by rw [hcell_of hb3']; rfl
    have e1 : hcell h3 ⟨h1.size, 1, none⟩ = some (.int .i64 l[j].2) := by rw [hcell_of hb3']; rfl
    have hmem : l[j] ∈ l := by simp
    refine ⟨_, e0, cIf (fun h4 => ⟨1, rfl, k13, .inr rfl, ⟨fun h => by omega, fun hok => ?_⟩⟩) fun h4 => ?_⟩
    · by_cases hx : x = 0
      · have := (hok.el _ hmem).1; omega
      · obtain ⟨u, hu, hue⟩ := hex (by omega)
        have hr := hok.rise
        rw [← List.take_append_drop j l, List.pairwise_append] at hr
        have := hr.2.2 u hu l[j] (mem_drop_get hjl)
        omega
    refine ⟨_, e0, cIf (fun h5 => ⟨1, rfl, k13, .inr rfl, ⟨fun h => by omega, fun hok => ?_⟩⟩) fun h5 => ?_⟩
    · have := (hok.el _ hmem).2.1; omega
    refine ⟨_, e1, cIf (fun h6 => ⟨1, rfl, k13, .inr rfl, ⟨fun h => by omega, fun hok => ?_⟩⟩) fun h6 => ?_⟩
    · have := (hok.el _ hmem).2.2.1; omega
    refine ⟨_, e1, cIf (fun h7 => ⟨1, rfl, k13, .inr rfl, ⟨fun h => by omega, fun hok => ?_⟩⟩) fun h7 => ?_⟩
    · have := (hok.el _ hmem).2.2.2; omega
    refine ⟨_, e0, ?_⟩
    rw [w64n (by omega)]
    refine ⟨⟨k13, j + 1, rfl, by omega, by omega, ?_, ?_, ?_, fun _ => ⟨l[j], mem_take_get hjl, rfl⟩⟩, by simp only [Int.toNat_natCast]; omega⟩
    · rw [take_snoc hjl, List.pairwise_append]
      refine ⟨hp, by simp, fun u hu v hv => ?_⟩
      simp at hv; subst hv
      have := hle u hu; omega
    · rw [take_snoc hjl]
      intro u hu
      rcases List.mem_append.1 hu with hu | hu
      · exact hel u hu
      · simp at hu; subst hu; exact ⟨by omega, by omega, by omega, by omega⟩
    · rw [take_snoc hjl]
      intro u hu
      rcases List.mem_append.1 hu with hu | hu
      · have := hle u hu; omega
      · simp at hu; subst hu; exact Int.le_refl _
  · rw [List.take_of_length_le (by omega)] at hp hel
    refine cIf (fun h8 => ⟨1, rfl, k1, .inr rfl, ⟨fun h => by omega, fun hok => ?_⟩⟩) fun h8 => ⟨0, rfl, k1, .inl rfl, ⟨fun _ => ⟨by omega, hp, hel⟩, fun _ => rfl⟩⟩
    have := hok.len; omega
theorem CheckOK.sn {l : List Stk} {types : Int} (h : CheckOK l types) : errN l = 0 ∧ SN l l := by
  have hnd := rise_keys h.rise
  have hg : good l := fun s hs => by have := h.el s hs; omega
  refine ⟨errN_ok hg ?_, h.rise, fun k n => ?_⟩
  · rintro ⟨s, hs, ho⟩
    rw [tot_mem hnd hs] at ho
    have := (h.el s hs).2.2.2; omega
  · constructor
    · intro hm
      have := (h.el _ hm).2.2.1
      exact ⟨(tot_mem hnd hm).symm, by show 0 < n; simp only at this; omega⟩
    · rintro ⟨h1, h2⟩
      obtain ⟨p, hp, he⟩ := tot_pos (l := l) (k := k) (by omega)
      have := tot_mem hnd hp
      rw [he] at this
      have hpe : p = (k, n) := by obtain ⟨p1, p2⟩ := p; simp only at he this; subst he; rw [h1, this]
      subst hpe; exact hp
theorem refCheck_spec {h : Heap} {a : Option Addr} {n c : Nat} {l : List Stk} (s : Sl h a n c l) (hr : rng l) (hn : n ≤ 1000) (types : Int) : Run Try.prog 23 [.slice a n c, .int .i64 types] h (CheckR h l types) := by
  have hln : l.length = n := s.1
  have hM : MaxQ = 1125899906842624 := rfl
  refine V23 _ _ _ _ _ _ ?_
  unfold VC23
  refine cIf (fun h1 => ⟨1, rfl, .refl _ _, .inr rfl, ⟨fun h => by omega, fun hok => ?_⟩⟩) fun h1 => ?_
  · have := hok.len; omega
  refine (refNorm_spec s hr hn).mono ?_
  rintro v h2 ⟨a', n', c', r, e, rfl, hs, k1, hN⟩
  have hrn : r.length = n' := hs.1
  have hlen := hN.len
  refine ⟨_, _, _, _, rfl, ?_⟩
  refine cNe (fun hz => ⟨1, rfl, k1, .inr rfl, ⟨fun h => by omega, fun hok => ?_⟩⟩) fun hz => ?_
  · exact absurd (hN.1.trans hok.sn.1) hz
  refine (same_spec hs (s.keep k1) (by omega)).mono ?_
  rintro v h3 ⟨rfl, rfl⟩
  refine ⟨_, rfl, ?_⟩
  have hsn := hN.2.1 hz
  refine cNot (cIf (fun he => ?_) fun he => ⟨1, rfl, k1, .inr rfl, ⟨fun h => by omega, fun hok => absurd (hsn.unique hok.sn.2) he⟩⟩)
  subst he
  have hg := errN_zero.1 (hN.1 ▸ hz)
  have hel : ∀ u ∈ r, 1 ≤ u.1 ∧ 1 ≤ u.2 ∧ u.2 ≤ MaxQ := fun u hu => by
    have h1 := (hsn.2 u.1 u.2).1 hu
    have h2 := not_over hg.1 hg.2 u.1
    have h3 := (hg.1 u hu).1
    omega
  refine cIf (fun h4 => ?_) fun h4 => ⟨0, rfl, k1, .inl rfl, ⟨fun _ => ?_, fun _ => rfl⟩⟩
  · have hw : IntKind.wrap .i64 ((n : Int) - 1) = ((n - 1 : Nat) : Int) := by rw [w64 (by omega) (by omega)]; omega
    rw [hw]
    refine Sl.el (s.keep k1) (i := n - 1) (by omega) fun b o c0 c1 => ⟨by omega, by omega, _, c0, ?_⟩
    refine cIf (fun h5 => ⟨1, rfl, k1, .inr rfl, ⟨fun h => by omega, fun hok => ?_⟩⟩) fun h5 => ⟨0, rfl, k1, .inl rfl, ⟨fun _ => ⟨by omega, hsn.1, fun u hu => ?_⟩, fun _ => rfl⟩⟩
    · have := (hok.el r[n - 1] (by simp)).2.1; omega
    · have h6 := hel u hu
      refine ⟨h6.1, ?_, h6.2⟩
      obtain ⟨i, hi, rfl⟩ := List.getElem_of_mem hu
      by_cases hin : i = n - 1
      · subst hin; omega
      · have := List.pairwise_iff_getElem.1 hsn.1 i (n - 1) hi (by omega) (by omega)
        omega
  · have : r = [] := List.eq_nil_of_length_eq_zero (by omega)
    subst this
    exact ⟨by simp, .nil, by simp⟩
end Go.Proofs.Ytjcjlhpabjjflaa
