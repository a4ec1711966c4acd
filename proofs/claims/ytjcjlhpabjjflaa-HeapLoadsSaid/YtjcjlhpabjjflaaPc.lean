/- What layer 8 computes: counts (a map of totals, or why not). -/
import Derived.Test.YtjcjlhpabjjflaaPb
import Derived.Test.YtjcjlhpabjjflaaV1
set_option linter.unusedVariables false
namespace Go.Proofs.Ytjcjlhpabjjflaa
open Go
attribute [local irreducible] appK copyK delK updK lookK makeK rangeK nextM entryM mapEntryK entryStK lenMapK

/- ## Maps of totals -/
def MV (c : List Stk) : KV := c.map fun p => (p.1, .int .i64 p.2)
def cSet (c : List Stk) (k n : Int) : List Stk :=
  match c with
  | [] => [(k, n)]
  | p :: c => if p.1 = k then (k, n) :: c else p :: cSet c k n
theorem MV_set (c : List Stk) (k n : Int) : kvSet (MV c) k (.int .i64 n) = MV (cSet c k n) := by
  induction c with
  | nil => rfl
  | cons p c ih =>
    show kvSet ((p.1, _) :: MV c) k _ = MV (if p.1 = k then _ else _)
    simp only [kvSet]
    split
    · rfl
    · rw [ih]; rfl
theorem MV_keys (c : List Stk) : (MV c).map (·.1) = c.map (·.1) := by simp [MV, Function.comp_def]
theorem MV_get {c : List Stk} (hn : (c.map (·.1)).Nodup) (k : Int) : (kvGet (MV c) k).getD (.int .i64 0) = .int .i64 (tot c k) := by
  induction c with
  | nil => rfl
  | cons p c ih =>
    rw [List.map_cons, List.nodup_cons] at hn
    show (kvGet ((p.1, _) :: MV c) k).getD _ = _
    simp only [kvGet, tot]
    by_cases h : p.1 = k
    · subst h
      rw [if_pos rfl, if_pos rfl, tot_none hn.1, Int.add_zero]; rfl
    · rw [if_neg h, if_neg h, ih hn.2, Int.zero_add]
theorem cSet_tot {c : List Stk} (hn : (c.map (·.1)).Nodup) (k n j : Int) : tot (cSet c k n) j = if j = k then n else tot c j := by
  induction c with
  | nil => simp only [cSet, tot]; split <;> split <;> omega
  | cons p c ih =>
    rw [List.map_cons, List.nodup_cons] at hn
    simp only [cSet]
    by_cases h : p.1 = k
    · rw [if_pos h]
      subst h
      simp only [tot]
      by_cases hj : j = p.1
      · subst hj; rw [if_pos rfl, if_pos rfl, tot_none hn.1]; omega
      · rw [if_neg hj, if_neg (Ne.symm hj), if_neg (Ne.symm hj)]
    · rw [if_neg h]
      simp only [tot]
      rw [ih hn.2]
      by_cases hj : j = k
      · subst hj; rw [if_pos rfl, if_pos rfl, if_neg h]; omega
      · rw [if_neg hj, if_neg hj]
theorem cSet_mem {c : List Stk} {k n : Int} {p : Stk} (h : p ∈ cSet c k n) : p = (k, n) ∨ p ∈ c := by
  induction c with
  | nil => left; simpa [cSet] using h
  | cons q c ih =>
    simp only [cSet] at h
    split at h
    · rcases List.mem_cons.1 h with h | h
      · exact .inl h
      · exact .inr (by simp [h])
    · rcases List.mem_cons.1 h with h | h
      · exact .inr (by simp [h])
      · rcases ih h with h | h
        · exact .inl h
        · exact .inr (by simp [h])
theorem tot_mem {c : List Stk} (hn : (c.map (·.1)).Nodup) {p : Stk} (hp : p ∈ c) : tot c p.1 = p.2 := by
  induction c with
  | nil => simp at hp
  | cons q c ih =>
    rw [List.map_cons, List.nodup_cons] at hn
    simp only [tot]
    rcases List.mem_cons.1 hp with rfl | hp
    · rw [if_pos rfl, tot_none hn.1, Int.add_zero]
    · rw [if_neg (fun e => hn.1 (by rw [e]; exact List.mem_map.2 ⟨p, hp, rfl⟩)), ih hn.2 hp, Int.zero_add]

theorem tyM : Try.prog.underlying 63 = some (.map 3 3) := by kernel_rfl
theorem tyI : Try.prog.underlying 3 = some (.int .i64) := by kernel_rfl
theorem inI : ∃ i, Try.prog.info? 3 = some i ∧ i.zero = some (.int .i64 0) := by
  have h : (Try.prog.info? 3).map (fun i => i.zero) = some (some (.int .i64 0)) := by kernel_rfl
  cases hi : Try.prog.info? 3 with
  | none => rw [hi] at h; cases h
  | some i => rw [hi] at h; simp only [Option.map_some, Option.some.injEq] at h; exact ⟨i, rfl, h⟩
theorem lookM {h : Heap} {r : Option Nat} {c : List Stk} (hm : MapO h r (MV c)) {k : Int} {K : Value → Prop} (hK : (c.map (·.1)).Nodup → K (.int .i64 (tot c k))) :
    lookK Try.prog 63 (.map r) (.int .i64 k) false h K := by
  obtain ⟨i, hi, hz⟩ := inI
  have hn : (c.map (·.1)).Nodup := by
    cases r with
    | none => have : c = [] := by simpa [MapO, MV] using hm
              subst this; exact .nil
    | some b => rw [← MV_keys]; exact MapI.nodup hm
  refine look_spec tyM tyI hi hz hm ?_
  rw [if_neg (by simp), MV_get hn]
  exact hK hn
theorem updM {h : Heap} {b : Nat} {c : List Stk} (hm : MapI h b (MV c)) {k n : Int} {K : Heap → Prop}
    (hK : ∀ h' : Heap, MapI h' b (MV (cSet c k n)) → KB [b] h h' → h'.size = h.size → K h') : updK Try.prog 63 (.map (some b)) (.int .i64 k) (.int .i64 n) h K :=
  upd_spec tyM tyI hm (by rw [MV_set]; exact hK)

/- ## The parts -/
theorem callV_fn {P : Program} {g : FuncId} {args : List Value} {h : Heap} {R : Value → Heap → Prop} (hr : Run P g args h R) : CallV P (.func (.func g) #[] #[]) args h R := by
  unfold CallV
  simpa using hr
theorem calcAdd_spec {a b : Int} {h : Heap} {R : Value → Heap → Prop} (ha : 0 ≤ a ∧ a ≤ MaxQ) (hb : 0 ≤ b ∧ b ≤ 9223372036854775807)
    (h1 : a + b ≤ 9223372036854775807 → R (.tuple #[.int .i64 (a + b), .int .i64 0]) h) (h2 : 9223372036854775807 < a + b → R (.tuple #[.int .i64 0, .int .i64 5]) h) : Run Try.prog 69 [.int .i64 a, .int .i64 b] h R := by
  have hM : MaxQ = 1125899906842624 := rfl
  refine V69 _ _ _ _ ?_
  unfold VC69
  rw [decide_eq_true ha.1, decide_eq_true hb.1]
  show cond (!(decide (IntKind.wrap .i64 (a + b) ≥ 0) == true)) _ _
  by_cases hs : a + b ≤ 9223372036854775807
  · rw [w64 (by omega) hs, decide_eq_true (show a + b ≥ 0 by omega)]
    exact h1 hs
  · have hw : IntKind.wrap .i64 (a + b) = a + b - 18446744073709551616 := by
      have hb : (2 ^ IntKind.i64.bits : Int) = 18446744073709551616 := by decide
      have hb1 : (2 ^ (IntKind.i64.bits - 1) : Int) = 9223372036854775808 := by decide
      simp only [IntKind.wrap, IntKind.signed, hb, hb1, Bool.true_and, decide_eq_true_eq, ge_iff_le]
      split <;> omega
    rw [hw, decide_eq_false (show ¬ a + b - 18446744073709551616 ≥ 0 by omega)]
    exact h2 (by omega)

theorem badStack_spec (s0 s1 : Int) (h : Heap) : Run Try.prog 68 [.agg #[.int .i64 s0, .int .i64 s1]] h fun v h' => Keep h h' ∧ v = .bool (decide (s0 < 1 ∨ s1 < 0)) := by
  refine V68 _ _ _ _ ?_
  unfold VC68
  refine newB_intro fun h1 hb k1 s1' => ?_
  refine ⟨_, by rw [hcell_of hb]; rfl, ?_⟩
  refine cIf (fun h2 => ⟨k1, by rw [decide_eq_true (.inl h2)]⟩) fun h2 => ⟨_, by rw [hcell_of hb]; rfl, k1, ?_⟩
  by_cases h3 : s1 < 0
  · rw [decide_eq_true h3, decide_eq_true (.inr h3)]
  · rw [decide_eq_false h3, decide_eq_false (by omega)]

theorem indexBad_spec {h : Heap} {a : Option Addr} {n c : Nat} {l : List Stk} (s : Sl h a n c l) (hn : n ≤ 1000) : Run Try.prog 81 [.slice a n c, .func (.func 68) #[] #[]] h fun v h' => ∃ x : Int, v = .int .i64 x ∧ Keep h h' ∧ (0 ≤ x ↔ ¬ good l) := by
  have hln : l.length = n := s.1
  refine V81 _ _ _ _ _ _ ?_
  unfold VC81
  refine ⟨fun x h1 => Keep h h1 ∧ ∃ i : Nat, x = i ∧ i ≤ n ∧ good (l.take i), fun x _ => n - x.toNat, ⟨.refl _ _, 0, rfl, by omega, by intro s hs; simp at hs⟩, ?_⟩
  rintro - h1 x ⟨k1, i, rfl, hi, hg⟩
  have s1 := s.keep k1
  refine cIf (fun hx => ?_) (fun hx => ?_)
  · have hil : i < l.length := by omega
    refine Sl.el s1 hil fun b o c0 c1 => ⟨by omega, by omega, _, c0, _, c1, ?_⟩
    refine callV_fn ((badStack_spec _ _ _).mono ?_)
    rintro v h2 ⟨k2, rfl⟩
    refine ⟨_, rfl, ?_⟩
    refine cIf (fun hb => ?_) (fun hb => ?_)
    · exact ⟨_, rfl, k1.trans k2, ⟨fun _ hgl => by have := good_mem hgl hil; omega, fun _ => by omega⟩⟩
    · rw [w64n (by omega)]
      refine ⟨⟨k1.trans k2, i + 1, rfl, by omega, ?_⟩, by simp only [Int.toNat_natCast]; omega⟩
      rw [take_snoc hil]
      exact good_append.2 ⟨hg, fun u hu => by simp at hu; subst hu; omega⟩
  · have hin : i = l.length := by omega
    subst hin
    rw [List.take_length] at hg
    exact ⟨_, rfl, k1, ⟨fun h => by omega, fun h => absurd hg h⟩⟩
theorem hasBad_spec {h : Heap} {a : Option Addr} {n c : Nat} {l : List Stk} (s : Sl h a n c l) (hn : n ≤ 1000) : Run Try.prog 67 [.slice a n c, .func (.func 68) #[] #[]] h fun v h' => ∃ b : Bool, v = .bool b ∧ Keep h h' ∧ (b = true ↔ ¬ good l) := by
  refine V67 _ _ _ _ _ _ ?_
  unfold VC67
  refine (indexBad_spec s hn).mono ?_
  rintro v h1 ⟨x, rfl, k1, hx⟩
  exact ⟨_, rfl, _, rfl, k1, by rw [decide_eq_true_iff]; exact hx⟩

/-- A map's counts are those of l. -/
structure CM (l c : List Stk) : Prop where
  tots : ∀ k, tot c k = tot l k
  pos : ∀ p ∈ c, 1 ≤ p.1 ∧ 0 ≤ p.2 ∧ p.2 ≤ MaxQ
  top : ∀ p ∈ c, p.1 ≤ 9223372036854775807
  len : c.length ≤ l.length
theorem cSet_len (c : List Stk) (k n : Int) : (cSet c k n).length ≤ c.length + 1 := by
  induction c with
  | nil => simp [cSet]
  | cons p c ih =>
    simp only [cSet]
    split <;> simp only [List.length_cons] <;> omega
def CountsR (h : Heap) (l : List Stk) (v : Value) (h' : Heap) : Prop :=
  ∃ (r : Option Nat) (c : List Stk) (e : Int), v = .tuple #[.map r, .int .i64 e] ∧ MapO h' r (MV c) ∧ Keep h h' ∧ (∀ b, r = some b → h.size ≤ b) ∧ e = errN l ∧ (e = 0 → CM l c ∧ ∃ b, r = some b) ∧ (e ≠ 0 → r = none ∧ c = [])

theorem counts_spec {h : Heap} {a : Option Addr} {n c : Nat} {l : List Stk} (s : Sl h a n c l) (hr : rng l) (hn : n ≤ 1000) : Run Try.prog 46 [.slice a n c] h (CountsR h l) := by
  have hln : l.length = n := s.1
  have hM : MaxQ = 1125899906842624 := rfl
  refine V46 _ _ _ _ _ ?_
  unfold VC46
  refine (hasBad_spec s hn).mono ?_
  rintro v h1 ⟨b, rfl, k1, hb⟩
  refine ⟨_, rfl, cB (fun ht => ?_) (fun hf => ?_)⟩
  · exact ⟨none, [], 1, rfl, rfl, k1, (fun b hb => nomatch hb), (errN_bad (hb.1 ht)).symm, by simp, fun _ => ⟨rfl, rfl⟩⟩
  have hg : good l := Classical.byContradiction fun hng => by rw [hb.2 hng] at hf; cases hf
  refine newB_intro fun h2 hm2 k2 s2 => ?_
  refine ⟨fun b x h3 => ∃ (i : Nat) (c : List Stk), x = i ∧ i ≤ n ∧ Keep h h3 ∧ h1.size < h3.size ∧ MapI h3 h1.size (MV c) ∧ (∀ p ∈ c, 1 ≤ p.1 ∧ 0 ≤ p.2 ∧ p.2 ≤ MaxQ) ∧ (∀ p ∈ c, p.1 ≤ 9223372036854775807) ∧ c.length ≤ i ∧ (b = false → ∀ k, tot c k = tot (l.take i) k) ∧ (b = true → over l),
    fun _ x _ => n - x.toNat, ⟨0, [], rfl, by omega, k1.trans k2, by omega, .made hm2, by simp, by simp, by simp, fun _ k => by simp [tot], by simp⟩, ?_⟩
  rintro - h3 bb x ⟨i, c, rfl, hi, k3, hs3, hm, hpos, htop, hlen, hF, hT⟩
  have s3 := s.keep k3
  refine cIf (fun hx => ?_) (fun hx => ?_)
  · have hil : i < l.length := by omega
    have hgm := good_mem hg hil
    have hrm := hr l[i] (by simp)
    refine Sl.el s3 hil fun b o c0 c1 => ⟨by omega, by omega, _, c0, _, c1, ?_⟩
    refine newB_intro fun h4 hb4 k4 s4 => ?_
    refine storeS_blk (l := [.int .i64 0, .int .i64 0]) hb4 (by simp) (by simp [single]) fun h5 hb5 k5 s5 => ?_
    have hb5' : h5[h3.size]? = some (.cells #[.int .i64 l[i].1, .int .i64 l[i].2] 74 (0, 0)) := by simpa [splice] using hb5
    have k45 : Keep h3 h5 := ((KB.of_keep k4).trans k5).keep (by simp)
    have hm5 := hm.keep k45
    refine ⟨_, by rw [hcell_of hb5']; rfl, ?_⟩
    refine lookM (r := some h1.size) hm5 fun hnd => ⟨_, rfl, ?_⟩
    refine ⟨_, by rw [hcell_of hb5']; rfl, ?_⟩
    have ht0 : 0 ≤ tot c l[i].1 ∧ tot c l[i].1 ≤ MaxQ := by
      by_cases h0 : tot c l[i].1 = 0
      · rw [h0]; decide
      · obtain ⟨p, hp, he⟩ := tot_pos h0
        rw [← he, tot_mem hnd hp]; exact (hpos p hp).2
    rw [w64n (by omega)]
    have hsn : ∀ k, tot (l.take (i + 1)) k = tot (l.take i) k + if l[i].1 = k then l[i].2 else 0 := fun k => by rw [take_snoc hil, tot_snoc]
    have hcell : hcell h5 ⟨h3.size, 0, none⟩ = some (.int .i64 l[i].1) := by rw [hcell_of hb5']; rfl
    have hput : ∀ (b' : Bool) (n' : Int) (h7 : Heap), 0 ≤ n' → n' ≤ MaxQ → (b' = false → bb = false ∧ n' = tot c l[i].1 + l[i].2) → (b' = true → over l) → MapI h7 h1.size (MV (cSet c l[i].1 n')) → KB [h1.size] h5 h7 → h7.size = h5.size →
        (∃ (i' : Nat) (c : List Stk), ((i + 1 : Nat) : Int) = i' ∧ i' ≤ n ∧ Keep h h7 ∧ h1.size < h7.size ∧ MapI h7 h1.size (MV c) ∧ (∀ p ∈ c, 1 ≤ p.1 ∧ 0 ≤ p.2 ∧ p.2 ≤ MaxQ) ∧ (∀ p ∈ c, p.1 ≤ 9223372036854775807) ∧ c.length ≤ i' ∧ (b' = false → ∀ k, tot c k = tot (l.take i') k) ∧ (b' = true → over l)) ∧
        n - Int.toNat ((i + 1 : Nat) : Int) < n - Int.toNat (i : Int) := by
      intro b' n' h7 h70 h71 hf' ht' hm7 k7 s7
      refine ⟨⟨i + 1, _, rfl, by omega, ((KB.of_keep (k3.trans k45)).trans k7).keep (by have := k1.size; simp; omega), by have := k45.size; omega, hm7, fun p hp => ?_, fun p hp => ?_, by have := cSet_len c l[i].1 n'; omega, fun hb' k => ?_, ht'⟩, by simp only [Int.toNat_natCast]; omega⟩
      · rcases cSet_mem hp with rfl | hp
        · exact ⟨hgm.1, h70, h71⟩
        · exact hpos p hp
      · rcases cSet_mem hp with rfl | hp
        · exact hrm.1.2
        · exact htop p hp
      · obtain ⟨h8, h9⟩ := hf' hb'
        rw [cSet_tot hnd, hsn, ← hF h8, h9]
        by_cases hk : k = l[i].1
        · subst hk; rw [if_pos rfl, if_pos rfl]
        · rw [if_neg hk, if_neg (Ne.symm hk), Int.add_zero]
    have hovr : MaxQ < tot c l[i].1 + l[i].2 → over l := by
      intro ho
      cases hbb : bb with
      | true => exact hT hbb
      | false =>
        refine ⟨l[i], by simp, ?_⟩
        have h1 := hF hbb l[i].1
        have h2 := hsn l[i].1
        rw [if_pos rfl] at h2
        have h3 := tot_take_le hg (i + 1) l[i].1
        omega
    refine calcAdd_spec ht0 (by omega) (fun ha => ⟨_, _, rfl, ?_⟩) (fun ha => ⟨_, _, rfl, ?_⟩)
    · refine cNe (fun h => absurd rfl h) fun _ => ?_
      refine cIf (fun ho => ?_) (fun ho => ?_)
      · refine ⟨_, hcell, updM hm5 fun h7 hm7 k7 s7 => ?_⟩
        exact hput true _ h7 (by omega) (by omega) (by simp) (fun _ => hovr (by omega)) hm7 k7 s7
      · refine ⟨_, hcell, updM hm5 fun h7 hm7 k7 s7 => ?_⟩
        exact hput bb _ h7 (by omega) (by omega) (fun hb => ⟨hb, rfl⟩) hT hm7 k7 s7
    · refine cNe (fun _ => ?_) fun h => absurd h (by decide)
      refine ⟨_, hcell, updM hm5 fun h7 hm7 k7 s7 => ?_⟩
      exact hput true _ h7 (by omega) (by omega) (by simp) (fun _ => hovr (by omega)) hm7 k7 s7
  · have hin : i = l.length := by omega
    subst hin
    rw [List.take_length] at hF
    refine cB (fun ht => ?_) (fun hf => ?_)
    · exact ⟨none, [], 5, rfl, rfl, k3, (fun b hb => nomatch hb), (errN_over hg (hT ht)).symm, by simp, fun _ => ⟨rfl, rfl⟩⟩
    · refine ⟨some h1.size, c, 0, rfl, hm, k3, fun b hb => ?_, (errN_ok hg ?_).symm, fun _ => ⟨⟨hF hf, hpos, htop, by omega⟩, _, rfl⟩, fun h => absurd rfl h⟩
      · cases hb; exact k1.size
      · rintro ⟨s, hs, ho⟩
        rw [← hF hf] at ho
        have : 0 ≤ MaxQ := by decide
        obtain ⟨p, hp, he⟩ := tot_pos (l := c) (k := s.1) (by omega)
        have hnd : (c.map (·.1)).Nodup := by rw [← MV_keys]; exact MapI.nodup hm
        rw [← he, tot_mem hnd hp] at ho
        have := (hpos p hp).2.2
        omega
end Go.Proofs.Ytjcjlhpabjjflaa
