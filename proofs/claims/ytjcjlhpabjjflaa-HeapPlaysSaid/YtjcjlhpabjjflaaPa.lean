/- Lists of stacks, in plain terms: totals by type, normal lists, and that they are unique. -/
namespace Go.Proofs.Ytjcjlhpabjjflaa

abbrev Stk := Int × Int
def MaxQ : Int := 1125899906842624
/-- How many there are of type k. -/
def tot (l : List Stk) (k : Int) : Int :=
  match l with
  | [] => 0
  | s :: l => (if s.1 = k then s.2 else 0) + tot l k
def good (l : List Stk) : Prop := ∀ s ∈ l, 1 ≤ s.1 ∧ 0 ≤ s.2
def over (l : List Stk) : Prop := ∃ s ∈ l, MaxQ < tot l s.1
def rng (l : List Stk) : Prop := ∀ s ∈ l, (-9223372036854775808 ≤ s.1 ∧ s.1 ≤ 9223372036854775807) ∧ (-9223372036854775808 ≤ s.2 ∧ s.2 ≤ 9223372036854775807)
open Classical in
noncomputable def errN (l : List Stk) : Int := if good l then (if over l then 5 else 0) else 1
/-- r are the normal stacks of l. -/
def SN (l r : List Stk) : Prop := r.Pairwise (fun a b => a.1 < b.1) ∧ ∀ k n, (k, n) ∈ r ↔ n = tot l k ∧ 0 < n

theorem tot_append (a b : List Stk) (k : Int) : tot (a ++ b) k = tot a k + tot b k := by
  induction a with
  | nil => simp [tot]
  | cons s a ih => simp only [List.cons_append, tot, ih]; omega
theorem tot_nonneg {l : List Stk} (h : good l) (k : Int) : 0 ≤ tot l k := by
  induction l with
  | nil => simp [tot]
  | cons s l ih =>
    have h1 := h s (by simp)
    have h2 := ih fun x hx => h x (by simp [hx])
    simp only [tot]; split <;> omega
theorem tot_none {l : List Stk} {k : Int} (h : k ∉ l.map (·.1)) : tot l k = 0 := by
  induction l with
  | nil => rfl
  | cons s l ih =>
    simp only [List.map_cons, List.mem_cons, not_or] at h
    simp only [tot]
    rw [if_neg (Ne.symm h.1), ih h.2]; rfl
theorem good_append {a b : List Stk} : good (a ++ b) ↔ good a ∧ good b := by
  constructor
  · intro h; exact ⟨fun s hs => h s (by simp [hs]), fun s hs => h s (by simp [hs])⟩
  · rintro ⟨h1, h2⟩ s hs
    rcases List.mem_append.1 hs with h | h
    · exact h1 s h
    · exact h2 s h
theorem errN_bad {l : List Stk} (h : ¬ good l) : errN l = 1 := by unfold errN; rw [if_neg h]
theorem errN_over {l : List Stk} (h : good l) (ho : over l) : errN l = 5 := by unfold errN; rw [if_pos h, if_pos ho]
theorem errN_ok {l : List Stk} (h : good l) (ho : ¬ over l) : errN l = 0 := by unfold errN; rw [if_pos h, if_neg ho]
theorem errN_zero {l : List Stk} : errN l = 0 ↔ good l ∧ ¬ over l := by
  unfold errN
  by_cases h : good l
  · by_cases ho : over l
    · rw [if_pos h, if_pos ho]; simp [ho]
    · rw [if_pos h, if_neg ho]; simp [h, ho]
  · rw [if_neg h]; simp [h]
theorem not_over {l : List Stk} (_h : good l) (ho : ¬ over l) (k : Int) : tot l k ≤ MaxQ := by
  by_cases hk : k ∈ l.map (·.1)
  · obtain ⟨s, hs, rfl⟩ := List.mem_map.1 hk
    exact Int.not_lt.1 fun hlt => ho ⟨s, hs, hlt⟩
  · rw [tot_none hk]; decide
theorem over_append {a b : List Stk} (h : good b) (ho : over a) : over (a ++ b) := by
  obtain ⟨s, hs, hlt⟩ := ho
  refine ⟨s, by simp [hs], ?_⟩
  rw [tot_append]
  have := tot_nonneg h s.1
  omega

/-- Two rising lists with the same stacks are one. -/
theorem rise_unique : ∀ {r q : List Stk}, r.Pairwise (fun a b => a.1 < b.1) → q.Pairwise (fun a b => a.1 < b.1) → (∀ p, p ∈ r ↔ p ∈ q) → r = q
  | [], [], _, _, _ => rfl
  | [], x :: q, _, _, h => absurd ((h x).2 (by simp)) (by simp)
  | x :: r, [], _, _, h => absurd ((h x).1 (by simp)) (by simp)
  | x :: r, y :: q, hr, hq, h => by
    rw [List.pairwise_cons] at hr hq
    have hxy : x = y := by
      rcases List.mem_cons.1 ((h x).1 (by simp)) with h1 | h1
      · exact h1
      · rcases List.mem_cons.1 ((h y).2 (by simp)) with h2 | h2
        · exact h2.symm
        · have := hq.1 x h1; have := hr.1 y h2; omega
    subst hxy
    congr 1
    refine rise_unique hr.2 hq.2 fun p => ?_
    constructor
    · intro hp
      rcases List.mem_cons.1 ((h p).1 (by simp [hp])) with h1 | h1
      · subst h1; exact absurd (hr.1 p hp) (by omega)
      · exact h1
    · intro hp
      rcases List.mem_cons.1 ((h p).2 (by simp [hp])) with h1 | h1
      · subst h1; exact absurd (hq.1 p hp) (by omega)
      · exact h1
theorem SN.unique {l r q : List Stk} (h1 : SN l r) (h2 : SN l q) : r = q :=
  rise_unique h1.1 h2.1 fun p => by obtain ⟨k, n⟩ := p; rw [h1.2, h2.2]

/-- What Norm answers. -/
def NormP (l : List Stk) (e : Int) (r : List Stk) : Prop := e = errN l ∧ (e = 0 → SN l r) ∧ (e ≠ 0 → r = [])
theorem NormP.unique {l : List Stk} {e f : Int} {r q : List Stk} (h1 : NormP l e r) (h2 : NormP l f q) : e = f ∧ r = q := by
  have he : e = f := h1.1.trans h2.1.symm
  subst he
  by_cases h : e = 0
  · exact ⟨rfl, (h1.2.1 h).unique (h2.2.1 h)⟩
  · exact ⟨rfl, (h1.2.2 h).trans (h2.2.2 h).symm⟩

theorem tot_snoc (t : List Stk) (s : Stk) (k : Int) : tot (t ++ [s]) k = tot t k + if s.1 = k then s.2 else 0 := by
  rw [tot_append]; simp only [tot]; omega

theorem take_snoc {α : Type} {l : List α} {i : Nat} (h : i < l.length) : l.take (i + 1) = l.take i ++ [l[i]] := by
  rw [List.take_add_one, List.getElem?_eq_getElem h]; rfl
theorem good_take {l : List Stk} (h : good l) (i : Nat) : good (l.take i) := fun s hs => h s (List.mem_of_mem_take hs)
theorem tot_take_le {l : List Stk} (h : good l) (i : Nat) (k : Int) : tot (l.take i) k ≤ tot l k := by
  have h1 : tot l k = tot (l.take i) k + tot (l.drop i) k := by rw [← tot_append, List.take_append_drop]
  have h2 := tot_nonneg (l := l.drop i) (fun s hs => h s (List.mem_of_mem_drop hs)) k
  omega
theorem good_mem {l : List Stk} (h : good l) {i : Nat} (hi : i < l.length) : 1 ≤ l[i].1 ∧ 0 ≤ l[i].2 := h _ (by simp)
theorem tot_pos {l : List Stk} {k : Int} (h : tot l k ≠ 0) : ∃ s ∈ l, s.1 = k := by
  by_cases hk : k ∈ l.map (·.1)
  · obtain ⟨s, hs, e⟩ := List.mem_map.1 hk; exact ⟨s, hs, e⟩
  · exact absurd (tot_none hk) h

/-- Where the reference's Norm is: r are the normal stacks of the types up to x. -/
structure RefN (l r : List Stk) (x : Int) : Prop where
  pos : 0 ≤ x
  rise : r.Pairwise (fun a b => a.1 < b.1)
  mem : ∀ k n, (k, n) ∈ r ↔ n = tot l k ∧ 0 < n ∧ k ≤ x
  max : ∀ k, k ≤ x → tot l k ≤ MaxQ
  len : r.length + (l.filter (fun s => decide (x < s.1))).length ≤ l.length
/-- y is the least type of l above x, or 0 when there is none. -/
def LeastT (l : List Stk) (x y : Int) : Prop := (y = 0 ∧ ∀ s ∈ l, s.1 ≤ x) ∨ (x < y ∧ (∃ s ∈ l, s.1 = y) ∧ ∀ s ∈ l, x < s.1 → y ≤ s.1)
theorem RefN.start {l : List Stk} (h : good l) : RefN l [] 0 where
  pos := Int.le_refl _
  rise := .nil
  mem k n := by
    constructor
    · intro h; simp at h
    · rintro ⟨rfl, h1, h2⟩
      obtain ⟨s, hs, rfl⟩ := tot_pos (l := l) (k := k) (by omega)
      have := h s hs; omega
  max k hk := by
    by_cases h0 : tot l k = 0
    · rw [h0]; decide
    · obtain ⟨s, hs, rfl⟩ := tot_pos h0
      have := h s hs; omega
  len := by rw [List.length_nil, Nat.zero_add]; exact List.length_filter_le ..
theorem RefN.stop {l r : List Stk} {x : Int} (h : RefN l r x) (hl : LeastT l x 0) : SN l r ∧ ¬ over l := by
  have ha : ∀ s ∈ l, s.1 ≤ x := by
    rcases hl with ⟨-, h1⟩ | ⟨h1, -⟩
    · exact h1
    · have := h.pos; omega
  refine ⟨⟨h.rise, fun k n => ?_⟩, fun ⟨s, hs, ho⟩ => ?_⟩
  · rw [h.mem]
    constructor
    · rintro ⟨h1, h2, -⟩; exact ⟨h1, h2⟩
    · rintro ⟨h1, h2⟩
      obtain ⟨s, hs, rfl⟩ := tot_pos (l := l) (k := k) (by omega)
      exact ⟨h1, h2, ha s hs⟩
  · have := h.max s.1 (ha s hs); omega
theorem filter_lt {l : List Stk} {x y : Int} (h1 : x < y) (h2 : ∃ s ∈ l, s.1 = y) : (l.filter (fun s => decide (y < s.1))).length < (l.filter (fun s => decide (x < s.1))).length := by
  induction l with
  | nil => obtain ⟨s, hs, -⟩ := h2; simp at hs
  | cons t l ih =>
    have hle : (l.filter (fun s => decide (y < s.1))).length ≤ (l.filter (fun s => decide (x < s.1))).length := by
      clear ih h2
      induction l with
      | nil => simp
      | cons u l ih =>
        simp only [List.filter_cons]
        by_cases ha : y < u.1
        · have hb : x < u.1 := by omega
          simp [ha, hb]; exact ih
        · by_cases hb : x < u.1
          · simp [ha, hb]; omega
          · simp [ha, hb]; exact ih
    simp only [List.filter_cons]
    obtain ⟨s, hs, he⟩ := h2
    rcases List.mem_cons.1 hs with rfl | hs
    · have ha : ¬ y < s.1 := by omega
      have hb : x < s.1 := by omega
      simp [ha, hb]; omega
    · have := ih ⟨s, hs, he⟩
      by_cases ha : y < t.1
      · have hb : x < t.1 := by omega
        simp [ha, hb]; exact this
      · by_cases hb : x < t.1
        · simp [ha, hb]; omega
        · simp [ha, hb]; exact this
theorem RefN.step {l r : List Stk} {x y : Int} (hg : good l) (h : RefN l r x) (hy : y ≠ 0) (hl : LeastT l x y) (hm : tot l y ≤ MaxQ) : RefN l (if tot l y > 0 then r ++ [(y, tot l y)] else r) y := by
  rcases hl with ⟨h0, -⟩ | ⟨hlt, hex, hmin⟩
  · exact absurd h0 hy
  have hpos := h.pos
  have hmid : ∀ k, x < k → k < y → tot l k = 0 := fun k h1 h2 => by
    refine Decidable.byContradiction fun hne => ?_
    obtain ⟨s, hs, rfl⟩ := tot_pos hne
    have := hmin s hs h1; omega
  refine ⟨by omega, ?_, fun k n => ?_, fun k hk => ?_, ?_⟩
  · split
    · rw [List.pairwise_append]
      refine ⟨h.rise, by simp, ?_⟩
      rintro ⟨k, n⟩ ha b hb
      simp at hb; subst hb
      have := ((h.mem k n).1 ha).2.2
      show k < y
      omega
    · exact h.rise
  · have hne : tot l y > 0 ∨ tot l y = 0 := by have := tot_nonneg hg y; omega
    rcases hne with hp | hp
    · rw [if_pos hp]
      simp only [List.mem_append, h.mem, List.mem_singleton, Prod.mk.injEq]
      constructor
      · rintro (⟨h1, h2, h3⟩ | ⟨rfl, rfl⟩)
        · exact ⟨h1, h2, by omega⟩
        · exact ⟨rfl, hp, by omega⟩
      · rintro ⟨h1, h2, h3⟩
        by_cases hk : k ≤ x
        · exact .inl ⟨h1, h2, hk⟩
        · by_cases hky : k = y
          · subst hky; exact .inr ⟨rfl, h1⟩
          · have := hmid k (by omega) (by omega); omega
    · rw [if_neg (by omega), h.mem]
      constructor
      · rintro ⟨h1, h2, h3⟩; exact ⟨h1, h2, by omega⟩
      · rintro ⟨h1, h2, h3⟩
        refine ⟨h1, h2, ?_⟩
        by_cases hk : k ≤ x
        · exact hk
        · by_cases hky : k = y
          · subst hky; omega
          · have := hmid k (by omega) (by omega); omega
  · by_cases hkx : k ≤ x
    · exact h.max k hkx
    · by_cases hky : k = y
      · subst hky; exact hm
      · rw [hmid k (by omega) (by omega)]; decide
  · have h1 := h.len
    have h2 := filter_lt hlt hex
    split
    · simp only [List.length_append, List.length_singleton]; omega
    · omega
theorem LeastT.start (x : Int) : LeastT [] x 0 := .inl ⟨rfl, by simp⟩
theorem LeastT.low {t : List Stk} {s : Stk} {x y : Int} (h : LeastT t x y) (hs : s.1 ≤ x) : LeastT (t ++ [s]) x y := by
  rcases h with ⟨h1, h2⟩ | ⟨h1, ⟨u, hu, hue⟩, h3⟩
  · refine .inl ⟨h1, fun u hu => ?_⟩
    rcases List.mem_append.1 hu with hu | hu
    · exact h2 u hu
    · simp at hu; subst hu; exact hs
  · refine .inr ⟨h1, ⟨u, by simp [hu], hue⟩, fun v hv hx => ?_⟩
    rcases List.mem_append.1 hv with hv | hv
    · exact h3 v hv hx
    · simp at hv; subst hv; omega
theorem LeastT.first {t : List Stk} {s : Stk} {x : Int} (h : LeastT t x 0) (hx : 0 ≤ x) (hs : x < s.1) : LeastT (t ++ [s]) x s.1 := by
  rcases h with ⟨-, h2⟩ | ⟨h1, -⟩
  · refine .inr ⟨hs, ⟨s, by simp, rfl⟩, fun v hv hv2 => ?_⟩
    rcases List.mem_append.1 hv with hv | hv
    · have := h2 v hv; omega
    · simp at hv; subst hv; omega
  · omega
theorem LeastT.less {t : List Stk} {s : Stk} {x y : Int} (h : LeastT t x y) (hy : y ≠ 0) (hs : x < s.1) (hsy : s.1 < y) : LeastT (t ++ [s]) x s.1 := by
  rcases h with ⟨h1, h2⟩ | ⟨h1, ⟨u, hu, hue⟩, h3⟩
  · exact absurd h1 hy
  · refine .inr ⟨hs, ⟨s, by simp, rfl⟩, fun v hv hx => ?_⟩
    rcases List.mem_append.1 hv with hv | hv
    · have := h3 v hv hx; omega
    · simp at hv; subst hv; omega
theorem LeastT.more {t : List Stk} {s : Stk} {x y : Int} (h : LeastT t x y) (hy : y ≠ 0) (hsy : y ≤ s.1) : LeastT (t ++ [s]) x y := by
  rcases h with ⟨h1, h2⟩ | ⟨h1, ⟨u, hu, hue⟩, h3⟩
  · exact absurd h1 hy
  · refine .inr ⟨h1, ⟨u, by simp [hu], hue⟩, fun v hv hx => ?_⟩
    rcases List.mem_append.1 hv with hv | hv
    · exact h3 v hv hx
    · simp at hv; subst hv; omega

end Go.Proofs.Ytjcjlhpabjjflaa
