/- Timers and heaps, in plain terms: who comes ahead, a heap but for one place, and what a step up or down makes of it. -/
import Derived.Test.YtjcjlhpabjjflaaPa
set_option linter.unusedVariables false
namespace Go.Proofs.Ytjcjlhpabjjflaa

/-- A timer: when, number, what. -/
abbrev Tm := Int × Int × Int
def leT (a b : Tm) : Prop := a.1 < b.1 ∨ (a.1 = b.1 ∧ a.2.1 ≤ b.2.1)
instance (a b : Tm) : Decidable (leT a b) := inferInstanceAs (Decidable (_ ∨ _))
theorem leT.refl (a : Tm) : leT a a := .inr ⟨rfl, Int.le_refl _⟩
theorem leT.trans {a b c : Tm} (h : leT a b) (k : leT b c) : leT a c := by unfold leT at *; omega
theorem leT.total {a b : Tm} (h : ¬ leT a b) : leT b a := by unfold leT at *; omega
theorem leT.antisymm {a b : Tm} (h : leT a b) (k : leT b a) : a.1 = b.1 ∧ a.2.1 = b.2.1 := by unfold leT at *; omega
def par (i : Nat) : Nat := (i - 1) / 2
theorem par_lt {i : Nat} (h : 0 < i) : par i < i := by unfold par; omega

/-- In order at i: the one above doesn't come later. -/
def Ord (ys : List Tm) (i : Nat) : Prop := ∀ x y, ys[par i]? = some x → ys[i]? = some y → leT x y
/-- A heap, whatever stands at place k. -/
structure HE (ys : List Tm) (k : Nat) : Prop where
  rest : ∀ i, 0 < i → i ≠ k → par i ≠ k → Ord ys i
  skip : ∀ j, 0 < j → par j = k → 0 < k → ∀ x y, ys[par k]? = some x → ys[j]? = some y → leT x y
/-- The one at k doesn't come ahead of the one above. -/
def UpOK (ys : List Tm) (k : Nat) : Prop := 0 < k → Ord ys k
/-- None below comes ahead of the one at k. -/
def DownOK (ys : List Tm) (k : Nat) : Prop := ∀ j, 0 < j → par j = k → Ord ys j
def IsHeap (ys : List Tm) : Prop := ∀ i, 0 < i → Ord ys i
theorem HE.heap {ys : List Tm} {k : Nat} (h : HE ys k) (u : UpOK ys k) (d : DownOK ys k) : IsHeap ys := fun i hi => by
  by_cases h1 : i = k
  · subst h1; exact u hi
  · by_cases h2 : par i = k
    · exact d i hi h2
    · exact h.rest i hi h1 h2
theorem IsHeap.he {ys : List Tm} (h : IsHeap ys) (k : Nat) : HE ys k where
  rest i hi _ _ := h i hi
  skip j hj hp hk x y hx hy := by
    cases hz : ys[k]? with
    | none =>
      have h1 := List.getElem?_eq_none_iff.1 hz
      have h2 := (List.getElem?_eq_some_iff.1 hy).1
      have := par_lt hj
      omega
    | some z => exact (h k hk x z hx hz).trans (h j hj z y (by rw [hp]; exact hz) hy)
/-- What stands at k is of no matter. -/
theorem HE.set {ys : List Tm} {k : Nat} (h : HE ys k) (t : Tm) : HE (ys.set k t) k where
  rest i hi h1 h2 x y hx hy := by
    rw [List.getElem?_set_ne (Ne.symm h2)] at hx
    rw [List.getElem?_set_ne (Ne.symm h1)] at hy
    exact h.rest i hi h1 h2 x y hx hy
  skip j hj hp hk x y hx hy := by
    rw [List.getElem?_set_ne (by have := par_lt hk; omega)] at hx
    rw [List.getElem?_set_ne (by have := par_lt hj; omega)] at hy
    exact h.skip j hj hp hk x y hx hy
/-- The two places exchanged. -/
def swp (ys : List Tm) (i j : Nat) (x y : Tm) : List Tm := (ys.set i y).set j x
theorem swp_get {ys : List Tm} {i j : Nat} {x y : Tm} (hi : i < ys.length) (hj : j < ys.length) (hij : i ≠ j) (m : Nat) :
    (swp ys i j x y)[m]? = if m = i then some y else if m = j then some x else ys[m]? := by
  unfold swp
  by_cases h1 : m = j
  · subst h1
    rw [if_neg (Ne.symm hij), if_pos rfl, List.getElem?_set_self (by simpa using hj)]
  · rw [List.getElem?_set_ne (Ne.symm h1)]
    by_cases h2 : m = i
    · subst h2; rw [if_pos rfl, List.getElem?_set_self hi]
    · rw [if_neg h2, if_neg h1, List.getElem?_set_ne (Ne.symm h2)]
theorem swp_len (ys : List Tm) (i j : Nat) (x y : Tm) : (swp ys i j x y).length = ys.length := by simp [swp]
theorem swp_perm {ys : List Tm} {i j : Nat} {x y : Tm} (hx : ys[i]? = some x) (hy : ys[j]? = some y) (hij : i ≠ j) : (swp ys i j x y).Perm ys := by
  rw [List.perm_iff_count]
  intro a
  obtain ⟨h1, h2⟩ := List.getElem?_eq_some_iff.1 hx
  obtain ⟨h3, h4⟩ := List.getElem?_eq_some_iff.1 hy
  unfold swp
  rw [List.count_set (by simpa using h3), List.count_set h1, List.getElem_set_ne hij, h2, h4]
  have hc : ∀ (z : Tm) (m : Nat) (hm : ys[m]? = some z), a = z → 0 < ys.count a := fun z m hm e => by
    subst e; exact List.count_pos_iff.2 (List.mem_of_getElem? hm)
  by_cases e1 : x = a <;> by_cases e2 : y = a
  · subst e1; subst e2; have := hc _ i hx rfl; simp <;> omega
  · subst e1; have := hc _ i hx rfl; simp [e2] <;> omega
  · subst e2; have := hc _ j hy rfl; simp [e1] <;> omega
  · simp [e1, e2]

/-- A step up: t at k comes ahead of p above. -/
theorem HE.up {ys : List Tm} {k : Nat} {t p : Tm} (h : HE ys k) (hk : 0 < k) (ht : ys[k]? = some t) (hp : ys[par k]? = some p) (hlt : leT t p) :
    HE (swp ys k (par k) t p) (par k) ∧ DownOK (swp ys k (par k) t p) (par k) := by
  have hpk := par_lt hk
  have hkl := (List.getElem?_eq_some_iff.1 ht).1
  have hpl := (List.getElem?_eq_some_iff.1 hp).1
  have g := swp_get (ys := ys) (x := t) (y := p) hkl hpl (by omega : k ≠ par k)
  refine ⟨⟨fun i hi h1 h2 x y hx hy => ?_, fun j hj hpj hpk0 x y hx hy => ?_⟩, fun j hj hpj x y hx hy => ?_⟩
  · rw [g] at hx hy
    have hik : i ≠ k := fun e => h2 (by rw [e])
    rw [if_neg hik, if_neg h1] at hy
    by_cases h3 : par i = k
    · rw [if_pos h3] at hx
      cases hx
      exact h.skip i hi h3 hk _ _ hp hy
    · rw [if_neg h3, if_neg h2] at hx
      exact h.rest i hi hik h3 x y hx hy
  · have hpp := par_lt hpk0
    rw [g] at hx hy
    rw [if_neg (by omega), if_neg (by omega)] at hx
    have hap : leT x p := h.rest (par k) hpk0 (by omega) (by omega) x p hx hp
    by_cases hjk : j = k
    · rw [if_pos hjk] at hy; cases hy; exact hap
    · have hjp : j ≠ par k := by have := par_lt hj; omega
      rw [if_neg hjk, if_neg hjp] at hy
      exact hap.trans (h.rest j hj hjk (by omega) p y (by rw [hpj]; exact hp) hy)
  · rw [g] at hx hy
    rw [hpj, if_neg (by omega), if_pos rfl] at hx
    cases hx
    by_cases hjk : j = k
    · rw [if_pos hjk] at hy; cases hy; exact hlt
    · have hjp : j ≠ par k := by have := par_lt hj; omega
      rw [if_neg hjk, if_neg hjp] at hy
      exact hlt.trans (h.rest j hj hjk (by omega) p y (by rw [hpj]; exact hp) hy)
/-- A step down: b, below t at k, comes ahead of t, and isn't behind the other one below. -/
theorem HE.down {ys : List Tm} {k b : Nat} {t u : Tm} (h : HE ys k) (hb0 : 0 < b) (hb : par b = k) (ht : ys[k]? = some t) (hu : ys[b]? = some u) (hlt : leT u t)
    (hsm : ∀ j w, 0 < j → par j = k → ys[j]? = some w → leT u w) : HE (swp ys k b t u) b ∧ UpOK (swp ys k b t u) b := by
  have hbk := par_lt hb0
  have hkl := (List.getElem?_eq_some_iff.1 ht).1
  have hbl := (List.getElem?_eq_some_iff.1 hu).1
  have g := swp_get (ys := ys) (x := t) (y := u) hkl hbl (by omega : k ≠ b)
  refine ⟨⟨fun i hi h1 h2 x y hx hy => ?_, fun j hj hpj hb1 x y hx hy => ?_⟩, fun _ x y hx hy => ?_⟩
  · rw [g] at hx hy
    have hpi := par_lt hi
    by_cases hik : i = k
    · rw [if_pos hik] at hy
      cases hy
      rw [if_neg (by omega), if_neg h2] at hx
      exact h.skip b hb0 hb (by omega) x _ (by rw [← hik]; exact hx) hu
    · rw [if_neg hik, if_neg h1] at hy
      by_cases h3 : par i = k
      · rw [if_pos h3] at hx
        cases hx
        exact hsm i y hi h3 hy
      · rw [if_neg h3, if_neg h2] at hx
        exact h.rest i hi hik h3 x y hx hy
  · rw [g] at hx hy
    rw [hb, if_pos rfl] at hx
    cases hx
    have hpj' := par_lt hj
    rw [if_neg (by omega), if_neg (by omega)] at hy
    exact h.rest j hj (by omega) (by omega) _ y (by rw [hpj]; exact hu) hy
  · rw [g] at hx hy
    rw [hb, if_pos rfl] at hx
    cases hx
    rw [if_neg (by omega), if_pos rfl] at hy
    cases hy
    exact hlt
/-- The first of a heap comes ahead of all. -/
theorem IsHeap.first {ys : List Tm} (h : IsHeap ys) : ∀ (i : Nat) (x y : Tm), ys[0]? = some x → ys[i]? = some y → leT x y := by
  intro i
  induction i using Nat.strongRecOn with
  | ind i ih =>
    intro x y hx hy
    by_cases h0 : i = 0
    · subst h0; rw [hx] at hy; cases hy; exact .refl _
    · have hp := par_lt (show 0 < i by omega)
      cases hz : ys[par i]? with
      | none =>
        have h1 := List.getElem?_eq_none_iff.1 hz
        have h2 := (List.getElem?_eq_some_iff.1 hy).1
        omega
      | some z => exact (ih (par i) hp x z hx hz).trans (h i (by omega) z y hz hy)
end Go.Proofs.Ytjcjlhpabjjflaa
