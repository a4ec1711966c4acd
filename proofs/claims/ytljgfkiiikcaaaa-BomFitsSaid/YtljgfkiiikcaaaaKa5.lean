/- The row of BomFits: whatever it is given it returns true, and what it was given reads as it did. -/
import Derived.Test.YtljgfkiiikcaaaaKa4
/- Bills, plain: what is told fits; the way is no longer than all runs; what is there is made no more. -/
set_option linter.unusedVariables false
namespace Go.Proofs.Ytljgfkiiikcaaaa
open Go Go.Proofs
variable {c : Cat} {level : Int}

theorem mayE_of {kind : Int} {h l : List Stk} (hm : mayE c kind level h = 0) (hl : chkE l c.types = 0) : mayE c kind level l = 0 := by
  obtain ⟨h1, h2, h3, -⟩ := mayE_zero hm
  unfold mayE
  rw [h1, if_neg (by simp), if_pos ⟨inn_iff.2 h2, inn_iff.2 h3⟩]
  exact hl
/-- What a plan comes to. -/
structure DoneOK (c : Cat) (level kind n : Int) (have' : List Stk) (s : ES) : Prop where
  may : mayE c kind level have' = 0
  n1 : inn n 1 1125899906842624 = true
  cat : ∃ out, CatOK c out ∧ ESok c out.reverse s ∧ PlanOK c level kind n have' out.reverse s
theorem done_ok {kind n : Int} {have' : List Stk} {s : ES} (hm : mayE c kind level have' = 0) (hn : inn n 1 1125899906842624 = true) (h : expL c level have' (topR c) (es0 c kind n) = some s) : DoneOK c level kind n have' s := by
  obtain ⟨hcat, hk, hlv, hchk⟩ := mayE_zero hm
  obtain ⟨out, co⟩ := cat_ok hcat
  have hhe := errN_zero.1 (chkE_iff.1 hchk).sn.1
  have hn' := inn_iff.1 hn
  have hM : MaxQ = 1125899906842624 := rfl
  unfold topR at h
  rw [co.r] at h
  have e0 := es0_ok (c := c) (kind := kind) (n := n) (by omega)
  refine ⟨hm, hn, out, co, ?_, ?_⟩
  · simpa using expL_ok co.sz hlv (fun u => tot_nonneg hhe.1 u) e0 h
  · simpa using expL_plan co hlv (fun u => tot_nonneg hhe.1 u) (t := []) (by simp) e0 (es0_plan c level kind n have') h
theorem DoneOK.bal {kind n : Int} {have' A : List Stk} {s : ES} (o : DoneOK c level kind n have' s) {u d : Int} (hA : tot A u = tot s.raw u + tot have' u - d) : balT kind n A level (s.runs.zip c.blues) u = defD have' s c.blues u - d := by
  obtain ⟨out, co, ok, pl⟩ := o.cat
  unfold balT defD
  rw [runTs_eq, hA, pl.w u]
  unfold n0
  omega
theorem DoneOK.runs {kind n : Int} {have' : List Stk} {s : ES} (o : DoneOK c level kind n have' s) : runsOK c s.runs := by
  obtain ⟨out, co, ok, pl⟩ := o.cat
  exact ⟨ok.rl, fun n hn => inn_iff.2 (ok.runs n hn)⟩
theorem DoneOK.fits {kind n : Int} {have' A : List Stk} {s : ES} (o : DoneOK c level kind n have' s) (hc : chkE A c.types = 0) (hA : ∀ u, tot A u = tot s.raw u + tot have' u) : fitsP c kind n level A s.runs := by
  obtain ⟨out, co, ok, pl⟩ := o.cat
  refine ⟨mayE_of o.may hc, o.n1, o.runs, pl.needs, fun t h1 h2 => ?_⟩
  rw [o.bal (d := 0) (by rw [hA]; omega)]
  have := (pl.d t (List.mem_reverse.2 (co.all t h1 h2))).1
  omega
theorem DoneOK.less {kind n u : Int} {have' A : List Stk} {s : ES} (o : DoneOK c level kind n have' s) (hu : u ∈ s.raw.map (·.1)) (hA : tot A u = tot s.raw u + tot have' u - 1) : ¬ fitsP c kind n level A s.runs := by
  obtain ⟨out, co, ok, pl⟩ := o.cat
  rintro ⟨-, -, -, -, hb⟩
  have hut : u ∈ out.reverse := ok.raw.subset hu
  have hut' := co.g.mem u (List.mem_reverse.1 hut)
  have := hb u hut'.1 hut'.2
  rw [o.bal hA, (pl.d u hut).2 hu] at this
  omega

/- ## Ways and times -/
def tauZ (g : Int × Bl → Int) (z : List (Int × Bl)) (u : Int) : Int := sumZ (z.map fun p => if p.2.makes = u then g p else 0)
theorem sumZ_nonneg {α : Type} {f : α → Int} (hf : ∀ x, 0 ≤ f x) : ∀ (l : List α), 0 ≤ sumZ (l.map f)
  | [] => by simp [sumZ]
  | x :: l => by have := sumZ_nonneg hf l; have := hf x; simp only [List.map_cons, sumZ]; omega
theorem sumZ_mem {α : Type} {f : α → Int} (hf : ∀ x, 0 ≤ f x) : ∀ {l : List α} {x : α}, x ∈ l → f x ≤ sumZ (l.map f)
  | y :: l, x, h => by
    simp only [List.map_cons, sumZ]
    rcases List.mem_cons.1 h with rfl | h
    · have := sumZ_nonneg hf l; omega
    · have := sumZ_mem hf h; have := hf y; omega
theorem sumZ_app (l m : List Int) : sumZ (l ++ m) = sumZ l + sumZ m := by
  induction l with
  | nil => simp [sumZ]
  | cons x l ih => simp only [List.cons_append, sumZ, ih]; omega
theorem one_le {a v : Int} (hv : 0 ≤ v) : ∀ {l : List Int}, l.Nodup → sumZ (l.map fun u => if a = u then v else 0) ≤ v ∧ (a ∉ l → sumZ (l.map fun u => if a = u then v else 0) = 0)
  | [], _ => by simp [sumZ, hv]
  | x :: l, h => by
    rw [List.nodup_cons] at h
    have ih := one_le (a := a) hv h.2
    simp only [List.map_cons, sumZ]
    by_cases hx : a = x
    · subst hx
      have := ih.2 h.1
      simp only [if_true, List.mem_cons, true_or, not_true, false_implies, and_true]; omega
    · rw [if_neg hx]
      refine ⟨by omega, fun hn => ?_⟩
      have := ih.2 (fun h => hn (by simp [h]))
      omega
theorem tau_sum {g : Int × Bl → Int} (hg : ∀ p, 0 ≤ g p) {out : List Int} (hn : out.Nodup) : ∀ (z : List (Int × Bl)), sumZ (out.map (tauZ g z)) ≤ sumZ (z.map g)
  | [] => by
    have : sumZ (out.map (tauZ g [])) = 0 := by
      clear hn
      induction out with
      | nil => rfl
      | cons x l ih => simp only [List.map_cons, sumZ, ih]; rfl
    rw [this]; simp [sumZ]
  | p :: z => by
    have ih := tau_sum hg hn z
    have h1 := (one_le (a := p.2.makes) (hg p) hn).1
    have : sumZ (out.map (tauZ g (p :: z))) = sumZ (out.map fun u => if p.2.makes = u then g p else 0) + sumZ (out.map (tauZ g z)) := by
      clear hn ih h1
      induction out with
      | nil => rfl
      | cons x l ih =>
        simp only [List.map_cons, sumZ, ih]
        unfold tauZ
        simp only [List.map_cons, sumZ]; omega
    rw [this]
    simp only [List.map_cons, sumZ]; omega
theorem timeN0 (level : Int) (p : Int × Bl) : 0 ≤ timeN level p := (timeN_bd p).1
theorem way_tau {out runs : List Int} (co : CatOK c out) (ro : runsOK c runs) {f : Int → Int} (hf : WayF c runs level f) : ∀ (n : Nat) (t l : List Int) (a : Int), t.length = n → out = t ++ a :: l → f a ≤ sumZ ((t ++ [a]).map (tauZ (timeN level) (runs.zip c.blues))) := by
  have h0 : ∀ l : List Int, 0 ≤ sumZ (l.map (tauZ (timeN level) (runs.zip c.blues))) := fun l => sumZ_nonneg (fun u => sumZ_nonneg (fun p => by split <;> first | exact timeN0 level p | omega) _) l
  intro n
  induction n using Nat.strongRecOn with
  | _ n ih =>
    intro t l a hn e
    have ha := co.g.mem a (by rw [e]; simp)
    rw [hf a ha.1 ha.2]
    have hall := h0 (t ++ [a])
    rcases maker_get (l := c.blues) (t := a) with hz | ⟨i, b, h1, h2, h3⟩
    · unfold wayE; rw [if_pos hz]; exact hall
    obtain ⟨m, hm, hp⟩ := zip_get ro.1 h2
    rw [wayE_eq ro h1 h2 hm]
    split
    · exact hall
    rename_i hm0
    have hro := inn_iff.1 (ro.2 m (List.mem_of_getElem? hm))
    rw [List.map_append, sumZ_app]
    simp only [List.map_cons, List.map_nil, sumZ]
    have ht : (timeR b level m).1 ≤ tauZ (timeN level) (runs.zip c.blues) a := by
      have hmem : (m, b) ∈ runs.zip c.blues := List.mem_of_getElem? (List.getElem?_zip_eq_some.2 ⟨hm, h2⟩)
      have := sumZ_mem (f := fun p : Int × Bl => if p.2.makes = a then timeN level p else 0) (fun p => by split <;> first | exact timeN0 level p | omega) hmem
      simp only [h3, if_true] at this
      have e : timeN level (m, b) = (timeR b level m).1 := by unfold timeN; rw [if_pos (show 0 < m by omega)]
      rw [e] at this
      exact this
    have hmx := (maxF_bd (f := f) (B := sumZ (t.map (tauZ (timeN level) (runs.zip c.blues)))) b.needs 0 (Int.le_refl _) (h0 t) fun s hs => ?_).2
    · omega
    · have hst := co.needs e (List.mem_of_getElem? h2) h3 s hs
      obtain ⟨t1, l1, rfl⟩ := List.append_of_mem hst
      have := ih t1.length (by rw [← hn]; simp) t1 (l1 ++ a :: l) s.1 rfl (by rw [e]; simp)
      have h2 := h0 l1
      rw [show t1 ++ s.1 :: l1 = (t1 ++ [s.1]) ++ l1 by simp, List.map_append, sumZ_app]
      omega
theorem path_whole {kind : Int} {have' : List Stk} {runs : List Int} (hm : mayE c kind level have' = 0) (ro : runsOK c runs) : ∃ m n, pathR c kind runs level = (m, 0) ∧ wholeR c runs level = (n, 0) ∧ m ≤ n := by
  obtain ⟨hcat, hk, hlv, -⟩ := mayE_zero hm
  obtain ⟨out, co⟩ := cat_ok hcat
  have hnil : chkE [] c.types = 0 := by unfold chkE; simp [chkL]
  have hty := inn_iff.1 co.sz.types
  have h1 := mayE_of hm hnil
  have h2 : mayE c 1 level [] = 0 := by
    unfold mayE
    rw [hcat, if_neg (by simp), if_pos ⟨inn_iff.2 (by omega), inn_iff.2 hlv⟩]
    exact hnil
  refine ⟨_, _, by unfold pathR; rw [if_neg (by simpa using h1), if_pos ro], by unfold wholeR; rw [if_neg (by simpa using h2), if_pos ro], ?_⟩
  obtain ⟨t, l, e⟩ := List.append_of_mem (co.all kind hk.1 hk.2)
  have h3 := way_tau co ro (pathV_way (level := level) co ro) _ t l kind rfl e
  have h4 := tau_sum (g := timeN level) (timeN0 level) co.g.nodup (runs.zip c.blues)
  have h5 : 0 ≤ sumZ (l.map (tauZ (timeN level) (runs.zip c.blues))) := sumZ_nonneg (fun u => sumZ_nonneg (fun p => by split <;> first | exact timeN0 level p | omega) _) l
  rw [e, show t ++ kind :: l = (t ++ [kind]) ++ l by simp, List.map_append, sumZ_app] at h4
  unfold timesL
  omega

/- ## What is there is made no more -/
theorem exp_there {kind n : Int} {have' : List Stk} (hm : mayE c kind level have' = 0) (hn : inn n 1 1125899906842624 = true) : expR c kind n level [(kind, n)] = (([], List.replicate c.blues.length 0, []), 0) := by
  obtain ⟨hcat, hk, hlv, -⟩ := mayE_zero hm
  have hn' := inn_iff.1 hn
  have hch : chkE [(kind, n)] c.types = 0 := chkE_iff.2 ⟨by simp, by simp, fun s hs => by
    simp at hs; subst hs
    have hM : MaxQ = 1125899906842624 := rfl
    simp only; omega⟩
  have he : ∀ l, expL c level [(kind, n)] l (es0 c kind n) = some (es0 c kind n) := by
    intro l
    induction l with
    | nil => rfl
    | cons t l ih =>
      have : expS c level [(kind, n)] (es0 c kind n) t = some (es0 c kind n) := by
        unfold expS
        rw [if_pos]
        simp only [es0, upd, tot]
        by_cases h : t = kind
        · subst h; simp
        · rw [if_neg h, if_neg (fun e => h e.symm)]; simp
      simp only [expL, this, ih]
  unfold expR
  rw [if_neg (by simpa using mayE_of hm hch), if_pos hn, he]
  simp only [es0]
  have : normL' [] = [] := normL'_eq (sn_sorted (l := []) (.refl _) .nil (by simp) (by simp))
  rw [this]
end Go.Proofs.Ytljgfkiiikcaaaa

/- Bills: what is needed to make something: the document's. -/
set_option linter.unusedVariables false
namespace Go.Proofs.Ytljgfkiiikcaaaa
open Go Go.Proofs
variable {Q : V → Mem → Prop} {c : Cat} {level : Int}

/-- A slice of a number for each type. -/
structure ArrS (N : Int) (A : List Int) (f : Int → Int) : Prop where
  len : (A.length : Int) = N + 1
  at' : ∀ t, 0 ≤ t → t ≤ N → A.getD t.toNat 0 = f t
section
variable {N a v : Int} {A : List Int} {f : Int → Int}
theorem ArrS.set (h : ArrS N A f) (h0 : 0 ≤ a) (h1 : a ≤ N) : ArrS N (A.set a.toNat v) (upd f a v) := by
  refine ⟨by rw [List.length_set]; exact h.len, fun t t0 t1 => ?_⟩
  have hl := h.len
  have := h.at' t t0 t1
  unfold upd
  rw [List.getD_eq_getElem?_getD] at this ⊢
  by_cases ht : t = a
  · subst ht; rw [if_pos rfl, List.getElem?_set_self (by omega)]; rfl
  · rw [if_neg ht, List.getElem?_set_ne (by omega)]; exact this
theorem ArrS.el (h : ArrS N A f) (h0 : 0 ≤ a) (h1 : a ≤ N) {K : List U → Prop} : elL (A.map eI) a K = K (eI (f a)) := by
  have hl := h.len
  refine elL_of h0 ?_
  rw [List.getElem?_map, List.getElem?_eq_getElem (show a.toNat < A.length by omega), Option.map_some, ← h.at' a h0 h1, List.getD_eq_getElem?_getD, List.getElem?_eq_getElem (show a.toNat < A.length by omega)]
  rfl
end
end Go.Proofs.Ytljgfkiiikcaaaa

/- Bills: few parts; the same; what must come. -/
set_option linter.unusedVariables false
namespace Go.Proofs.Ytljgfkiiikcaaaa
open Go Go.Proofs
variable {Q : V → Mem → Prop} {c : Cat} {level : Int}

structure Few (c : Cat) : Prop where
  nb : c.blues.length ≤ 20
  ny : c.bays.length ≤ 12
  n : ∀ b ∈ c.blues, b.needs.length ≤ 12
theorem few_S (k : ∀ b : Bool, (b = true → Few c) → Q (.u (.b b)) []) : PRun Try.prog 5 [] [aC c] Q := by
  have fin : (∀ (i : Nat) (b : Bl), (i : Int) < 20 → c.blues[i]? = some b → b.needs.length ≤ 12) → bif decide (((c.blues.map eB).length : Int) ≤ 20) then Q (.u (.b (decide (((c.bays.map eY).length : Int) ≤ 12)))) [] else Q (.u (.b false)) [] := fun h => by
    rw [List.length_map, List.length_map]
    refine cIf (fun h1 => k _ fun h2 => ?_) fun _ => k false (by simp)
    have h2 := of_decide_eq_true h2
    refine ⟨by omega, by omega, fun b hb => ?_⟩
    obtain ⟨i, hi, rfl⟩ := List.getElem_of_mem hb
    exact h i _ (by omega) (by simp)
  refine S5 ⟨fun x => 0 ≤ x ∧ x ≤ 20 ∧ ∀ (i : Nat) (b : Bl), (i : Int) < x → c.blues[i]? = some b → b.needs.length ≤ 12, fun x => (20 - x).toNat, ⟨by omega, by omega, fun i b h => by omega⟩, ?_⟩
  rintro x ⟨h0, h20, hx⟩
  refine cIf (fun h1 => cIf (fun h2 => ?_) fun h2 => fin fun i b hi hb => hx i b (by omega) hb) fun h1 => fin fun i b hi hb => hx i b (by
    have := (List.getElem?_eq_some_iff.1 hb).1
    rw [List.length_map] at h1
    omega) hb
  rw [List.length_map] at h1
  have hlt : x.toNat < c.blues.length := by omega
  rw [elL_of (r := eB c.blues[x.toNat]) h0 (by simp [hlt])]
  simp only [eB, ug0, ugs, dL_l]
  refine cIf (fun _ => k false (by simp)) fun h => ⟨⟨by rw [w64 (by omega) (by omega)]; omega, by rw [w64 (by omega) (by omega)]; omega, fun i b hi hb => ?_⟩, by rw [w64 (by omega) (by omega)]; omega⟩
  rw [w64 (by omega) (by omega)] at hi
  by_cases he : (i : Int) < x
  · exact hx i b he hb
  · have : i = x.toNat := by omega
    subst this
    rw [List.getElem?_eq_getElem hlt] at hb
    cases hb
    rw [List.length_map] at h
    omega
theorem sameI_S {A B : List Int} (hA : A.length ≤ 1000000) (k : Q (.u (.b (decide (A = B)))) []) : PRun Try.prog 34 [] [.l 1 (A.map eI), .l 1 (B.map eI)] Q := by
  refine S34 ?_
  rw [List.length_map, List.length_map]
  refine cNe (fun h => ?_) fun h => ?_
  · have : A ≠ B := fun e => by subst e; exact h rfl
    simpa [this] using k
  have hl : A.length = B.length := by omega
  obtain ⟨e1, e2⟩ := zip_fst hl
  have hAB : A = B ↔ ∀ p ∈ A.zip B, p.1 = p.2 := by
    constructor
    · rintro rfl p hp
      obtain ⟨i, hi, rfl⟩ := List.getElem_of_mem hp
      simp
    · intro h
      exact e1.symm.trans ((List.map_congr_left h).trans e2)
  generalize A.zip B = z at *
  have hzl : z.length ≤ 1000000 := by rw [← e1, List.length_map] at hA; exact hA
  rw [← e1, ← e2]
  rw [← e1, ← e2] at hAB k
  refine ⟨AtI z fun t _ => ∀ p ∈ t, p.1 = p.2, SufM z, .zero (by omega) (by simp), ?_⟩
  rintro x ⟨t, _ | ⟨p, l⟩, s, h⟩
  · have hx := s.k
    rw [s.all] at h hx
    rw [List.length_map, List.length_map, hx]
    refine cIf (fun h => by omega) fun _ => ?_
    rwa [decide_eq_true (hAB.2 h)] at k
  simp only [List.map_map, s.d1, s.el, cond_true, Function.comp_apply, eI, ug0, dI_n]
  refine cNe (fun hne => ?_) fun he => s.step fun q hq => ?_
  · have : ¬ (z.map (·.1) = z.map (·.2)) := fun e => hne (hAB.1 e p (by rw [s.e]; simp))
    rwa [decide_eq_false this] at k
  · rcases List.mem_append.1 hq with hq | hq
    · exact h q hq
    · simp at hq; subst hq; exact he
abbrev aM (b : BomV) : V := .a [.l 2 (b.1.map eS), .l 1 (b.2.1.map eI), .l 2 (b.2.2.map eS)]
theorem sameB_S {a b : BomV} (h1 : a.1.length ≤ 1000000 ∧ b.1.length ≤ 1000000) (h2 : a.2.1.length ≤ 1000000) (h3 : a.2.2.length ≤ 1000000 ∧ b.2.2.length ≤ 1000000) (k : Q (.u (.b (decide (a = b)))) []) : PRun Try.prog 15 [] [aM a, aM b] Q := by
  obtain ⟨a1, a2, a3⟩ := a
  obtain ⟨b1, b2, b3⟩ := b
  have he : decide ((a1, a2, a3) = (b1, b2, b3)) = (decide (a1 = b1) && (decide (a2 = b2) && decide (a3 = b3))) := by simp
  rw [he] at k
  refine S15 (same_S h1.1 h1.2 ?_)
  rw [post_B]
  refine cB (fun e => sameI_S h2 ?_) fun e => ?_
  · rw [post_B]
    refine cB (fun e2 => same_S h3.1 h3.2 ?_) fun e2 => ?_
    · rw [post_B]; rwa [e, e2, Bool.true_and, Bool.true_and] at k
    · rwa [e, e2, Bool.true_and, Bool.false_and] at k
  · rwa [e, Bool.false_and] at k
end Go.Proofs.Ytljgfkiiikcaaaa

/- Bills: what must come, whatever the arguments are. -/
set_option linter.unusedVariables false
namespace Go.Proofs.Ytljgfkiiikcaaaa
open Go Go.Proofs
variable {Q : V → Mem → Prop}

abbrev plB2 : Bl := ⟨2, 5, 10, [(1, 3)], 0, 0, 5⟩
abbrev plB3 : Bl := ⟨3, 1, 7, [(2, 2)], 0, 0, 5⟩
abbrev plain : Cat := ⟨3, [plB2, plB3], 1, [], 1, 0, 0, 0⟩
theorem plain_S (k : Q (aC plain) []) : PRun Try.prog 14 [] [] Q := S14 k
theorem plain_rg : plain.Rg := ⟨fun b hb => by
  simp at hb; rcases hb with rfl | rfl <;> exact ⟨fun s hs => by simp at hs; subst hs; decide, by decide⟩, by decide, by decide⟩
theorem cnt_one {a q x : Int} (h : a ≠ x) : ¬ 0 < cntN [(a, q)] x := by
  unfold cntN
  split
  · simp [tot, h]
  · simp
theorem plB2_ok : BlueOK plB2 3 := ⟨by decide, by decide, by decide, by decide, by decide, by decide, by decide, ⟨by decide, by decide, fun s hs => by simp at hs; subst hs; decide⟩, cnt_one (by decide)⟩
theorem plB3_ok : BlueOK plB3 3 := ⟨by decide, by decide, by decide, by decide, by decide, by decide, by decide, ⟨by decide, by decide, fun s hs => by simp at hs; subst hs; decide⟩, cnt_one (by decide)⟩
theorem plain_sz : plain.Sz := ⟨by decide, by decide, by decide, by decide, by decide, fun b hb => by
  simp at hb; rcases hb with rfl | rfl
  · exact blueE_ok.2 plB2_ok
  · exact blueE_ok.2 plB3_ok, by simp, by decide⟩
theorem plain_pairs : pairsL plain.blues = [(2, 1), (3, 2)] := rfl
theorem nx_iff {out : List Int} {k : Int} : Nx1 [(2, 1), (3, 2)] 3 out k ↔ 1 ≤ k ∧ k ≤ 3 ∧ k ∉ out ∧ (2 = k → (1 : Int) ∈ out) ∧ (3 = k → (2 : Int) ∈ out) := by
  unfold Nx1; simp
theorem plain_gr : Greedy [(2, 1), (3, 2)] 3 [1, 2, 3] ∧ ∀ k, ¬ Nx1 [(2, 1), (3, 2)] 3 [1, 2, 3] k := by
  refine ⟨.snoc (out := [1, 2]) (.snoc (out := [1]) (.snoc (out := []) .nil ?_ ?_) ?_ ?_) ?_ ?_, fun k => ?_⟩
  all_goals simp only [nx_iff]
  · simp
  · intro j h; omega
  · simp
  · intro j h; simp at h; omega
  · simp
  · intro j h; simp at h; omega
  · intro h; simp at h; omega
theorem plain_ord : orderR plain.types (pairsL plain.blues) = ([1, 2, 3], 0) := by
  unfold orderR
  rw [plain_pairs, if_pos ⟨by decide, by decide, by decide, fun p hp => by simp at hp; rcases hp with rfl | rfl <;> decide⟩, ordG_eq plain_gr.1 plain_gr.2]
  rfl
theorem plain_cat : catE plain = 0 := by
  have h1 : (deepR plain.types (pairsL plain.blues)).2 = 0 := by unfold deepR; rw [plain_ord]; rfl
  have h2 : deepL plain.types (pairsL plain.blues) = [0, 1, 2] := by
    unfold deepL; rw [plain_pairs, show plain.types = 3 from rfl, ordG_eq plain_gr.1 plain_gr.2]; rfl
  unfold catE
  rw [if_pos plain_sz, if_neg (by rw [h1]; simp), if_neg (by rw [h2]; simp)]
theorem plain_may {kind : Int} (h : 1 ≤ kind ∧ kind ≤ 3) {l : List Stk} (hl : chkE l 3 = 0) : mayE plain kind 0 l = 0 := by
  unfold mayE
  rw [plain_cat, if_neg (by simp), if_pos ⟨inn_iff.2 h, by decide⟩]
  exact hl
theorem chk_nil (t : Int) : chkE [] t = 0 := by unfold chkE; simp [chkL]
theorem plain_raw : chkE [(1, 3)] 3 = 0 := by unfold chkE; decide
theorem sn_self {l : List Stk} (hs : l.Pairwise (fun a b => a.1 < b.1)) (hq : ∀ p ∈ l, 1 ≤ p.2) : normL' l = l :=
  normL'_eq (sn_sorted (.refl _) (hs.imp fun h => by omega) (by
    rw [List.Nodup, List.pairwise_map]
    exact hs.imp fun h => by omega) hq)
theorem plain_exp : expR plain 3 1 0 [] = (([(1, 3)], [1, 1], [(2, 3)]), 0) := by
  have ht : topR plain = [3, 2, 1] := by unfold topR; rw [plain_ord]; rfl
  have he : ∃ s, expL plain 0 [] [3, 2, 1] (es0 plain 3 1) = some s ∧ s.raw = [(1, 3)] ∧ s.runs = [1, 1] ∧ s.left = [(2, 3)] := ⟨_, rfl, by decide, by decide, by decide⟩
  obtain ⟨s, h1, h2, h3, h4⟩ := he
  unfold expR
  rw [plain_may (by omega) (chk_nil _), if_neg (by simp), if_pos (by decide), ht, h1]
  simp only [h2, h3, h4]
  rw [sn_self (by simp) (by simp), sn_self (by simp) (by simp)]
theorem plain_co : ∃ out, CatOK plain out := cat_ok plain_cat
theorem time_R {b : Bl} {runs : Int} (hb : BlueOK b 3) (hr : 1 ≤ runs ∧ runs ≤ 1000) : timeR b 0 runs = (upI (b.time * runs * 100) 100, 0) := by
  unfold timeR
  rw [if_pos ⟨⟨blueE_ok.2 hb.mono, by decide⟩, inn_iff.2 hr⟩]
  rfl
theorem plain_ro : runsOK plain [1, 1] ∧ runsOK plain [2, 0] := ⟨⟨rfl, by simp [inn]⟩, ⟨rfl, by simp [inn]⟩⟩
theorem plain_path : pathR plain 3 [1, 1] 0 = (17, 0) := by
  obtain ⟨out, co⟩ := plain_co
  have w := pathV_way (level := 0) co plain_ro.1
  have w1 := w 1 (by decide) (by decide)
  have w2 := w 2 (by decide) (by decide)
  have w3 := w 3 (by decide) (by decide)
  have e1 : pathV plain [1, 1] 0 1 = 0 := by rw [w1]; rfl
  have e2 : pathV plain [1, 1] 0 2 = 10 := by
    rw [w2]
    show (timeR plB2 0 1).1 + maxF _ 0 [(1, 3)] = 10
    rw [time_R plB2_ok (by decide)]
    simp only [maxF, e1]
    decide
  have e3 : pathV plain [1, 1] 0 3 = 17 := by
    rw [w3]
    show (timeR plB3 0 1).1 + maxF _ 0 [(2, 2)] = 17
    rw [time_R plB3_ok (by decide)]
    simp only [maxF, e2]
    decide
  unfold pathR
  rw [plain_may (by omega) (chk_nil _), if_neg (by simp), if_pos plain_ro.1, e3]
theorem plain_whole : wholeR plain [2, 0] 0 = (20, 0) := by
  have e : timesL plain [2, 0] 0 = [20, 0] := by
    show [timeN 0 (2, plB2), timeN 0 (0, plB3)] = _
    unfold timeN
    rw [if_pos (by decide), if_neg (by decide), time_R plB2_ok (by decide)]
    decide
  unfold wholeR
  rw [plain_may (by omega) (chk_nil _), if_neg (by simp), if_pos plain_ro.2, e]
  rfl
theorem plain_needs : needOK 0 ([1, 1].zip plain.blues) := by
  intro p hp _
  have : p = (1, plB2) ∨ p = (1, plB3) := by simpa using hp
  rcases this with rfl | rfl <;> decide
theorem plain_fits : fitsP plain 3 1 0 [(1, 3)] [1, 1] := by
  refine ⟨plain_may (by omega) plain_raw, by decide, plain_ro.1, plain_needs, fun t h1 h2 => ?_⟩
  have : t = 1 ∨ t = 2 ∨ t = 3 := by simp at h2; omega
  rcases this with rfl | rfl | rfl <;> decide
theorem plain_nofit : ¬ fitsP plain 3 2 0 [(1, 3)] [1, 1] := fun h => absurd (h.2.2.2.2 3 (by decide) (by decide)) (by decide)
theorem post_C {F : Int → List (List U) → Int → List (List U) → Int → Int → Int → Int → Prop} {c : Cat} {m : Mem} : post [.agg [.i .i64, .l 7, .i .i64, .l 4, .i .i64, .i .i64, .i .i64, .i .i64]] [] F (aC c) m = F c.types (c.blues.map eB) c.places (c.bays.map eY) c.chars c.broker c.least c.sales := rfl
theorem post_BE {F : List (List U) → List (List U) → List (List U) → Int → Prop} {r : BomV × Int} {m : Mem} : post [.agg [.l 2, .l 1, .l 2], .I] [] F (vBE r) m = F (r.1.1.map eS) (r.1.2.1.map eI) (r.1.2.2.map eS) r.2 := rfl
theorem awake_S (k : Q (.u (.b true)) []) : PRun Try.prog 6 [] [] Q := by
  refine S6 (plain_S ?_)
  rw [post_C]
  refine pExpand_S (c := plain) (have' := []) plain_rg (by intro s hs; cases hs) (by decide) ?_
  rw [plain_exp, post_BE]
  refine plain_S ?_
  rw [post_C]
  refine pPathR_S (c := plain) (runs := [1, 1]) plain_rg (by decide) ?_
  rw [plain_path, post_II]
  refine plain_S ?_
  rw [post_C]
  refine pWhole_S (c := plain) (runs := [2, 0]) plain_rg (by decide) ?_
  rw [plain_whole, post_II]
  intro kk hk
  have hk := hk true k
  refine (fun rest => ⟨dup rest, dup (dup rest)⟩) ?_
  refine sameB_S (a := ([(1, 3)], [1, 1], [(2, 3)])) (b := ([(1, 3)], [1, 1], [(2, 3)])) (by decide) (by decide) (by decide) ?_
  rw [decide_eq_true rfl, post_B]
  refine plain_S ?_
  rw [post_C]
  refine pFits_S (c := plain) (raw := [(1, 3)]) (runs := [1, 1]) plain_rg (by decide) (fun s hs => by simp at hs; subst hs; decide) (by decide) fun b hb => ?_
  rw [post_B, hb.2 plain_fits]
  refine plain_S ?_
  rw [post_C]
  refine pFits_S (c := plain) (raw := [(1, 3)]) (runs := [1, 1]) plain_rg (by decide) (fun s hs => by simp at hs; subst hs; decide) (by decide) fun b hb => ?_
  rw [post_B]
  have : b = false := by
    cases b with
    | false => rfl
    | true => exact absurd (hb.1 rfl) plain_nofit
  rw [this]
  exact hk
end Go.Proofs.Ytljgfkiiikcaaaa

/- The laws BomExpands and BomTakes: what they are given; what they answer. -/
set_option linter.unusedVariables false
namespace Go.Proofs.Ytljgfkiiikcaaaa
open Go Go.Proofs
variable {Q : V → Mem → Prop}

/- ## What is given, as data -/
theorem conv_S (r : List U) (h : ShU (.i .i64 (.i .i64 .nil)) r) : ∃ s : Stk, r = eS s ∧ ((-9223372036854775808 ≤ s.1 ∧ s.1 ≤ 9223372036854775807) ∧ (-9223372036854775808 ≤ s.2 ∧ s.2 ≤ 9223372036854775807)) := by
  obtain ⟨n, _, rfl, hw, m, _, rfl, hw2, rfl⟩ := h
  exact ⟨(n, m), rfl, in64_of hw, in64_of hw2⟩
theorem conv_I (r : List U) (h : ShU (.i .i64 .nil) r) : ∃ x : Int, r = eI x ∧ in64 x := by
  obtain ⟨n, _, rfl, hw, rfl⟩ := h
  exact ⟨n, rfl, in64_of hw⟩
abbrev dsB : Ds := .i .i64 (.i .i64 (.i .i64 (.l 2 (.i .i64 (.i .i64 .nil)) (.i .i64 (.i .i64 (.i .i64 .nil))))))
abbrev dsY : Ds := .i .i64 (.i .i64 (.i .i64 (.i .i64 .nil)))
abbrev dsC : Ds := .i .i64 (.l 7 dsB (.i .i64 (.l 4 dsY (.i .i64 (.i .i64 (.i .i64 (.i .i64 .nil)))))))
theorem conv_B (r : List U) (h : ShU dsB r) : ∃ b : Bl, r = eB b ∧ rng b.needs := by
  obtain ⟨a, _, rfl, -, b, _, rfl, -, c, _, rfl, -, rows, _, rfl, -, hs, d, _, rfl, -, e, _, rfl, -, f, _, rfl, -, rfl⟩ := h
  obtain ⟨l, rfl, hl⟩ := rows_of conv_S hs
  exact ⟨⟨a, b, c, l, d, e, f⟩, rfl, hl⟩
theorem conv_Y (r : List U) (h : ShU dsY r) : ∃ y : Bay, r = eY y ∧ True := by
  obtain ⟨a, _, rfl, -, b, _, rfl, -, c, _, rfl, -, d, _, rfl, -, rfl⟩ := h
  exact ⟨⟨a, b, c, d⟩, rfl, trivial⟩
theorem conv_C (us : List U) (h : ShU dsC us) : ∃ c : Cat, V.a (us.map .u) = aC c ∧ ∀ b ∈ c.blues, rng b.needs := by
  obtain ⟨a, _, rfl, -, rows, _, rfl, -, hs, b, _, rfl, -, rows2, _, rfl, -, hs2, d, _, rfl, -, e, _, rfl, -, f, _, rfl, -, g, _, rfl, -, rfl⟩ := h
  obtain ⟨l, rfl, hl⟩ := rows_of conv_B hs
  obtain ⟨m, rfl, -⟩ := rows_of conv_Y hs2
  exact ⟨⟨a, l, b, m, d, e, f, g⟩, rfl, hl⟩
theorem Few.rg {c : Cat} (f : Few c) (h : ∀ b ∈ c.blues, rng b.needs) : c.Rg :=
  ⟨fun b hb => ⟨h b hb, by have := f.n b hb; omega⟩, by have := f.nb; omega, by have := f.ny; omega⟩
theorem sn_len {l r : List Stk} (h : SN l r) : r.length ≤ l.length := by
  have hn : (r.map (·.1)).Nodup := by
    rw [List.Nodup, List.pairwise_map]
    exact h.1.imp fun h => by omega
  have hs : r.map (·.1) ⊆ l.map (·.1) := fun k hk => by
    obtain ⟨p, hp, rfl⟩ := List.mem_map.1 hk
    obtain ⟨h1, h2⟩ := (h.2 p.1 p.2).1 hp
    obtain ⟨s, hs, e⟩ := tot_pos (l := l) (k := p.1) (by omega)
    exact List.mem_map.2 ⟨s, hs, e⟩
  simpa using hn.length_le_of_subset hs
theorem normL'_len (l : List Stk) : (normL' l).length ≤ l.length := by
  unfold normL'
  split
  · rename_i h; exact sn_len h.choose_spec
  · simp
theorem expR_len {c : Cat} {kind n level : Int} {have' : List Stk} (hc : c.Rg) : (expR c kind n level have').1.1.length ≤ 1000000 ∧ (expR c kind n level have').1.2.1.length ≤ 1000000 ∧ (expR c kind n level have').1.2.2.length ≤ 1000000 := by
  unfold expR
  split
  · simp
  rename_i hm
  split
  rotate_left
  · simp
  rename_i hn
  have hn := inn_iff.1 hn
  have hM : MaxQ = 1125899906842624 := rfl
  obtain ⟨hcat, hk, hlv, hchk⟩ := mayE_zero (by simpa using hm)
  obtain ⟨out, co⟩ := cat_ok hcat
  have hty := inn_iff.1 co.sz.types
  have hhe := errN_zero.1 (chkE_iff.1 hchk).sn.1
  split
  · simp
  rename_i s hs
  have ok := expL_ok co.sz hlv (fun u => tot_nonneg hhe.1 u) (es0_ok (c := c) (kind := kind) (by omega)) hs
  have ht : (topR c).length ≤ 32 := by
    unfold topR
    rw [co.r]
    have := nodup_len co.g.nodup co.g.mem (by omega)
    simp; omega
  have h1 := ok.raw.length_le
  have h2 := ok.left.length_le
  have h3 := normL'_len s.raw
  have h4 := normL'_len s.left
  have h5 := ok.rl
  have h6 := hc.nb
  simp at h1 h2
  refine ⟨?_, ?_, ?_⟩ <;> simp only <;> omega

/- ## The laws -/
theorem bool_same {a b : Bool} {p : Prop} (ha : a = true ↔ p) (hb : b = true ↔ p) : a = b := by
  cases a <;> cases b <;> simp_all
end Go.Proofs.Ytljgfkiiikcaaaa

/- The law BomFits. -/
set_option linter.unusedVariables false
namespace Go.Proofs.Ytljgfkiiikcaaaa
open Go Go.Proofs
variable {Q : V → Mem → Prop}

theorem sn_tot {l r : List Stk} (he : errN l = 0) (h : SN l r) (u : Int) : tot r u = tot l u := by
  have hg := (errN_zero.1 he).1
  have hn : (r.map (·.1)).Nodup := by
    rw [List.Nodup, List.pairwise_map]
    exact h.1.imp fun h => by omega
  by_cases hu : u ∈ r.map (·.1)
  · obtain ⟨p, hp, rfl⟩ := List.mem_map.1 hu
    rw [tot_mem hn hp]
    exact ((h.2 p.1 p.2).1 hp).1
  · rw [tot_none hu]
    apply Decidable.byContradiction
    intro hne
    have := tot_nonneg hg u
    exact hu (List.mem_map.2 ⟨(u, tot l u), (h.2 _ _).2 ⟨rfl, by omega⟩, rfl⟩)
theorem sn_rng {l r : List Stk} (he : errN l = 0) (hr : rng l) (h : SN l r) : rng r := fun p hp => by
  obtain ⟨h1, h2⟩ := (h.2 p.1 p.2).1 hp
  obtain ⟨s, hs, e⟩ := tot_pos (l := l) (k := p.1) (by omega)
  have := hr s hs
  have h3 := not_over (errN_zero.1 he).1 (errN_zero.1 he).2 p.1
  have hM : MaxQ = 1125899906842624 := rfl
  omega
theorem post_LLI {F : List (List U) → List (List U) → Int → Prop} {a b : List (List U)} {e : Int} {m : Mem} : post [.L 2, .L 2, .I] [] F (.t [.l 2 a, .l 2 b, .i e]) m = F a b e := rfl
/-- Stacks, and others, as normal ones. -/
theorem addG_S {A B : List Stk} (hA : rng A) (hB : rng B) (lA : A.length ≤ 1000) (lB : B.length ≤ 1000) (k1 : ∀ (r : List (List U)) e, e ≠ 0 → Q (.t [.l 2 r, .i e]) [])
    (k2 : ∀ r : List Stk, errN A = 0 → errN B = 0 → r.Pairwise (fun a b => a.1 < b.1) → (∀ u, tot r u = tot A u + tot B u) → (∀ p ∈ r, 1 ≤ p.1 ∧ 1 ≤ p.2 ∧ p.2 ≤ MaxQ ∧ (p.1 ∈ A.map (·.1) ∨ p.1 ∈ B.map (·.1))) → Q (.t [.l 2 (r.map eS), .i 0]) []) : PRun Try.prog 8 [] [.l 2 (A.map eS), .l 2 (B.map eS)] Q := by
  refine S8 (S25 (refNorm_S hA (by omega) fun x e hx => ?_))
  rw [post_LI]
  refine cNe (fun h => ?_) fun h => ?_
  · rw [post_LLI]
    exact cNe (fun _ => k1 _ _ h) fun h2 => absurd h2 h
  refine refNorm_S hB (by omega) fun y f hy => ?_
  rw [post_LI]
  refine cNe (fun h => ?_) fun h2 => ?_
  · rw [post_LLI]
    exact cNe (fun _ => k1 _ _ h) fun h2 => absurd h2 h
  rw [post_LLI]
  refine cNe (fun h => absurd rfl h) fun _ => ?_
  have eA : errN A = 0 := hx.1.symm.trans h
  have eB : errN B = 0 := hy.1.symm.trans h2
  have sA := hx.2.1 h
  have sB := hy.2.1 h2
  have l1 := sn_len sA
  have l2 := sn_len sB
  have r1 := sn_rng eA hA sA
  have r2 := sn_rng eB hB sB
  refine ⟨apOk_l (by simp; omega), apOk_l (by simp; omega), ?_⟩
  rw [← List.map_append]
  refine refNorm_S (fun s hs => (List.mem_append.1 hs).elim (r1 s) (r2 s)) (by simp; omega) fun r g hr => ?_
  rw [post_LI]
  by_cases hg : g = 0
  · subst hg
    have e3 : errN (x ++ y) = 0 := hr.1.symm
    have s3 := hr.2.1 rfl
    have ht : ∀ u, tot (x ++ y) u = tot A u + tot B u := fun u => by rw [tot_append, sn_tot eA sA, sn_tot eB sB]
    refine k2 r eA eB s3.1 (fun u => by rw [sn_tot e3 s3, ht]) fun p hp => ?_
    obtain ⟨h3, h4⟩ := (s3.2 p.1 p.2).1 hp
    have h5 := not_over (errN_zero.1 e3).1 (errN_zero.1 e3).2 p.1
    rw [ht] at h3 h5
    have hin : p.1 ∈ A.map (·.1) ∨ p.1 ∈ B.map (·.1) := by
      by_cases h6 : tot A p.1 = 0
      · obtain ⟨s, hs, e⟩ := tot_pos (l := B) (k := p.1) (by omega)
        exact .inr (List.mem_map.2 ⟨s, hs, e⟩)
      · obtain ⟨s, hs, e⟩ := tot_pos (l := A) (k := p.1) h6
        exact .inl (List.mem_map.2 ⟨s, hs, e⟩)
    refine ⟨?_, by omega, by omega, hin⟩
    rcases hin with h6 | h6
    · obtain ⟨s, hs, e⟩ := List.mem_map.1 h6
      have := ((errN_zero.1 eA).1 s hs).1; omega
    · obtain ⟨s, hs, e⟩ := List.mem_map.1 h6
      have := ((errN_zero.1 eB).1 s hs).1; omega
  · exact k1 _ _ hg
theorem cnt_ok {l : List Stk} {t u : Int} (h : CheckOK l t) : cntN l u = tot l u := by unfold cntN; rw [if_pos h.sn.1]
theorem check_rng {l : List Stk} {t : Int} (h : CheckOK l t) (ht : t ≤ 32) : rng l := fun s hs => by
  have := h.el s hs
  have hM : MaxQ = 1125899906842624 := rfl
  omega
/-- Stacks without one of a type that there is. -/
theorem subOne_S {A : List Stk} {t u : Int} (hA : CheckOK A t) (ht : t ≤ 32) (hu : 1 ≤ tot A u) (k : ∀ r : List Stk, r.length ≤ 8 → rng r → (∀ v, tot r v = tot A v - if v = u then 1 else 0) → Q (.t [.l 2 (r.map eS), .i 0]) []) : PRun Try.prog 10 [] [.l 2 (A.map eS), .l 2 [[.n u, .n 1]]] Q := by
  have hM : MaxQ = 1125899906842624 := rfl
  obtain ⟨s0, hs0, e0⟩ := tot_pos (l := A) (k := u) (by omega)
  have hu1 := hA.el s0 hs0
  have hB : CheckOK [(u, 1)] t := ⟨by simp, by simp, fun s hs => by simp at hs; subst hs; simp only; omega⟩
  have lA := hA.len
  refine S10 (S25 (refNorm_S (L := A) (check_rng hA ht) (by omega) fun x e hx => ?_))
  have hx0 : e = 0 := hx.1.trans hA.sn.1
  subst hx0
  obtain rfl := (hx.2.1 rfl).unique hA.sn.2
  rw [post_LI]
  refine cNe (fun h => absurd rfl h) fun _ => refNorm_S (L := [(u, 1)]) (check_rng hB ht) (by simp) fun y f hy => ?_
  have hy0 : f = 0 := hy.1.trans hB.sn.1
  subst hy0
  obtain rfl := (hy.2.1 rfl).unique hB.sn.2
  rw [post_LI]
  refine cNe (fun h => absurd rfl h) fun _ => ?_
  rw [post_LLI]
  refine cNe (fun h => absurd rfl h) fun _ => ?_
  refine ⟨fun i => AtI [((u, 1) : Stk)] (fun _ _ => True) i, fun i => SufM [((u, 1) : Stk)] i, .zero (by simp) trivial, ?_⟩
  rintro i ⟨t1, _ | ⟨p, l⟩, s, -⟩
  case cons =>
    have hp : p = (u, 1) := by
      have : p ∈ [((u, 1) : Stk)] := by rw [s.e]; simp
      simpa using this
    subst hp
    simp only [s.d1, s.el, eS, ug0, ugs, dI_n, cond_true]
    refine rCount_S (check_rng hA ht) (by omega) ?_
    rw [post_I, cnt_ok hA]
    exact cIf (fun h => by omega) fun _ => s.step trivial
  rw [s.d0, cond_false]
  refine ⟨fun o i => AtI x (fun t2 _ => ∃ r : List Stk, o = r.map eS ∧ r.length ≤ t2.length ∧ rng r ∧ ∀ v, tot r v = tot t2 v - (if v = u ∧ u ∈ t2.map (·.1) then 1 else 0)) i, fun _ i => SufM x i, .zero (by omega) ⟨[], rfl, by simp, (by intro s hs; cases hs), fun v => by simp [tot]⟩, ?_⟩
  rintro _ i ⟨t2, _ | ⟨p, l⟩, s2, r, rfl, hl, hr, ht2⟩
  · rw [s2.d0, cond_false]
    rw [s2.all] at hl ht2
    refine k r (by omega) hr fun v => ?_
    rw [ht2 v]
    have : u ∈ x.map (·.1) := List.mem_map.2 ⟨s0, hs0, e0⟩
    simp only [this, and_true]
  have hpx : p ∈ x := by rw [s2.e]; simp
  have hp := hA.el p hpx
  have htl := congrArg List.length s2.e
  simp at htl
  have hpt : p.1 ∉ t2.map (·.1) := fun h => by
    obtain ⟨q, hq, e⟩ := List.mem_map.1 h
    have hr := hA.rise
    rw [s2.e, List.pairwise_append] at hr
    have := hr.2.2 q hq p (by simp)
    omega
  simp only [s2.d1, s2.el, eS, ug0, ugs, dI_n, cond_true]
  refine rCount_S (L := [(u, 1)]) (check_rng hB ht) (by simp) ?_
  rw [post_I, cnt_ok hB]
  have hty : tot [(u, 1)] p.1 = if u = p.1 then 1 else 0 := by simp [tot]
  rw [hty, w64 (by split <;> omega) (by split <;> omega)]
  have hsn : ∀ v, tot (t2 ++ [p]) v = tot t2 v + if p.1 = v then p.2 else 0 := fun v => tot_snoc ..
  have hmem : ∀ v, (v = u ∧ u ∈ (t2 ++ [p]).map (·.1)) ↔ (v = u ∧ u ∈ t2.map (·.1)) ∨ (v = u ∧ u = p.1) := fun v => by simp [and_or_left]
  refine cIf (fun h => ⟨apOk_l (by simp; omega), s2.step ⟨r ++ [(p.1, p.2 - if u = p.1 then 1 else 0)], by simp [eS], by simp; omega, fun s hs => ?_, fun v => ?_⟩⟩) fun h => s2.step ⟨r, rfl, by simp; omega, hr, fun v => ?_⟩
  · rcases List.mem_append.1 hs with hs | hs
    · exact hr s hs
    · simp at hs; subst hs; simp only; split <;> omega
  · rw [tot_snoc, hsn, ht2 v]
    simp only
    by_cases hv : p.1 = v
    · subst hv
      have hnu : ¬ (p.1 = u ∧ u ∈ t2.map (·.1)) := fun h => hpt (h.1 ▸ h.2)
      rw [if_pos rfl, if_pos rfl, if_neg hnu]
      by_cases hu' : u = p.1
      · rw [if_pos hu', if_pos ((hmem _).2 (.inr ⟨hu'.symm, hu'⟩))]; omega
      · rw [if_neg hu', if_neg (fun h => hu' h.1.symm)]; omega
    · rw [if_neg hv, if_neg hv]
      by_cases hvu : v = u ∧ u ∈ t2.map (·.1)
      · rw [if_pos hvu, if_pos ((hmem _).2 (.inl hvu))]; omega
      · rw [if_neg hvu, if_neg (fun h => ((hmem v).1 h).elim hvu fun h => hv (h.2.symm.trans h.1.symm))]; omega
  · rw [hsn, ht2 v]
    have hup : u = p.1 ∧ p.2 = 1 := by
      by_cases hu' : u = p.1
      · rw [if_pos hu'] at h; exact ⟨hu', by omega⟩
      · rw [if_neg hu'] at h; omega
    by_cases hv : p.1 = v
    · subst hv
      have hnu : ¬ (p.1 = u ∧ u ∈ t2.map (·.1)) := fun h => hpt (h.1 ▸ h.2)
      rw [if_pos rfl, if_neg hnu, if_pos ((hmem _).2 (.inr ⟨hup.1.symm, hup.1⟩))]; omega
    · rw [if_neg hv]
      by_cases hvu : v = u ∧ u ∈ t2.map (·.1)
      · exact absurd (hup.1.symm.trans hvu.1.symm) hv
      · rw [if_neg hvu, if_neg (fun h => ((hmem v).1 h).elim hvu fun h => hv (h.2.symm.trans h.1.symm))]; omega
theorem bomFits_S {c : Cat} {kind n level : Int} {have' : List Stk} (hb : ∀ b ∈ c.blues, rng b.needs) (hr : rng have') (k : Q (.u (.b true)) []) : PRun Try.prog 3 [] [aC c, .a [.i kind, .i n, .i level], .l 2 (have'.map eS)] Q := by
  have hM : MaxQ = 1125899906842624 := rfl
  have aw : PRun Try.prog 6 [] [] (post [.B] [] fun b => Q (.u (.b b)) []) := awake_S (by rw [post_B]; exact k)
  refine S3 (few_S fun b hf => ?_)
  rw [post_B]
  refine cNot (cB (fun h => ?_) fun _ => aw)
  have hc := (hf h).rg hb
  refine cIf (fun h => aw) fun hl => ?_
  have hl : have'.length ≤ 8 := by simp at hl; omega
  refine pExpand_S hc hr (by omega) ?_
  rw [post_BE]
  have hlen := expR_len (kind := kind) (n := n) (level := level) (have' := have') hc
  by_cases hex : ∃ s, mayE c kind level have' = 0 ∧ inn n 1 1125899906842624 = true ∧ expL c level have' (topR c) (es0 c kind n) = some s
  rotate_left
  · have he : ∃ e, expR c kind n level have' = (([], [], []), e) ∧ e ≠ 0 := by
      unfold expR
      split
      · rename_i h; exact ⟨_, rfl, h⟩
      rename_i hm
      split
      · rename_i hn
        split
        · exact ⟨5, rfl, by decide⟩
        · rename_i s hs; exact absurd ⟨s, by simpa using hm, hn, hs⟩ hex
      · exact ⟨1, rfl, by decide⟩
    obtain ⟨e, he, hne⟩ := he
    rw [he]
    exact cNe (fun _ => aw) fun h => absurd h hne
  obtain ⟨s, hm, hn, hs⟩ := hex
  have dn := done_ok hm hn hs
  have hE : expR c kind n level have' = ((normL' s.raw, s.runs, normL' s.left), 0) := by
    unfold expR
    rw [if_neg (by simpa using hm), if_pos hn, hs]
  rw [hE] at hlen ⊢
  simp only at hlen ⊢
  obtain ⟨out, co, ok, pl⟩ := dn.cat
  have hty := inn_iff.1 co.sz.types
  have hsub : ∀ u ∈ out.reverse, 1 ≤ u ∧ u ≤ c.types := fun u hu => co.g.mem u (List.mem_reverse.1 hu)
  have hnd : out.reverse.Nodup := (List.reverse_perm out).nodup_iff.2 co.g.nodup
  have hro := dn.runs
  have hrl : s.runs.length ≤ 1000000 := hlen.2.1
  -- the raw stacks are normal
  have eraw := good_of ok.raw ok.rq (fun u hu => (hsub u hu).1) hnd
  have hsr : SN s.raw (normL' s.raw) := by
    obtain ⟨r, hp, hs⟩ : ∃ r : List Stk, r.Perm s.raw ∧ r.Pairwise (fun x y => x.1 ≤ y.1) := ⟨s.raw.mergeSort (fun x y => decide (x.1 ≤ y.1)), List.mergeSort_perm _ _, by
      have := List.pairwise_mergeSort (le := fun x y : Stk => decide (x.1 ≤ y.1)) (fun a b c h1 h2 => by simp at *; omega) (fun a b => by simp; omega) s.raw
      exact this.imp fun h => by simpa using h⟩
    have h := sn_sorted hp hs (ok.raw.nodup hnd) fun p hp => (ok.rq p hp).1
    rw [normL'_eq h]; exact h
  have hrawty : ∀ p ∈ normL' s.raw, p.1 ∈ s.raw.map (·.1) := fun p hp => by
    obtain ⟨h1, h2⟩ := (hsr.2 p.1 p.2).1 hp
    obtain ⟨q, hq, e⟩ := tot_pos (l := s.raw) (k := p.1) (by omega)
    exact List.mem_map.2 ⟨q, hq, e⟩
  have hrr : rng s.raw := fun p hp => by
    have h1 := hsub p.1 (ok.raw.subset (List.mem_map.2 ⟨p, hp, rfl⟩))
    have h2 := ok.rq p hp
    omega
  have hrl2 : (normL' s.raw).length ≤ 1000 := by
    have h1 := normL'_len s.raw
    have h2 := ok.raw.length_le
    have h3 := nodup_len co.g.nodup co.g.mem (by omega)
    simp at h2; omega
  refine cNe (fun h => absurd rfl h) fun _ => addG_S (sn_rng eraw hrr hsr) hr hrl2 (by omega) (fun r e he => ?_) fun A e1 e2 hA1 hA2 hA3 => ?_
  · rw [post_LI]
    exact cNe (fun _ => aw) fun h2 => absurd h2 he
  rw [post_LI]
  refine cNe (fun h => absurd rfl h) fun _ => cIf (fun h => aw) fun hA8 => ?_
  have hhok := chkE_iff.1 (mayE_zero hm).2.2.2
  have hAok : CheckOK A c.types := ⟨by simp at hA8; omega, hA1, fun p hp => by
    obtain ⟨h1, h2, h3, h4⟩ := hA3 p hp
    refine ⟨h1, ?_, h2, h3⟩
    rcases h4 with h4 | h4
    · obtain ⟨q, hq, e⟩ := List.mem_map.1 h4
      have := hsub q.1 (ok.raw.subset (hrawty q hq)); omega
    · obtain ⟨q, hq, e⟩ := List.mem_map.1 h4
      have := hhok.el q hq; omega⟩
  have hA2' : ∀ u, tot A u = tot s.raw u + tot have' u := fun u => by rw [hA2, sn_tot eraw hsr]
  have hAl := hAok.len
  refine pFits_S hc hrl (check_rng hAok hty.2) (by omega) fun b hbf => ?_
  rw [post_B, hbf.2 (dn.fits (chkE_iff.2 hAok) hA2')]
  refine ⟨fun x => AtI (normL' s.raw) (fun _ _ => True) x, fun x => SufM (normL' s.raw) x, .zero (by omega) trivial, ?_⟩
  rintro x ⟨t, _ | ⟨p, l⟩, at', -⟩
  case cons =>
    have hp : p ∈ normL' s.raw := by rw [at'.e]; simp
    simp only [at'.d1, at'.el, eS, ug0, dI_n, cond_true]
    obtain ⟨h1, h2⟩ := (hsr.2 p.1 p.2).1 hp
    have hh0 := tot_nonneg (errN_zero.1 hhok.sn.1).1 p.1
    refine subOne_S hAok hty.2 (by rw [hA2']; omega) fun r hr8 hrr2 hrt => ?_
    rw [post_LI]
    refine cNe (fun h => absurd rfl h) fun _ => pFits_S hc hrl hrr2 (by omega) fun b2 hb2 => ?_
    rw [post_B]
    have hno := dn.less (u := p.1) (A := r) (hrawty p hp) (by rw [hrt, if_pos rfl, hA2'])
    have : b2 = false := by
      cases b2 with
      | false => rfl
      | true => exact absurd (hb2.1 rfl) hno
    rw [this, cond_false]
    exact at'.step trivial
  rw [at'.d0, cond_false]
  obtain ⟨m, w, hp, hw, hle⟩ := path_whole (kind := kind) hm hro
  refine pPathR_S hc hrl ?_
  rw [hp, post_II]
  refine pWhole_S hc hrl ?_
  rw [hw, post_II]
  have hkn := (mayE_zero hm).2.1
  have hn' := inn_iff.1 hn
  refine pExpand_S (have' := [(kind, n)]) hc (fun q hq => by simp at hq; subst hq; simp only; omega) (by simp) ?_
  rw [exp_there hm hn, post_BE]
  refine cEq (fun _ => cEq (fun _ => cIf (fun _ => cEq (fun _ => cEq (fun _ => cEq (fun _ => aw) fun h => absurd rfl h) fun h => absurd rfl h) fun h => absurd rfl h) fun h => absurd hle h) fun h => absurd rfl h) fun h => absurd rfl h
theorem bomFits_run {us0 us1} (sh0 : ShU dsC us0) (sh1 : ShU (.i .i64 (.i .i64 (.i .i64 .nil))) us1) {rows2} (hl2 : rows2.length ≤ maxLen) (hs2 : ∀ r ∈ rows2, ShU (.i .i64 (.i .i64 .nil)) r) :
    PRun Try.prog 3 [] [.a (us0.map .u), .a (us1.map .u), .l 2 rows2] fun v _ => v = .u (.b true) := by
  obtain ⟨c, e, hb⟩ := conv_C us0 sh0
  obtain ⟨a, _, rfl, -, b, _, rfl, -, d, _, rfl, -, rfl⟩ := sh1
  obtain ⟨l, rfl, hl⟩ := rows_of conv_S hs2
  rw [e]
  exact bomFits_S hb hl rfl
end Go.Proofs.Ytljgfkiiikcaaaa

/- The row of BomFits: whatever it is given it returns true, and what it was given reads as it did. -/
namespace Go.Proofs.Ytljgfkiiikcaaaa
open Go Go.Proofs Go.ChangeShapes Go.WideShapes Go.ChangeAt Go.RowKit

set_option maxRecDepth 100000 in
theorem bomFits_lifted (os : Os) (started : os.Started) (H : Type) (enc : TypeId × Value → H) :
    ReturnsInHanded {} Try.checked os 3 .any (Rows.bomFitsSpec.pre6 enc Try.prog Try.f3 Rows.bomFitsRow.domain false) (Rows.bomFitsSpec.post enc Try.prog Try.f3 false true false false) := by
  refine returnsInHanded_of_change (C := Try.checked) Try.own started (by kernel_rfl) Try.func3
    (ChangeSpec.witness6 (enc := enc) (C := Try.checked) false ⟨#[], #[.agg #[.int .i64 0, .slice none 0 0, .int .i64 0, .slice none 0 0, .int .i64 0, .int .i64 0, .int .i64 0, .int .i64 0], .agg #[.int .i64 0, .int .i64 0, .int .i64 0], .slice none 0 0], []⟩ 8 (by kernel_rfl) (by kernel_rfl) (by kernel_rfl) (by kernel_rfl)) ?_
  intro W base args ds gs before hval0 hW hcnd _
  have hval : ∀ (j : Nat) t v, Try.f3.params[j]? = some t → args[j]? = some v → Value.okWide Try.prog W .any base t v := hval0
  have hW' := hW
  obtain ⟨p, q, hA0, hV, rfl, hfz, hnd⟩ := hW
  have hA : DataW.TrodAll enc Try.prog W 0 (fun _ => true) true Try.f3.params.toList args.toList ds p := hA0
  rw [Try.params3] at hA hval
  obtain ⟨v0, v1, v2, d0, d1, d2, p0, p1, p2, rfl, rfl, rfl, h0, h1, h2⟩ := trodAll_three hA
  obtain ⟨rfl, rfl⟩ := trodVars_none hV
  obtain ⟨us0, hr0, sh0⟩ := open_data (ds := (.i .i64 (.l 7 (.i .i64 (.i .i64 (.i .i64 (.l 2 (.i .i64 (.i .i64 .nil)) (.i .i64 (.i .i64 (.i .i64 .nil))))))) (.i .i64 (.l 4 (.i .i64 (.i .i64 (.i .i64 (.i .i64 .nil)))) (.i .i64 (.i .i64 (.i .i64 (.i .i64 .nil))))))))) (by kernel_rfl) h0
  obtain ⟨cs0, rfl⟩ : ∃ cs, v0 = .agg cs := by
    have hv := hval 0 27 v0 rfl rfl
    unfold Value.okWide at hv
    rw [Try.underlying27] at hv
    obtain ⟨cs, rfl, -⟩ := hv
    exact ⟨cs, rfl⟩
  obtain ⟨us1, hr1, sh1⟩ := open_data (ds := (.i .i64 (.i .i64 (.i .i64 .nil)))) (by kernel_rfl) h1
  obtain ⟨cs1, rfl⟩ : ∃ cs, v1 = .agg cs := by
    have hv := hval 1 29 v1 rfl rfl
    unfold Value.okWide at hv
    rw [Try.underlying29] at hv
    obtain ⟨cs, rfl, -⟩ := hv
    exact ⟨cs, rfl⟩
  obtain ⟨us2, hr2, sh2⟩ := open_data (ds := (.l 2 (.i .i64 (.i .i64 .nil)) .nil)) (by kernel_rfl) h2
  obtain ⟨a2, n2, c2, rfl⟩ := Go.WideShapes.okWide_slice Try.underlying30 (hval 2 30 v2 rfl rfl)
  obtain ⟨rows2, _, rfl, hl2, hs2, rfl⟩ := sh2
  clear hA0 hval0
  refine ((bomFits_run sh0 sh1 hl2 hs2 (allD W.heap) [] [] [] W.heap _ (SAt.all W.heap) (.cons (rp_agg hr0) (.cons (rp_agg hr1) (.cons (rp_slice hr2) (.nil))))).2 W rfl).mono ?_
  rintro e W' ⟨v, rfl, ⟨D', ρ', chs', x, m', le, M', hv, rfl⟩, hsm⟩
  obtain rfl : v = .bool true := by cases hv with | u h => cases h; rfl
  have hb := belowOf (St.kept le M'.st) hsm
  have hlt0 : ∀ x ∈ p0, x.block < W.heap.size := fun x hx => by simpa using hW'.lt x (by simp [hx])
  have hlt1 : ∀ x ∈ p1, x.block < W.heap.size := fun x hx => by simpa using hW'.lt x (by simp [hx])
  have hlt2 : ∀ x ∈ p2, x.block < W.heap.size := fun x hx => by simpa using hW'.lt x (by simp [hx])
  exact ⟨_, rfl, _, _, _, [], _, [], hW', trodAll_mk1 (shut_bool Try.underlying4 true), trodAll_mk3 (hb.trod Try.laidOut (by kernel_rfl) (of_decide_eq_true (by kernel_rfl)) h0 hlt0) (hb.trod Try.laidOut (by kernel_rfl) (of_decide_eq_true (by kernel_rfl)) h1 hlt1) (hb.trod Try.laidOut (by kernel_rfl) (of_decide_eq_true (by kernel_rfl)) h2 hlt2), rfl, hb.frame _, fun h => by cases h⟩

/-- The statement. -/
theorem bomFits_holds : Rows.BomFitsSaid :=
  OpenClaim.holds_of_wide 3 Try.f3 rfl rfl rfl rfl rfl rfl rfl ⟨rfl, rfl, rfl, rfl, rfl⟩ rfl rfl rfl rfl rfl (by kernel_rfl) Try.func3 (by kernel_rfl)
    (of_decide_eq_true (by kernel_rfl)) (by unfold Func.isWrapper; first | (rw [if_pos (by decide +kernel)]; kernel_rfl) | (rw [if_neg (by decide +kernel)]; exact ⟨rfl, rfl⟩))
    (fun os started H enc _ => bomFits_lifted os started H enc)
end Go.Proofs.Ytljgfkiiikcaaaa
