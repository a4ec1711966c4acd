/- The row of BomEven: whatever it is given it returns true, and what it was given reads as it did. -/
import Derived.Test.YtljgfkiiikcaaaaKb4
/- Bills, plain: what is told fits; the way is no longer than all runs; what is there is made no more. -/
set_option linter.unusedVariables false
namespace Go.Proofs.Ytljgfkiiikcaaaa
open Go Go.Proofs
variable {c : Cat} {level : Int}

theorem mayE_of {kind : Int} {h l : List Stk} (hm : mayE c kind level h = 0) (hl : chkE l c.types = 0) : mayE c kind level l = 0 := by
  obtain ⟨h1, h2, h3, -⟩ := mayE_zero hm
  unfold mayE
  rw [h1, if_neg (by simp), if_pos ⟨inn_iff.2 h2, inn_iff.2 h3⟩]
  exact hl
/-- What a plan comes to. -/
structure DoneOK (c : Cat) (level kind n : Int) (have' : List Stk) (s : ES) : Prop where
  may : mayE c kind level have' = 0
  n1 : inn n 1 1125899906842624 = true
  cat : ∃ out, CatOK c out ∧ ESok c out.reverse s ∧ PlanOK c level kind n have' out.reverse s
theorem done_ok {kind n : Int} {have' : List Stk} {s : ES} (hm : mayE c kind level have' = 0) (hn : inn n 1 1125899906842624 = true) (h : expL c level have' (topR c) (es0 c kind n) = some s) : DoneOK c level kind n have' s := by
  obtain ⟨hcat, hk, hlv, hchk⟩ := mayE_zero hm
  obtain ⟨out, co⟩ := cat_ok hcat
  have hhe := errN_zero.1 (chkE_iff.1 hchk).sn.1
  have hn' := inn_iff.1 hn
  have hM : MaxQ = 1125899906842624 := rfl
  unfold topR at h
  rw [co.r] at h
  have e0 := es0_ok (c := c) (kind := kind) (n := n) (by omega)
  refine ⟨hm, hn, out, co, ?_, ?_⟩
  · simpa using expL_ok co.sz hlv (fun u => tot_nonneg hhe.1 u) e0 h
  · simpa using expL_plan co hlv (fun u => tot_nonneg hhe.1 u) (t := []) (by simp) e0 (es0_plan c level kind n have') h
theorem DoneOK.bal {kind n : Int} {have' A : List Stk} {s : ES} (o : DoneOK c level kind n have' s) {u d : Int} (hA : tot A u = tot s.raw u + tot have' u - d) : balT kind n A level (s.runs.zip c.blues) u = defD have' s c.blues u - d := by
  obtain ⟨out, co, ok, pl⟩ := o.cat
  unfold balT defD
  rw [runTs_eq, hA, pl.w u]
  unfold n0
  omega
theorem DoneOK.runs {kind n : Int} {have' : List Stk} {s : ES} (o : DoneOK c level kind n have' s) : runsOK c s.runs := by
  obtain ⟨out, co, ok, pl⟩ := o.cat
  exact ⟨ok.rl, fun n hn => inn_iff.2 (ok.runs n hn)⟩
theorem DoneOK.fits {kind n : Int} {have' A : List Stk} {s : ES} (o : DoneOK c level kind n have' s) (hc : chkE A c.types = 0) (hA : ∀ u, tot A u = tot s.raw u + tot have' u) : fitsP c kind n level A s.runs := by
  obtain ⟨out, co, ok, pl⟩ := o.cat
  refine ⟨mayE_of o.may hc, o.n1, o.runs, pl.needs, fun t h1 h2 => ?_⟩
  rw [o.bal (d := 0) (by rw [hA]; omega)]
  have := (pl.d t (List.mem_reverse.2 (co.all t h1 h2))).1
  omega
theorem DoneOK.less {kind n u : Int} {have' A : List Stk} {s : ES} (o : DoneOK c level kind n have' s) (hu : u ∈ s.raw.map (·.1)) (hA : tot A u = tot s.raw u + tot have' u - 1) : ¬ fitsP c kind n level A s.runs := by
  obtain ⟨out, co, ok, pl⟩ := o.cat
  rintro ⟨-, -, -, -, hb⟩
  have hut : u ∈ out.reverse := ok.raw.subset hu
  have hut' := co.g.mem u (List.mem_reverse.1 hut)
  have := hb u hut'.1 hut'.2
  rw [o.bal hA, (pl.d u hut).2 hu] at this
  omega

/- ## Ways and times -/
def tauZ (g : Int × Bl → Int) (z : List (Int × Bl)) (u : Int) : Int := sumZ (z.map fun p => if p.2.makes = u then g p else 0)
theorem sumZ_nonneg {α : Type} {f : α → Int} (hf : ∀ x, 0 ≤ f x) : ∀ (l : List α), 0 ≤ sumZ (l.map f)
  | [] => by simp [sumZ]
  | x :: l => by have := sumZ_nonneg hf l; have := hf x; simp only [List.map_cons, sumZ]; omega
theorem sumZ_mem {α : Type} {f : α → Int} (hf : ∀ x, 0 ≤ f x) : ∀ {l : List α} {x : α}, x ∈ l → f x ≤ sumZ (l.map f)
  | y :: l, x, h => by
    simp only [List.map_cons, sumZ]
    rcases List.mem_cons.1 h with rfl | h
    · have := sumZ_nonneg hf l; omega
    · have := sumZ_mem hf h; have := hf y; omega
theorem sumZ_app (l m : List Int) : sumZ (l ++ m) = sumZ l + sumZ m := by
  induction l with
  | nil => simp [sumZ]
  | cons x l ih => simp only [List.cons_append, sumZ, ih]; omega
theorem one_le {a v : Int} (hv : 0 ≤ v) : ∀ {l : List Int}, l.Nodup → sumZ (l.map fun u => if a = u then v else 0) ≤ v ∧ (a ∉ l → sumZ (l.map fun u => if a = u then v else 0) = 0)
  | [], _ => by simp [sumZ, hv]
  | x :: l, h => by
    rw [List.nodup_cons] at h
    have ih := one_le (a := a) hv h.2
    simp only [List.map_cons, sumZ]
    by_cases hx : a = x
    · subst hx
      have := ih.2 h.1
      simp only [if_true, List.mem_cons, true_or, not_true, false_implies, and_true]; omega
    · rw [if_neg hx]
      refine ⟨by omega, fun hn => ?_⟩
      have := ih.2 (fun h => hn (by simp [h]))
      omega
theorem tau_sum {g : Int × Bl → Int} (hg : ∀ p, 0 ≤ g p) {out : List Int} (hn : out.Nodup) : ∀ (z : List (Int × Bl)), sumZ (out.map (tauZ g z)) ≤ sumZ (z.map g)
  | [] => by
    have : sumZ (out.map (tauZ g [])) = 0 := by
      clear hn
      induction out with
      | nil => rfl
      | cons x l ih => simp only [List.map_cons, sumZ, ih]; rfl
    rw [this]; simp [sumZ]
  | p :: z => by
    have ih := tau_sum hg hn z
    have h1 := (one_le (a := p.2.makes) (hg p) hn).1
    have : sumZ (out.map (tauZ g (p :: z))) = sumZ (out.map fun u => if p.2.makes = u then g p else 0) + sumZ (out.map (tauZ g z)) := by
      clear hn ih h1
      induction out with
      | nil => rfl
      | cons x l ih =>
        simp only [List.map_cons, sumZ, ih]
        unfold tauZ
        simp only [List.map_cons, sumZ]; omega
    rw [this]
    simp only [List.map_cons, sumZ]; omega
theorem timeN0 (level : Int) (p : Int × Bl) : 0 ≤ timeN level p := (timeN_bd p).1
theorem way_tau {out runs : List Int} (co : CatOK c out) (ro : runsOK c runs) {f : Int → Int} (hf : WayF c runs level f) : ∀ (n : Nat) (t l : List Int) (a : Int), t.length = n → out = t ++ a :: l → f a ≤ sumZ ((t ++ [a]).map (tauZ (timeN level) (runs.zip c.blues))) := by
  have h0 : ∀ l : List Int, 0 ≤ sumZ (l.map (tauZ (timeN level) (runs.zip c.blues))) := fun l => sumZ_nonneg (fun u => sumZ_nonneg (fun p => by split <;> first | exact timeN0 level p | omega) _) l
  intro n
  induction n using Nat.strongRecOn with
  | _ n ih =>
    intro t l a hn e
    have ha := co.g.mem a (by rw [e]; simp)
    rw [hf a ha.1 ha.2]
    have hall := h0 (t ++ [a])
    rcases maker_get (l := c.blues) (t := a) with hz | ⟨i, b, h1, h2, h3⟩
    · unfold wayE; rw [if_pos hz]; exact hall
    obtain ⟨m, hm, hp⟩ := zip_get ro.1 h2
    rw [wayE_eq ro h1 h2 hm]
    split
    · exact hall
    rename_i hm0
    have hro := inn_iff.1 (ro.2 m (List.mem_of_getElem? hm))
    rw [List.map_append, sumZ_app]
    simp only [List.map_cons, List.map_nil, sumZ]
    have ht : (timeR b level m).1 ≤ tauZ (timeN level) (runs.zip c.blues) a := by
      have hmem : (m, b) ∈ runs.zip c.blues := List.mem_of_getElem? (List.getElem?_zip_eq_some.2 ⟨hm, h2⟩)
      have := sumZ_mem (f := fun p : Int × Bl => if p.2.makes = a then timeN level p else 0) (fun p => by split <;> first | exact timeN0 level p | omega) hmem
      simp only [h3, if_true] at this
      have e : timeN level (m, b) = (timeR b level m).1 := by unfold timeN; rw [if_pos (show 0 < m by omega)]
      rw [e] at this
      exact this
    have hmx := (maxF_bd (f := f) (B := sumZ (t.map (tauZ (timeN level) (runs.zip c.blues)))) b.needs 0 (Int.le_refl _) (h0 t) fun s hs => ?_).2
    · omega
    · have hst := co.needs e (List.mem_of_getElem? h2) h3 s hs
      obtain ⟨t1, l1, rfl⟩ := List.append_of_mem hst
      have := ih t1.length (by rw [← hn]; simp) t1 (l1 ++ a :: l) s.1 rfl (by rw [e]; simp)
      have h2 := h0 l1
      rw [show t1 ++ s.1 :: l1 = (t1 ++ [s.1]) ++ l1 by simp, List.map_append, sumZ_app]
      omega
theorem path_whole {kind : Int} {have' : List Stk} {runs : List Int} (hm : mayE c kind level have' = 0) (ro : runsOK c runs) : ∃ m n, pathR c kind runs level = (m, 0) ∧ wholeR c runs level = (n, 0) ∧ m ≤ n := by
  obtain ⟨hcat, hk, hlv, -⟩ := mayE_zero hm
  obtain ⟨out, co⟩ := cat_ok hcat
  have hnil : chkE [] c.types = 0 := by unfold chkE; simp [chkL]
  have hty := inn_iff.1 co.sz.types
  have h1 := mayE_of hm hnil
  have h2 : mayE c 1 level [] = 0 := by
    unfold mayE
    rw [hcat, if_neg (by simp), if_pos ⟨inn_iff.2 (by omega), inn_iff.2 hlv⟩]
    exact hnil
  refine ⟨_, _, by unfold pathR; rw [if_neg (by simpa using h1), if_pos ro], by unfold wholeR; rw [if_neg (by simpa using h2), if_pos ro], ?_⟩
  obtain ⟨t, l, e⟩ := List.append_of_mem (co.all kind hk.1 hk.2)
  have h3 := way_tau co ro (pathV_way (level := level) co ro) _ t l kind rfl e
  have h4 := tau_sum (g := timeN level) (timeN0 level) co.g.nodup (runs.zip c.blues)
  have h5 : 0 ≤ sumZ (l.map (tauZ (timeN level) (runs.zip c.blues))) := sumZ_nonneg (fun u => sumZ_nonneg (fun p => by split <;> first | exact timeN0 level p | omega) _) l
  rw [e, show t ++ kind :: l = (t ++ [kind]) ++ l by simp, List.map_append, sumZ_app] at h4
  unfold timesL
  omega

/- ## What is there is made no more -/
theorem exp_there {kind n : Int} {have' : List Stk} (hm : mayE c kind level have' = 0) (hn : inn n 1 1125899906842624 = true) : expR c kind n level [(kind, n)] = (([], List.replicate c.blues.length 0, []), 0) := by
  obtain ⟨hcat, hk, hlv, -⟩ := mayE_zero hm
  have hn' := inn_iff.1 hn
  have hch : chkE [(kind, n)] c.types = 0 := chkE_iff.2 ⟨by simp, by simp, fun s hs => by
    simp at hs; subst hs
    have hM : MaxQ = 1125899906842624 := rfl
    simp only; omega⟩
  have he : ∀ l, expL c level [(kind, n)] l (es0 c kind n) = some (es0 c kind n) := by
    intro l
    induction l with
    | nil => rfl
    | cons t l ih =>
      have : expS c level [(kind, n)] (es0 c kind n) t = some (es0 c kind n) := by
        unfold expS
        rw [if_pos]
        simp only [es0, upd, tot]
        by_cases h : t = kind
        · subst h; simp
        · rw [if_neg h, if_neg (fun e => h e.symm)]; simp
      simp only [expL, this, ih]
  unfold expR
  rw [if_neg (by simpa using mayE_of hm hch), if_pos hn, he]
  simp only [es0]
  have : normL' [] = [] := normL'_eq (sn_sorted (l := []) (.refl _) .nil (by simp) (by simp))
  rw [this]
end Go.Proofs.Ytljgfkiiikcaaaa

/- Bills: what is needed to make something: the document's. -/
set_option linter.unusedVariables false
namespace Go.Proofs.Ytljgfkiiikcaaaa
open Go Go.Proofs
variable {Q : V → Mem → Prop} {c : Cat} {level : Int}

/-- A slice of a number for each type. -/
structure ArrS (N : Int) (A : List Int) (f : Int → Int) : Prop where
  len : (A.length : Int) = N + 1
  at' : ∀ t, 0 ≤ t → t ≤ N → A.getD t.toNat 0 = f t
section
variable {N a v : Int} {A : List Int} {f : Int → Int}
theorem ArrS.set (h : ArrS N A f) (h0 : 0 ≤ a) (h1 : a ≤ N) : ArrS N (A.set a.toNat v) (upd f a v) := by
  refine ⟨by rw [List.length_set]; exact h.len, fun t t0 t1 => ?_⟩
  have hl := h.len
  have := h.at' t t0 t1
  unfold upd
  rw [List.getD_eq_getElem?_getD] at this ⊢
  by_cases ht : t = a
  · subst ht; rw [if_pos rfl, List.getElem?_set_self (by omega)]; rfl
  · rw [if_neg ht, List.getElem?_set_ne (by omega)]; exact this
theorem ArrS.el (h : ArrS N A f) (h0 : 0 ≤ a) (h1 : a ≤ N) {K : List U → Prop} : elL (A.map eI) a K = K (eI (f a)) := by
  have hl := h.len
  refine elL_of h0 ?_
  rw [List.getElem?_map, List.getElem?_eq_getElem (show a.toNat < A.length by omega), Option.map_some, ← h.at' a h0 h1, List.getD_eq_getElem?_getD, List.getElem?_eq_getElem (show a.toNat < A.length by omega)]
  rfl
end
end Go.Proofs.Ytljgfkiiikcaaaa

/- Bills: few parts; the same; what must come. -/
set_option linter.unusedVariables false
namespace Go.Proofs.Ytljgfkiiikcaaaa
open Go Go.Proofs
variable {Q : V → Mem → Prop} {c : Cat} {level : Int}

structure Few (c : Cat) : Prop where
  nb : c.blues.length ≤ 20
  ny : c.bays.length ≤ 12
  n : ∀ b ∈ c.blues, b.needs.length ≤ 12
theorem few_S (k : ∀ b : Bool, (b = true → Few c) → Q (.u (.b b)) []) : PRun Try.prog 5 [] [aC c] Q := by
  have fin : (∀ (i : Nat) (b : Bl), (i : Int) < 20 → c.blues[i]? = some b → b.needs.length ≤ 12) → bif decide (((c.blues.map eB).length : Int) ≤ 20) then Q (.u (.b (decide (((c.bays.map eY).length : Int) ≤ 12)))) [] else Q (.u (.b false)) [] := fun h => by
    rw [List.length_map, List.length_map]
    refine cIf (fun h1 => k _ fun h2 => ?_) fun _ => k false (by simp)
    have h2 := of_decide_eq_true h2
    refine ⟨by omega, by omega, fun b hb => ?_⟩
    obtain ⟨i, hi, rfl⟩ := List.getElem_of_mem hb
    exact h i _ (by omega) (by simp)
  refine S5 ⟨fun x => 0 ≤ x ∧ x ≤ 20 ∧ ∀ (i : Nat) (b : Bl), (i : Int) < x → c.blues[i]? = some b → b.needs.length ≤ 12, fun x => (20 - x).toNat, ⟨by omega, by omega, fun i b h => by omega⟩, ?_⟩
  rintro x ⟨h0, h20, hx⟩
  refine cIf (fun h1 => cIf (fun h2 => ?_) fun h2 => fin fun i b hi hb => hx i b (by omega) hb) fun h1 => fin fun i b hi hb => hx i b (by
    have := (List.getElem?_eq_some_iff.1 hb).1
    rw [List.length_map] at h1
    omega) hb
  rw [List.length_map] at h1
  have hlt : x.toNat < c.blues.length := by omega
  rw [elL_of (r := eB c.blues[x.toNat]) h0 (by simp [hlt])]
  simp only [eB, ug0, ugs, dL_l]
  refine cIf (fun _ => k false (by simp)) fun h => ⟨⟨by rw [w64 (by omega) (by omega)]; omega, by rw [w64 (by omega) (by omega)]; omega, fun i b hi hb => ?_⟩, by rw [w64 (by omega) (by omega)]; omega⟩
  rw [w64 (by omega) (by omega)] at hi
  by_cases he : (i : Int) < x
  · exact hx i b he hb
  · have : i = x.toNat := by omega
    subst this
    rw [List.getElem?_eq_getElem hlt] at hb
    cases hb
    rw [List.length_map] at h
    omega
theorem sameI_S {A B : List Int} (hA : A.length ≤ 1000000) (k : Q (.u (.b (decide (A = B)))) []) : PRun Try.prog 34 [] [.l 1 (A.map eI), .l 1 (B.map eI)] Q := by
  refine S34 ?_
  rw [List.length_map, List.length_map]
  refine cNe (fun h => ?_) fun h => ?_
  · have : A ≠ B := fun e => by subst e; exact h rfl
    simpa [this] using k
  have hl : A.length = B.length := by omega
  obtain ⟨e1, e2⟩ := zip_fst hl
  have hAB : A = B ↔ ∀ p ∈ A.zip B, p.1 = p.2 := by
    constructor
    · rintro rfl p hp
      obtain ⟨i, hi, rfl⟩ := List.getElem_of_mem hp
      simp
    · intro h
      exact e1.symm.trans ((List.map_congr_left h).trans e2)
  generalize A.zip B = z at *
  have hzl : z.length ≤ 1000000 := by rw [← e1, List.length_map] at hA; exact hA
  rw [← e1, ← e2]
  rw [← e1, ← e2] at hAB k
  refine ⟨AtI z fun t _ => ∀ p ∈ t, p.1 = p.2, SufM z, .zero (by omega) (by simp), ?_⟩
  rintro x ⟨t, _ | ⟨p, l⟩, s, h⟩
  · have hx := s.k
    rw [s.all] at h hx
    rw [List.length_map, List.length_map, hx]
    refine cIf (fun h => by omega) fun _ => ?_
    rwa [decide_eq_true (hAB.2 h)] at k
  simp only [List.map_map, s.d1, s.el, cond_true, Function.comp_apply, eI, ug0, dI_n]
  refine cNe (fun hne => ?_) fun he => s.step fun q hq => ?_
  · have : ¬ (z.map (·.1) = z.map (·.2)) := fun e => hne (hAB.1 e p (by rw [s.e]; simp))
    rwa [decide_eq_false this] at k
  · rcases List.mem_append.1 hq with hq | hq
    · exact h q hq
    · simp at hq; subst hq; exact he
abbrev aM (b : BomV) : V := .a [.l 2 (b.1.map eS), .l 1 (b.2.1.map eI), .l 2 (b.2.2.map eS)]
theorem sameB_S {a b : BomV} (h1 : a.1.length ≤ 1000000 ∧ b.1.length ≤ 1000000) (h2 : a.2.1.length ≤ 1000000) (h3 : a.2.2.length ≤ 1000000 ∧ b.2.2.length ≤ 1000000) (k : Q (.u (.b (decide (a = b)))) []) : PRun Try.prog 15 [] [aM a, aM b] Q := by
  obtain ⟨a1, a2, a3⟩ := a
  obtain ⟨b1, b2, b3⟩ := b
  have he : decide ((a1, a2, a3) = (b1, b2, b3)) = (decide (a1 = b1) && (decide (a2 = b2) && decide (a3 = b3))) := by simp
  rw [he] at k
  refine S15 (same_S h1.1 h1.2 ?_)
  rw [post_B]
  refine cB (fun e => sameI_S h2 ?_) fun e => ?_
  · rw [post_B]
    refine cB (fun e2 => same_S h3.1 h3.2 ?_) fun e2 => ?_
    · rw [post_B]; rwa [e, e2, Bool.true_and, Bool.true_and] at k
    · rwa [e, e2, Bool.true_and, Bool.false_and] at k
  · rwa [e, Bool.false_and] at k
end Go.Proofs.Ytljgfkiiikcaaaa

/- Bills: what must come, whatever the arguments are. -/
set_option linter.unusedVariables false
namespace Go.Proofs.Ytljgfkiiikcaaaa
open Go Go.Proofs
variable {Q : V → Mem → Prop}

abbrev plB2 : Bl := ⟨2, 5, 10, [(1, 3)], 0, 0, 5⟩
abbrev plB3 : Bl := ⟨3, 1, 7, [(2, 2)], 0, 0, 5⟩
abbrev plain : Cat := ⟨3, [plB2, plB3], 1, [], 1, 0, 0, 0⟩
theorem plain_S (k : Q (aC plain) []) : PRun Try.prog 14 [] [] Q := S14 k
theorem plain_rg : plain.Rg := ⟨fun b hb => by
  simp at hb; rcases hb with rfl | rfl <;> exact ⟨fun s hs => by simp at hs; subst hs; decide, by decide⟩, by decide, by decide⟩
theorem cnt_one {a q x : Int} (h : a ≠ x) : ¬ 0 < cntN [(a, q)] x := by
  unfold cntN
  split
  · simp [tot, h]
  · simp
theorem plB2_ok : BlueOK plB2 3 := ⟨by decide, by decide, by decide, by decide, by decide, by decide, by decide, ⟨by decide, by decide, fun s hs => by simp at hs; subst hs; decide⟩, cnt_one (by decide)⟩
theorem plB3_ok : BlueOK plB3 3 := ⟨by decide, by decide, by decide, by decide, by decide, by decide, by decide, ⟨by decide, by decide, fun s hs => by simp at hs; subst hs; decide⟩, cnt_one (by decide)⟩
theorem plain_sz : plain.Sz := ⟨by decide, by decide, by decide, by decide, by decide, fun b hb => by
  simp at hb; rcases hb with rfl | rfl
  · exact blueE_ok.2 plB2_ok
  · exact blueE_ok.2 plB3_ok, by simp, by decide⟩
theorem plain_pairs : pairsL plain.blues = [(2, 1), (3, 2)] := rfl
theorem nx_iff {out : List Int} {k : Int} : Nx1 [(2, 1), (3, 2)] 3 out k ↔ 1 ≤ k ∧ k ≤ 3 ∧ k ∉ out ∧ (2 = k → (1 : Int) ∈ out) ∧ (3 = k → (2 : Int) ∈ out) := by
  unfold Nx1; simp
theorem plain_gr : Greedy [(2, 1), (3, 2)] 3 [1, 2, 3] ∧ ∀ k, ¬ Nx1 [(2, 1), (3, 2)] 3 [1, 2, 3] k := by
  refine ⟨.snoc (out := [1, 2]) (.snoc (out := [1]) (.snoc (out := []) .nil ?_ ?_) ?_ ?_) ?_ ?_, fun k => ?_⟩
  all_goals simp only [nx_iff]
  · simp
  · intro j h; omega
  · simp
  · intro j h; simp at h; omega
  · simp
  · intro j h; simp at h; omega
  · intro h; simp at h; omega
theorem plain_ord : orderR plain.types (pairsL plain.blues) = ([1, 2, 3], 0) := by
  unfold orderR
  rw [plain_pairs, if_pos ⟨by decide, by decide, by decide, fun p hp => by simp at hp; rcases hp with rfl | rfl <;> decide⟩, ordG_eq plain_gr.1 plain_gr.2]
  rfl
theorem plain_cat : catE plain = 0 := by
  have h1 : (deepR plain.types (pairsL plain.blues)).2 = 0 := by unfold deepR; rw [plain_ord]; rfl
  have h2 : deepL plain.types (pairsL plain.blues) = [0, 1, 2] := by
    unfold deepL; rw [plain_pairs, show plain.types = 3 from rfl, ordG_eq plain_gr.1 plain_gr.2]; rfl
  unfold catE
  rw [if_pos plain_sz, if_neg (by rw [h1]; simp), if_neg (by rw [h2]; simp)]
theorem plain_may {kind : Int} (h : 1 ≤ kind ∧ kind ≤ 3) {l : List Stk} (hl : chkE l 3 = 0) : mayE plain kind 0 l = 0 := by
  unfold mayE
  rw [plain_cat, if_neg (by simp), if_pos ⟨inn_iff.2 h, by decide⟩]
  exact hl
theorem chk_nil (t : Int) : chkE [] t = 0 := by unfold chkE; simp [chkL]
theorem plain_raw : chkE [(1, 3)] 3 = 0 := by unfold chkE; decide
theorem sn_self {l : List Stk} (hs : l.Pairwise (fun a b => a.1 < b.1)) (hq : ∀ p ∈ l, 1 ≤ p.2) : normL' l = l :=
  normL'_eq (sn_sorted (.refl _) (hs.imp fun h => by omega) (by
    rw [List.Nodup, List.pairwise_map]
    exact hs.imp fun h => by omega) hq)
theorem plain_exp : expR plain 3 1 0 [] = (([(1, 3)], [1, 1], [(2, 3)]), 0) := by
  have ht : topR plain = [3, 2, 1] := by unfold topR; rw [plain_ord]; rfl
  have he : ∃ s, expL plain 0 [] [3, 2, 1] (es0 plain 3 1) = some s ∧ s.raw = [(1, 3)] ∧ s.runs = [1, 1] ∧ s.left = [(2, 3)] := ⟨_, rfl, by decide, by decide, by decide⟩
  obtain ⟨s, h1, h2, h3, h4⟩ := he
  unfold expR
  rw [plain_may (by omega) (chk_nil _), if_neg (by simp), if_pos (by decide), ht, h1]
  simp only [h2, h3, h4]
  rw [sn_self (by simp) (by simp), sn_self (by simp) (by simp)]
theorem plain_co : ∃ out, CatOK plain out := cat_ok plain_cat
theorem time_R {b : Bl} {runs : Int} (hb : BlueOK b 3) (hr : 1 ≤ runs ∧ runs ≤ 1000) : timeR b 0 runs = (upI (b.time * runs * 100) 100, 0) := by
  unfold timeR
  rw [if_pos ⟨⟨blueE_ok.2 hb.mono, by decide⟩, inn_iff.2 hr⟩]
  rfl
theorem plain_ro : runsOK plain [1, 1] ∧ runsOK plain [2, 0] := ⟨⟨rfl, by simp [inn]⟩, ⟨rfl, by simp [inn]⟩⟩
theorem plain_path : pathR plain 3 [1, 1] 0 = (17, 0) := by
  obtain ⟨out, co⟩ := plain_co
  have w := pathV_way (level := 0) co plain_ro.1
  have w1 := w 1 (by decide) (by decide)
  have w2 := w 2 (by decide) (by decide)
  have w3 := w 3 (by decide) (by decide)
  have e1 : pathV plain [1, 1] 0 1 = 0 := by rw [w1]; rfl
  have e2 : pathV plain [1, 1] 0 2 = 10 := by
    rw [w2]
    show (timeR plB2 0 1).1 + maxF _ 0 [(1, 3)] = 10
    rw [time_R plB2_ok (by decide)]
    simp only [maxF, e1]
    decide
  have e3 : pathV plain [1, 1] 0 3 = 17 := by
    rw [w3]
    show (timeR plB3 0 1).1 + maxF _ 0 [(2, 2)] = 17
    rw [time_R plB3_ok (by decide)]
    simp only [maxF, e2]
    decide
  unfold pathR
  rw [plain_may (by omega) (chk_nil _), if_neg (by simp), if_pos plain_ro.1, e3]
theorem plain_whole : wholeR plain [2, 0] 0 = (20, 0) := by
  have e : timesL plain [2, 0] 0 = [20, 0] := by
    show [timeN 0 (2, plB2), timeN 0 (0, plB3)] = _
    unfold timeN
    rw [if_pos (by decide), if_neg (by decide), time_R plB2_ok (by decide)]
    decide
  unfold wholeR
  rw [plain_may (by omega) (chk_nil _), if_neg (by simp), if_pos plain_ro.2, e]
  rfl
theorem plain_needs : needOK 0 ([1, 1].zip plain.blues) := by
  intro p hp _
  have : p = (1, plB2) ∨ p = (1, plB3) := by simpa using hp
  rcases this with rfl | rfl <;> decide
theorem plain_fits : fitsP plain 3 1 0 [(1, 3)] [1, 1] := by
  refine ⟨plain_may (by omega) plain_raw, by decide, plain_ro.1, plain_needs, fun t h1 h2 => ?_⟩
  have : t = 1 ∨ t = 2 ∨ t = 3 := by simp at h2; omega
  rcases this with rfl | rfl | rfl <;> decide
theorem plain_nofit : ¬ fitsP plain 3 2 0 [(1, 3)] [1, 1] := fun h => absurd (h.2.2.2.2 3 (by decide) (by decide)) (by decide)
theorem post_C {F : Int → List (List U) → Int → List (List U) → Int → Int → Int → Int → Prop} {c : Cat} {m : Mem} : post [.agg [.i .i64, .l 7, .i .i64, .l 4, .i .i64, .i .i64, .i .i64, .i .i64]] [] F (aC c) m = F c.types (c.blues.map eB) c.places (c.bays.map eY) c.chars c.broker c.least c.sales := rfl
theorem post_BE {F : List (List U) → List (List U) → List (List U) → Int → Prop} {r : BomV × Int} {m : Mem} : post [.agg [.l 2, .l 1, .l 2], .I] [] F (vBE r) m = F (r.1.1.map eS) (r.1.2.1.map eI) (r.1.2.2.map eS) r.2 := rfl
theorem awake_S (k : Q (.u (.b true)) []) : PRun Try.prog 6 [] [] Q := by
  refine S6 (plain_S ?_)
  rw [post_C]
  refine pExpand_S (c := plain) (have' := []) plain_rg (by intro s hs; cases hs) (by decide) ?_
  rw [plain_exp, post_BE]
  refine plain_S ?_
  rw [post_C]
  refine pPathR_S (c := plain) (runs := [1, 1]) plain_rg (by decide) ?_
  rw [plain_path, post_II]
  refine plain_S ?_
  rw [post_C]
  refine pWhole_S (c := plain) (runs := [2, 0]) plain_rg (by decide) ?_
  rw [plain_whole, post_II]
  intro kk hk
  have hk := hk true k
  refine (fun rest => ⟨dup rest, dup (dup rest)⟩) ?_
  refine sameB_S (a := ([(1, 3)], [1, 1], [(2, 3)])) (b := ([(1, 3)], [1, 1], [(2, 3)])) (by decide) (by decide) (by decide) ?_
  rw [decide_eq_true rfl, post_B]
  refine plain_S ?_
  rw [post_C]
  refine pFits_S (c := plain) (raw := [(1, 3)]) (runs := [1, 1]) plain_rg (by decide) (fun s hs => by simp at hs; subst hs; decide) (by decide) fun b hb => ?_
  rw [post_B, hb.2 plain_fits]
  refine plain_S ?_
  rw [post_C]
  refine pFits_S (c := plain) (raw := [(1, 3)]) (runs := [1, 1]) plain_rg (by decide) (fun s hs => by simp at hs; subst hs; decide) (by decide) fun b hb => ?_
  rw [post_B]
  have : b = false := by
    cases b with
    | false => rfl
    | true => exact absurd (hb.1 rfl) plain_nofit
  rw [this]
  exact hk
end Go.Proofs.Ytljgfkiiikcaaaa

/- The laws BomExpands and BomTakes: what they are given; what they answer. -/
set_option linter.unusedVariables false
namespace Go.Proofs.Ytljgfkiiikcaaaa
open Go Go.Proofs
variable {Q : V → Mem → Prop}

/- ## What is given, as data -/
theorem conv_S (r : List U) (h : ShU (.i .i64 (.i .i64 .nil)) r) : ∃ s : Stk, r = eS s ∧ ((-9223372036854775808 ≤ s.1 ∧ s.1 ≤ 9223372036854775807) ∧ (-9223372036854775808 ≤ s.2 ∧ s.2 ≤ 9223372036854775807)) := by
  obtain ⟨n, _, rfl, hw, m, _, rfl, hw2, rfl⟩ := h
  exact ⟨(n, m), rfl, in64_of hw, in64_of hw2⟩
theorem conv_I (r : List U) (h : ShU (.i .i64 .nil) r) : ∃ x : Int, r = eI x ∧ in64 x := by
  obtain ⟨n, _, rfl, hw, rfl⟩ := h
  exact ⟨n, rfl, in64_of hw⟩
abbrev dsB : Ds := .i .i64 (.i .i64 (.i .i64 (.l 2 (.i .i64 (.i .i64 .nil)) (.i .i64 (.i .i64 (.i .i64 .nil))))))
abbrev dsY : Ds := .i .i64 (.i .i64 (.i .i64 (.i .i64 .nil)))
abbrev dsC : Ds := .i .i64 (.l 7 dsB (.i .i64 (.l 4 dsY (.i .i64 (.i .i64 (.i .i64 (.i .i64 .nil)))))))
theorem conv_B (r : List U) (h : ShU dsB r) : ∃ b : Bl, r = eB b ∧ rng b.needs := by
  obtain ⟨a, _, rfl, -, b, _, rfl, -, c, _, rfl, -, rows, _, rfl, -, hs, d, _, rfl, -, e, _, rfl, -, f, _, rfl, -, rfl⟩ := h
  obtain ⟨l, rfl, hl⟩ := rows_of conv_S hs
  exact ⟨⟨a, b, c, l, d, e, f⟩, rfl, hl⟩
theorem conv_Y (r : List U) (h : ShU dsY r) : ∃ y : Bay, r = eY y ∧ True := by
  obtain ⟨a, _, rfl, -, b, _, rfl, -, c, _, rfl, -, d, _, rfl, -, rfl⟩ := h
  exact ⟨⟨a, b, c, d⟩, rfl, trivial⟩
theorem conv_C (us : List U) (h : ShU dsC us) : ∃ c : Cat, V.a (us.map .u) = aC c ∧ ∀ b ∈ c.blues, rng b.needs := by
  obtain ⟨a, _, rfl, -, rows, _, rfl, -, hs, b, _, rfl, -, rows2, _, rfl, -, hs2, d, _, rfl, -, e, _, rfl, -, f, _, rfl, -, g, _, rfl, -, rfl⟩ := h
  obtain ⟨l, rfl, hl⟩ := rows_of conv_B hs
  obtain ⟨m, rfl, -⟩ := rows_of conv_Y hs2
  exact ⟨⟨a, l, b, m, d, e, f, g⟩, rfl, hl⟩
theorem Few.rg {c : Cat} (f : Few c) (h : ∀ b ∈ c.blues, rng b.needs) : c.Rg :=
  ⟨fun b hb => ⟨h b hb, by have := f.n b hb; omega⟩, by have := f.nb; omega, by have := f.ny; omega⟩
theorem sn_len {l r : List Stk} (h : SN l r) : r.length ≤ l.length := by
  have hn : (r.map (·.1)).Nodup := by
    rw [List.Nodup, List.pairwise_map]
    exact h.1.imp fun h => by omega
  have hs : r.map (·.1) ⊆ l.map (·.1) := fun k hk => by
    obtain ⟨p, hp, rfl⟩ := List.mem_map.1 hk
    obtain ⟨h1, h2⟩ := (h.2 p.1 p.2).1 hp
    obtain ⟨s, hs, e⟩ := tot_pos (l := l) (k := p.1) (by omega)
    exact List.mem_map.2 ⟨s, hs, e⟩
  simpa using hn.length_le_of_subset hs
theorem normL'_len (l : List Stk) : (normL' l).length ≤ l.length := by
  unfold normL'
  split
  · rename_i h; exact sn_len h.choose_spec
  · simp
theorem expR_len {c : Cat} {kind n level : Int} {have' : List Stk} (hc : c.Rg) : (expR c kind n level have').1.1.length ≤ 1000000 ∧ (expR c kind n level have').1.2.1.length ≤ 1000000 ∧ (expR c kind n level have').1.2.2.length ≤ 1000000 := by
  unfold expR
  split
  · simp
  rename_i hm
  split
  rotate_left
  · simp
  rename_i hn
  have hn := inn_iff.1 hn
  have hM : MaxQ = 1125899906842624 := rfl
  obtain ⟨hcat, hk, hlv, hchk⟩ := mayE_zero (by simpa using hm)
  obtain ⟨out, co⟩ := cat_ok hcat
  have hty := inn_iff.1 co.sz.types
  have hhe := errN_zero.1 (chkE_iff.1 hchk).sn.1
  split
  · simp
  rename_i s hs
  have ok := expL_ok co.sz hlv (fun u => tot_nonneg hhe.1 u) (es0_ok (c := c) (kind := kind) (by omega)) hs
  have ht : (topR c).length ≤ 32 := by
    unfold topR
    rw [co.r]
    have := nodup_len co.g.nodup co.g.mem (by omega)
    simp; omega
  have h1 := ok.raw.length_le
  have h2 := ok.left.length_le
  have h3 := normL'_len s.raw
  have h4 := normL'_len s.left
  have h5 := ok.rl
  have h6 := hc.nb
  simp at h1 h2
  refine ⟨?_, ?_, ?_⟩ <;> simp only <;> omega

/- ## The laws -/
theorem bool_same {a b : Bool} {p : Prop} (ha : a = true ↔ p) (hb : b = true ↔ p) : a = b := by
  cases a <;> cases b <;> simp_all
end Go.Proofs.Ytljgfkiiikcaaaa

/- The law BomEven. -/
set_option linter.unusedVariables false
namespace Go.Proofs.Ytljgfkiiikcaaaa
open Go Go.Proofs
variable {Q : V → Mem → Prop}

/- ## A chain of blueprints -/
def qq (x : Int) : Int := 1 + Int.tmod x 16
theorem qq_bd {x : Int} (h : 0 ≤ x) : 1 ≤ qq x ∧ qq x ≤ 16 := by
  unfold qq
  rw [Int.tmod_eq_emod_of_nonneg h]
  omega
abbrev blOf (i : Nat) (x : Int) : Bl := ⟨(i : Int) + 2, 1, 1, [((i : Int) + 1, qq x)], 0, 0, 1⟩
def chain : Nat → List Int → List Bl
  | _, [] => []
  | k, x :: l => chain (k + 1) l ++ [blOf k x]
theorem chain_len : ∀ (l : List Int) (k : Nat), (chain k l).length = l.length
  | [], k => rfl
  | x :: l, k => by simp [chain, chain_len l (k + 1)]
theorem chain_app : ∀ (a b : List Int) (k : Nat), chain k (a ++ b) = chain (k + a.length) b ++ chain k a
  | [], b, k => by simp [chain]
  | x :: a, b, k => by
    simp only [List.cons_append, chain, chain_app a b (k + 1), List.length_cons, List.append_assoc]
    rw [show k + 1 + a.length = k + (a.length + 1) by omega]
theorem chain_mem : ∀ {l : List Int} {k : Nat} {b : Bl}, b ∈ chain k l → ∃ (i : Nat) (x : Int), k ≤ i ∧ i < k + l.length ∧ x ∈ l ∧ b = blOf i x
  | [], k, b, h => by simp [chain] at h
  | x :: l, k, b, h => by
    simp only [chain, List.mem_append, List.mem_singleton] at h
    rcases h with h | rfl
    · obtain ⟨i, y, h1, h2, h3, h4⟩ := chain_mem h
      exact ⟨i, y, by omega, by simp; omega, by simp [h3], h4⟩
    · exact ⟨k, x, by omega, by simp, by simp, rfl⟩
def pairsE (m : Nat) : List Stk := ((List.range m).map fun (i : Nat) => (((i : Int) + 2, (i : Int) + 1) : Stk)).reverse
theorem pairsE_succ (m : Nat) : pairsE (m + 1) = ((m : Int) + 2, (m : Int) + 1) :: pairsE m := by
  unfold pairsE
  rw [List.range_succ, List.map_append, List.reverse_append]; rfl
theorem chain_pairs : ∀ (n : Nat) (l : List Int), l.length = n → pairsL (chain 0 l) = pairsE n
  | 0, l, h => by
    have : l = [] := List.eq_nil_of_length_eq_zero h
    subst this; rfl
  | n + 1, l, h => by
    obtain ⟨t, a, rfl⟩ : ∃ t a, l = t ++ [a] := ⟨l.dropLast, l.getLast (by intro e; subst e; simp at h), (List.dropLast_concat_getLast _).symm⟩
    have ht : t.length = n := by simpa using h
    rw [chain_app, pairsE_succ, ← chain_pairs n t ht]
    simp [chain, pairsL, ht]
theorem pairsE_mem {m : Nat} {p : Stk} : p ∈ pairsE m ↔ ∃ i : Nat, i < m ∧ p = ((i : Int) + 2, (i : Int) + 1) := by
  unfold pairsE
  simp only [List.mem_reverse, List.mem_map, List.mem_range]
  constructor
  · rintro ⟨i, h, rfl⟩; exact ⟨i, h, rfl⟩
  · rintro ⟨i, h, rfl⟩; exact ⟨i, h, rfl⟩
def upTo : Nat → List Int
  | 0 => []
  | n + 1 => upTo n ++ [(n : Int) + 1]
def dn : Nat → List Int
  | 0 => []
  | n + 1 => ((n : Int) + 1) :: dn n
theorem up_rev : ∀ n, (upTo n).reverse = dn n
  | 0 => rfl
  | n + 1 => by simp [upTo, dn, up_rev n]
theorem up_mem : ∀ {n : Nat} {k : Int}, k ∈ upTo n ↔ 1 ≤ k ∧ k ≤ n
  | 0, k => by simp [upTo]; omega
  | n + 1, k => by simp only [upTo, List.mem_append, up_mem (n := n), List.mem_singleton]; omega
theorem up_len : ∀ n, (upTo n).length = n
  | 0 => rfl
  | n + 1 => by simp [upTo, up_len n]
theorem nxE {m n k : Nat} : Nx1 (pairsE m) n (upTo n) k → False := fun h => h.2.2.1 (up_mem.2 ⟨h.1, h.2.1⟩)
theorem even_gr (m : Nat) : ∀ n : Nat, n ≤ m + 1 → Greedy (pairsE m) ((m : Int) + 1) (upTo n)
  | 0, _ => .nil
  | n + 1, h => by
    refine .snoc (even_gr m n (by omega)) ⟨by omega, by omega, fun h => ?_, fun p hp e => ?_⟩ fun j hj => ?_
    · have := up_mem.1 h; omega
    · obtain ⟨i, hi, rfl⟩ := pairsE_mem.1 hp
      simp only at e ⊢
      exact up_mem.2 ⟨by omega, by omega⟩
    · apply Decidable.byContradiction
      intro hc
      exact hj.2.2.1 (up_mem.2 ⟨hj.1, by omega⟩)
theorem even_ord {m : Nat} (hm : m ≤ 8) : orderR ((m : Int) + 1) (pairsE m) = (upTo (m + 1), 0) := by
  have hN : ∀ k, ¬ Nx1 (pairsE m) ((m : Int) + 1) (upTo (m + 1)) k := fun k h => h.2.2.1 (up_mem.2 ⟨h.1, by have := h.2.1; omega⟩)
  have hg : gOK ((m : Int) + 1) (pairsE m) := ⟨by omega, by omega, by simp [pairsE]; omega, fun p hp => by
    obtain ⟨i, hi, rfl⟩ := pairsE_mem.1 hp
    exact ⟨inn_iff.2 (by simp only; omega), inn_iff.2 (by simp only; omega)⟩⟩
  unfold orderR
  rw [if_pos hg, ordG_eq (even_gr m (m + 1) (Nat.le_refl _)) hN, if_neg (by rw [up_len]; omega)]
theorem even_deep {m : Nat} (hm : m ≤ 8) : ¬ ∃ d ∈ deepL ((m : Int) + 1) (pairsE m), 8 < d := by
  have hN : ∀ k, ¬ Nx1 (pairsE m) ((m : Int) + 1) (upTo (m + 1)) k := fun k h => h.2.2.1 (up_mem.2 ⟨h.1, by have := h.2.1; omega⟩)
  unfold deepL
  rw [ordG_eq (even_gr m (m + 1) (Nat.le_refl _)) hN, show ((m : Int) + 1).toNat = m + 1 by omega]
  have key : ∀ m : Fin 9, ∀ d ∈ (upTo (m.1 + 1)).foldl (dnode (pairsE m.1)) (List.replicate (m.1 + 1) 0), d ≤ 8 := by decide +kernel
  rintro ⟨d, hd, h⟩
  have := key ⟨m, by omega⟩ d hd
  omega
abbrev catL (l : List Int) : Cat := ⟨(l.length : Int) + 1, chain 0 l, 1, [], 1, 0, 0, 0⟩
section
variable {l : List Int} (hl : l.length ≤ 8) (hx : ∀ x ∈ l, 0 ≤ x ∧ x ≤ 255)
include hl hx
theorem even_bl {b : Bl} (hb : b ∈ chain 0 l) : BlueOK b ((l.length : Int) + 1) := by
  obtain ⟨i, x, h1, h2, h3, rfl⟩ := chain_mem hb
  have := qq_bd (hx x h3).1
  have hM : MaxQ = 1125899906842624 := rfl
  exact ⟨by omega, by simp only; omega, by simp, by simp, by simp, by simp, by simp, ⟨by simp, by simp, fun s hs => by simp at hs; subst hs; simp only; omega⟩, cnt_one (by simp only; omega)⟩
theorem even_rg : (catL l).Rg := ⟨fun b hb => by
  obtain ⟨i, x, h1, h2, h3, rfl⟩ := chain_mem hb
  have := qq_bd (hx x h3).1
  exact ⟨fun s hs => by simp at hs; subst hs; simp only; omega, by simp⟩, by simp [chain_len]; omega, by simp⟩
theorem even_sz : (catL l).Sz := ⟨inn_iff.2 (by simp only; omega), by show inn 1 1 8 = true; decide, by show inn 1 1 16 = true; decide, by simp [chain_len]; omega, by simp, fun b hb => blueE_ok.2 (even_bl hl hx hb), by simp, by show (inn 0 0 10000 && (inn 0 0 10000 && inn 0 0 1152921504606846976)) = true; decide⟩
theorem even_cat : catE (catL l) = 0 := by
  have h1 : (deepR (catL l).types (pairsL (catL l).blues)).2 = 0 := by unfold deepR; rw [chain_pairs _ l rfl, even_ord hl]; rfl
  unfold catE
  rw [if_pos (even_sz hl hx), if_neg (by rw [h1]; simp), if_neg (by rw [chain_pairs _ l rfl]; exact even_deep hl)]
end
theorem even_top {l : List Int} (hl : l.length ≤ 8) : topR (catL l) = dn (l.length + 1) := by
  unfold topR; rw [chain_pairs _ l rfl, even_ord hl]; exact up_rev _
/-- How many of the first are needed: of each from the top so many. -/
def evenD : List Int → Int → Option Int
  | [], v => some v
  | x :: r, v => if 1000 < v then none else evenD r (v * qq x)
theorem up_one (n : Int) : upI n 1 = n := by unfold upI; simp
theorem needQ_q {q v : Int} (hq : 1 ≤ q) (hv : 0 ≤ v) : needQ q v 0 = v * q := by
  have h1 : q * (v * (100 - 0)) = v * q * 100 := by rw [show (100 : Int) - 0 = 100 by omega, Int.mul_comm v q, Int.mul_assoc]
  have h2 : v ≤ v * q := by
    have := Int.mul_le_mul_of_nonneg_left hq hv
    omega
  unfold needQ
  rw [h1, upI_100]
  omega
theorem even_exp {l : List Int} (hx : ∀ x ∈ l, 0 ≤ x ∧ x ≤ 255) : ∀ (n : Nat) (pre suf : List Int) (s : ES) (v : Int), pre.length = n → l = pre ++ suf → s.w ((n : Int) + 1) = v → (∀ t, t ≤ (n : Int) → s.w t = 0) → 1 ≤ v → v ≤ 1000000 →
    (evenD pre.reverse v = none → expL (catL l) 0 [] (dn (n + 1)) s = none) ∧ ∀ u, evenD pre.reverse v = some u → ∃ s', expL (catL l) 0 [] (dn (n + 1)) s = some s' ∧ s'.raw = s.raw ++ [(1, u)] ∧ s'.left = s.left
  | 0, pre, suf, s, v, hn, e, hw, h0, h1, hv => by
    have : pre = [] := List.eq_nil_of_length_eq_zero hn
    subst this
    have hm : maker (catL l).blues 1 = 0 := by
      rcases maker_get (l := (catL l).blues) (t := 1) with h | ⟨i, b, e1, e2, e3⟩
      · exact h
      · obtain ⟨j, x, -, -, -, rfl⟩ := chain_mem (List.mem_of_getElem? e2)
        simp only at e3; omega
    have hs : expS (catL l) 0 [] s 1 = some { s with raw := s.raw ++ [(1, v)] } := by
      have hw1 : s.w 1 = v := by simpa using hw
      unfold expS
      rw [if_neg (by simp only [tot]; omega)]
      unfold makeS
      rw [if_pos hm]
      simp [tot, hw1]
    refine ⟨fun h => by simp [evenD] at h, fun u hu => ?_⟩
    simp [evenD] at hu
    subst hu
    refine ⟨{ s with raw := s.raw ++ [(1, v)] }, ?_, rfl, rfl⟩
    show (match expS (catL l) 0 [] s ((0 : Nat) + 1 : Int) with | none => none | some s' => expL (catL l) 0 [] (dn 0) s') = _
    rw [show ((0 : Nat) + 1 : Int) = 1 by simp, hs]
    rfl
  | n + 1, pre, suf, s, v, hn, e, hw, h0, h1, hv => by
    obtain ⟨t, a, rfl⟩ : ∃ t a, pre = t ++ [a] := ⟨pre.dropLast, pre.getLast (by intro e; subst e; simp at hn), (List.dropLast_concat_getLast _).symm⟩
    have ht : t.length = n := by simpa using hn
    have ha := hx a (by rw [e]; simp)
    have hq := qq_bd ha.1
    have hbl : (catL l).blues = chain (n + 1) suf ++ blOf n a :: chain 0 t := by
      show chain 0 l = _
      rw [e, List.append_assoc, chain_app, chain_app]
      simp [chain, ht]
    have hm : maker (catL l).blues ((n : Int) + 2) = (suf.length : Int) + 1 := by
      unfold maker
      rw [hbl, fstI_at (fun u hu => ?_) (by simp), chain_len]
      · simp
      · obtain ⟨j, x, h3, -, -, rfl⟩ := chain_mem hu
        simp only [beq_eq_false_iff_ne]; omega
    have hbi : (catL l).blues[suf.length]? = some (blOf n a) := by
      rw [hbl, List.getElem?_append_right (by rw [chain_len]; omega), chain_len]; simp
    have hw' : s.w ((n : Int) + 2) = v := by rw [← hw]; congr 1
    have hmk : expS (catL l) 0 [] s ((n : Int) + 2) = if 1000 < v then none else some ⟨upd s.w ((n : Int) + 1) (v * qq a), s.raw, s.runs.set suf.length v, s.left⟩ := by
      unfold expS
      rw [if_neg (by simp only [tot]; omega)]
      unfold makeS
      rw [if_neg (by rw [hm]; omega), hm, show ((suf.length : Int) + 1 - 1).toNat = suf.length by omega, hbi]
      simp only [tot, hw', Int.sub_zero, up_one, Int.mul_one, Int.sub_self, Int.lt_irrefl, if_false]
      by_cases hb : 1000 < v
      · rw [if_pos hb, if_pos hb]
      rw [if_neg hb, if_neg hb]
      have hnq := needQ_q (q := qq a) (v := v) hq.1 (by omega)
      have hvq : v * qq a ≤ 16000 := by
        have h3 := Int.mul_le_mul (show v ≤ 1000 by omega) hq.2 (by omega) (by omega)
        omega
      have hM : MaxQ = 1125899906842624 := rfl
      have hno : needOver [((n : Int) + 1, qq a)] v 0 = false := needOver_false fun x hx => by simp at hx; subst hx; simp only; rw [hnq]; omega
      rw [hno]
      simp only [Bool.false_eq_true, if_false, needL, List.map_cons, List.map_nil, wantsL, hnq, h0 ((n : Int) + 1) (by omega), Int.zero_add]
      rw [if_neg (by omega)]
    have hrev : (t ++ [a]).reverse = a :: t.reverse := by simp
    rw [hrev]
    simp only [evenD]
    show (_ → (match expS (catL l) 0 [] s (((n + 1 : Nat) : Int) + 1) with | none => none | some s' => expL (catL l) 0 [] (dn (n + 1)) s') = none) ∧ ∀ u, _ → ∃ s', (match expS (catL l) 0 [] s (((n + 1 : Nat) : Int) + 1) with | none => none | some s' => expL (catL l) 0 [] (dn (n + 1)) s') = some s' ∧ _
    rw [show ((n + 1 : Nat) : Int) + 1 = (n : Int) + 2 by omega, hmk]
    by_cases hb : 1000 < v
    · rw [if_pos hb, if_pos hb]; exact ⟨fun _ => rfl, fun u h => by cases h⟩
    rw [if_neg hb, if_neg hb]
    have hvq : 1 ≤ v * qq a ∧ v * qq a ≤ 16000 := by
      have h3 := Int.mul_le_mul (show v ≤ 1000 by omega) hq.2 (by omega) (by omega)
      have h4 := Int.mul_le_mul h1 hq.1 (by omega) (by omega)
      omega
    exact even_exp hx n t (a :: suf) ⟨upd s.w ((n : Int) + 1) (v * qq a), s.raw, s.runs.set suf.length v, s.left⟩ (v * qq a) ht (by rw [e]; simp) (by simp [upd]) (fun u hu => by
      simp only [upd]
      rw [if_neg (by omega)]
      exact h0 u (by omega)) hvq.1 (by omega)

/- ## The law -/
def e8 (x : Int) : List U := [.i .u8 x]
theorem dI_8 {n : Int} {K : Int → Prop} : dI .u8 (some (.i .u8 n)) K = K n := rfl
theorem bomEven_S {L : List Int} {many : Int} (hx : ∀ x ∈ L, 0 ≤ x ∧ x ≤ 255) (hm : 0 ≤ many ∧ many ≤ 255) (k : Q (.u (.b true)) []) : PRun Try.prog 4 [] [.l 1 (L.map e8), .u (.i .u8 many)] Q := by
  have aw : PRun Try.prog 6 [] [] (post [.B] [] fun b => Q (.u (.b b)) []) := awake_S (by rw [post_B]; exact k)
  refine S4 (cIf (fun _ => aw) fun hl => ⟨by decide, ?_⟩)
  have hl : L.length ≤ 8 := by simp at hl; omega
  have hmm : 0 ≤ Int.tmod many 4 ∧ Int.tmod many 4 ≤ 3 := by rw [Int.tmod_eq_emod_of_nonneg hm.1]; omega
  rw [w64 (x := many) (by omega) (by omega), w64 (x := 1 + Int.tmod many 4) (by omega) (by omega), List.length_map, w64 (x := (L.length : Int) - 1) (by omega) (by omega), w64 (x := (L.length : Int) + 1) (by omega) (by omega)]
  generalize hnn : 1 + Int.tmod many 4 = n
  refine ⟨fun w f i x3 l1 x4 l2 x5 x6 x7 x8 => (x3 = (L.length : Int) + 1 ∧ x4 = 1 ∧ l2 = [] ∧ x5 = 1 ∧ x6 = 0 ∧ x7 = 0 ∧ x8 = 0) ∧ ∃ pre suf, L = pre ++ suf ∧ i = (pre.length : Int) - 1 ∧ l1 = (chain pre.length suf).map eB ∧ (1 ≤ w ∧ w ≤ 4 * 16 ^ suf.length) ∧
      evenD L.reverse n = if f = true then evenD pre.reverse w else none, fun _ _ i _ _ _ _ _ _ _ _ => (i + 1).toNat, ⟨by simp, L, [], by simp, rfl, by simp [chain], by simp; omega, by simp⟩, ?_⟩
  rintro w f i _ _ _ _ _ _ _ _ ⟨⟨rfl, rfl, rfl, rfl, rfl, rfl, rfl⟩, pre, suf, e, rfl, rfl, hw, hev⟩
  have hlen := congrArg List.length e
  simp at hlen
  refine cIf (fun hi => ?_) fun hi => ?_
  · obtain ⟨t, a, rfl⟩ : ∃ t a, pre = t ++ [a] := ⟨pre.dropLast, pre.getLast (by intro e; subst e; simp at hi), (List.dropLast_concat_getLast _).symm⟩
    have ha := hx a (by rw [e]; simp)
    have hq := qq_bd ha.1
    have ht : ((t ++ [a]).length : Int) - 1 = (t.length : Int) := by simp
    simp only [List.length_append, List.length_cons, List.length_nil] at hlen
    have hp16 : (16 : Int) ^ suf.length ≤ 16 ^ 8 := by
      have h1 : suf.length ≤ 8 := by omega
      exact_mod_cast Nat.pow_le_pow_right (by omega : 0 < 16) h1
    have hwq : 1 ≤ w * qq a ∧ w * qq a ≤ 4 * 16 ^ (suf.length + 1) := by
      have h4 := Int.mul_le_mul hw.1 hq.1 (by omega) (by omega)
      have h5 := Int.mul_le_mul hw.2 hq.2 (by omega) (by omega)
      rw [Int.pow_succ]
      constructor
      · omega
      · rw [Int.mul_assoc] at h5; exact h5
    have hget : L[t.length]? = some a := by rw [e]; simp
    have hel : ∀ {K : List U → Prop}, elL (L.map e8) (t.length : Int) K = K (e8 a) := elL_of (by omega) (by simp [hget])
    have hrow : [[U.n ((t.length : Int) + 2), .n 1, .n 1, .l 2 [[.n ((t.length : Int) + 1), .n (qq a)]], .n 0, .n 0, .n 1]] = [blOf t.length a].map eB := rfl
    have hrev : (t ++ [a]).reverse = a :: t.reverse := by simp
    have step : ∀ f' : Bool, f' = (f && decide (w ≤ 1000)) → evenD L.reverse n = if f' = true then evenD t.reverse (w * qq a) else none := fun f' hf' => by
      rw [hev, hf', hrev]
      cases f
      · simp
      · by_cases h : w ≤ 1000
        · simp [h, evenD, show ¬ 1000 < w by omega]
        · simp [h, evenD, show 1000 < w by omega]
    have hch : (chain (t ++ [a]).length suf).map eB ++ [blOf t.length a].map eB = (chain t.length (a :: suf)).map eB := by
      rw [← List.map_append]; simp [chain]
    have hqa : IntKind.wrap .i64 (1 + Int.tmod (IntKind.wrap .i64 a) 16) = qq a := by
      have : IntKind.wrap .i64 a = a := w64 (by omega) (by omega)
      rw [this]; exact w64 (by unfold qq at hq; omega) (by unfold qq at hq; omega)
    have hww : IntKind.wrap .i64 (w * qq a) = w * qq a := w64 (by omega) (by
      have h6 : (4 : Int) * 16 ^ (suf.length + 1) ≤ 4 * 16 ^ 9 := by rw [Int.pow_succ]; omega
      have h7 : (4 : Int) * 16 ^ 9 = 274877906944 := by decide
      omega)
    have hcl := chain_len suf (t.length + 1)
    have hap : apOk ((chain (t ++ [a]).length suf).map eB) [[U.n ((t.length : Int) + 2), .n 1, .n 1, .l 2 [[.n ((t.length : Int) + 1), .n (qq a)]], .n 0, .n 0, .n 1]] := apOk_l (by simp [hcl]; omega)
    have fin : ∀ f' : Bool, f' = (f && decide (w ≤ 1000)) → _ := fun f' hf' => (⟨by simp, t, a :: suf, by rw [e]; simp, rfl, by rw [hrow]; exact hch, hwq, step f' hf'⟩ :
      (((L.length : Int) + 1 = (L.length : Int) + 1 ∧ (1 : Int) = 1 ∧ ([] : List (List U)) = [] ∧ (1 : Int) = 1 ∧ (0 : Int) = 0 ∧ (0 : Int) = 0 ∧ (0 : Int) = 0) ∧ ∃ pre suf', L = pre ++ suf' ∧ (t.length : Int) - 1 = (pre.length : Int) - 1 ∧ (chain (t ++ [a]).length suf).map eB ++ [[U.n ((t.length : Int) + 2), .n 1, .n 1, .l 2 [[.n ((t.length : Int) + 1), .n (qq a)]], .n 0, .n 0, .n 1]] = (chain pre.length suf').map eB ∧ (1 ≤ w * qq a ∧ w * qq a ≤ 4 * 16 ^ suf'.length) ∧
        evenD L.reverse n = if f' = true then evenD pre.reverse (w * qq a) else none))
    have hme : ((t.length : Int) - 1 + 1).toNat < ((t.length : Int) + 1).toNat := by omega
    rw [ht]
    refine cB (fun hf => ?_) fun hf => ?_
    · rw [hel, show ug (e8 a) 0 = some (.i .u8 a) from rfl, dI_8, w64 (x := (t.length : Int) + 2) (by omega) (by omega), w64 (x := (t.length : Int) + 1) (by omega) (by omega), w64 (x := (t.length : Int) - 1) (by omega) (by omega), hqa, hww]
      exact ⟨by decide, hap, fin _ (by rw [hf, Bool.true_and]), hme⟩
    · rw [hel, show ug (e8 a) 0 = some (.i .u8 a) from rfl, dI_8, w64 (x := (t.length : Int) + 2) (by omega) (by omega), w64 (x := (t.length : Int) + 1) (by omega) (by omega), w64 (x := (t.length : Int) - 1) (by omega) (by omega), hqa, hww]
      exact ⟨by decide, hap, fin _ (by rw [hf, Bool.false_and]), hme⟩
  · have hp : pre = [] := by
      apply List.eq_nil_of_length_eq_zero
      have h := of_decide_eq_false (decide_eq_false hi)
      omega
    subst hp
    have hsl : suf = L := by simpa using e.symm
    subst hsl
    have hM : MaxQ = 1125899906842624 := rfl
    refine pExpand_S (c := catL suf) (have' := []) (even_rg hl hx) (by intro s hs; cases hs) (by simp) ?_
    rw [post_BE]
    have hnil : chkE [] (catL suf).types = 0 := by unfold chkE; simp [chkL]
    have hmay : mayE (catL suf) ((suf.length : Int) + 1) 0 [] = 0 := by
      unfold mayE
      rw [even_cat hl hx, if_neg (by simp), if_pos ⟨inn_iff.2 (by simp only; omega), by decide⟩]
      exact hnil
    obtain ⟨x1, x2⟩ := even_exp hx suf.length suf [] (es0 (catL suf) ((suf.length : Int) + 1) n) n rfl (by simp) (by simp [es0, upd]) (fun t ht => by simp only [es0, upd]; rw [if_neg (by omega)]) (by omega) (by omega)
    rw [hev] at x1 x2
    have hE : expR (catL suf) ((suf.length : Int) + 1) n 0 [] = match expL (catL suf) 0 [] (dn (suf.length + 1)) (es0 (catL suf) ((suf.length : Int) + 1) n) with | none => (([], [], []), 5) | some s => ((normL' s.raw, s.runs, normL' s.left), 0) := by
      unfold expR
      rw [hmay, if_neg (by simp), if_pos (inn_iff.2 (by omega)), even_top hl]
      generalize expL (catL suf) 0 [] (dn (suf.length + 1)) (es0 (catL suf) ((suf.length : Int) + 1) n) = o
      cases o <;> rfl
    rw [hE]
    refine cNot (cB (fun hf => ?_) fun hf => ?_)
    · rw [if_pos hf] at x2
      obtain ⟨s', e1, e2, e3⟩ := x2 w rfl
      rw [e1]
      simp only [e2, e3]
      have h1 : normL' ((es0 (catL suf) ((suf.length : Int) + 1) n).raw ++ [(1, w)]) = [(1, w)] := sn_self (by simp [es0]) (by simp [es0]; omega)
      have h2 : normL' (es0 (catL suf) ((suf.length : Int) + 1) n).left = [] := sn_self (by simp [es0]) (by simp [es0])
      rw [h1, h2]
      refine cEq (fun _ => same_S (A := [(1, w)]) (B := [(1, w)]) (by simp) (by simp) ?_) fun h => absurd rfl h
      rw [post_B, decide_eq_true rfl, cond_true]
      exact cEq (fun _ => aw) fun h => absurd rfl h
    · rw [hf] at x1
      rw [x1 rfl]
      exact cEq (fun _ => aw) fun h => absurd rfl h
theorem bomEven_run {rows0 : List (List U)} {x1 : U} (hl0 : rows0.length ≤ maxLen) (hs0 : ∀ r ∈ rows0, ShU (.i .u8 .nil) r) (sh1 : ShU (.i .u8 .nil) [x1]) :
    PRun Try.prog 4 [] [.l 1 rows0, .u x1] fun v _ => v = .u (.b true) := by
  have hw : ∀ {n : Int}, (Lit.int .u8 n).wf = true → 0 ≤ n ∧ n ≤ 255 := fun {n} h => by
    have h1 : IntKind.min .u8 = 0 := by decide
    have h2 : IntKind.max .u8 = 255 := by decide
    simp only [Lit.wf, h1, h2, Bool.and_eq_true, decide_eq_true_eq] at h
    exact h
  obtain ⟨L, rfl, hL⟩ := rows_of (α := Int) (e := e8) (Q := fun x => 0 ≤ x ∧ x ≤ 255) (fun r h => by
    obtain ⟨n, _, rfl, h1, rfl⟩ := h
    exact ⟨n, rfl, hw h1⟩) hs0
  obtain ⟨m, _, e, h1, rfl⟩ := sh1
  cases e
  exact bomEven_S hL (hw h1) rfl
end Go.Proofs.Ytljgfkiiikcaaaa

/- The row of BomEven: whatever it is given it returns true, and what it was given reads as it did. -/
namespace Go.Proofs.Ytljgfkiiikcaaaa
open Go Go.Proofs Go.ChangeShapes Go.WideShapes Go.ChangeAt Go.RowKit

set_option maxRecDepth 100000 in
theorem bomEven_lifted (os : Os) (started : os.Started) (H : Type) (enc : TypeId × Value → H) :
    ReturnsInHanded {} Try.checked os 4 .any (Rows.bomEvenSpec.pre6 enc Try.prog Try.f4 Rows.bomEvenRow.domain false) (Rows.bomEvenSpec.post enc Try.prog Try.f4 false true false false) := by
  refine returnsInHanded_of_change (C := Try.checked) Try.own started (by kernel_rfl) Try.func4
    (ChangeSpec.witness6 (enc := enc) (C := Try.checked) false ⟨#[], #[.slice none 0 0, .int .u8 0], []⟩ 8 (by kernel_rfl) (by kernel_rfl) (by kernel_rfl) (by kernel_rfl)) ?_
  intro W base args ds gs before hval0 hW hcnd _
  have hval : ∀ (j : Nat) t v, Try.f4.params[j]? = some t → args[j]? = some v → Value.okWide Try.prog W .any base t v := hval0
  have hW' := hW
  obtain ⟨p, q, hA0, hV, rfl, hfz, hnd⟩ := hW
  have hA : DataW.TrodAll enc Try.prog W 0 (fun _ => true) true Try.f4.params.toList args.toList ds p := hA0
  rw [Try.params4] at hA hval
  obtain ⟨v0, v1, d0, d1, p0, p1, rfl, rfl, rfl, h0, h1⟩ := trodAll_two hA
  obtain ⟨rfl, rfl⟩ := trodVars_none hV
  obtain ⟨us0, hr0, sh0⟩ := open_data (ds := (.l 1 (.i .u8 .nil) .nil)) (by kernel_rfl) h0
  obtain ⟨a0, n0, c0, rfl⟩ := Go.WideShapes.okWide_slice Try.underlying48 (hval 0 48 v0 rfl rfl)
  obtain ⟨us1, hr1, sh1⟩ := open_data (ds := (.i .u8 .nil)) (by kernel_rfl) h1
  obtain ⟨x1, rfl⟩ : ∃ x, us1 = [x] := by obtain ⟨_, _, rfl, hh⟩ := sh1; obtain rfl : _ = [] := (by first | exact hh | exact hh.2); exact ⟨_, rfl⟩
  have hr1 : Rd (allD W.heap) v1 x1 := rd_int (hval 1 5 v1 rfl rfl) Try.underlying5 hr1
  obtain ⟨rows0, _, rfl, hl0, hs0, rfl⟩ := sh0
  clear hA0 hval0
  refine ((bomEven_run hl0 hs0 sh1 (allD W.heap) [] [] [] W.heap _ (SAt.all W.heap) (.cons (rp_slice hr0) (.cons (.u hr1) (.nil)))).2 W rfl).mono ?_
  rintro e W' ⟨v, rfl, ⟨D', ρ', chs', x, m', le, M', hv, rfl⟩, hsm⟩
  obtain rfl : v = .bool true := by cases hv with | u h => cases h; rfl
  have hb := belowOf (St.kept le M'.st) hsm
  have hlt0 : ∀ x ∈ p0, x.block < W.heap.size := fun x hx => by simpa using hW'.lt x (by simp [hx])
  have hlt1 : ∀ x ∈ p1, x.block < W.heap.size := fun x hx => by simpa using hW'.lt x (by simp [hx])
  exact ⟨_, rfl, _, _, _, [], _, [], hW', trodAll_mk1 (shut_bool Try.underlying4 true), trodAll_mk2 (hb.trod Try.laidOut (by kernel_rfl) (of_decide_eq_true (by kernel_rfl)) h0 hlt0) (hb.trod Try.laidOut (by kernel_rfl) (of_decide_eq_true (by kernel_rfl)) h1 hlt1), rfl, hb.frame _, fun h => by cases h⟩

/-- The statement. -/
theorem bomEven_holds : Rows.BomEvenSaid :=
  OpenClaim.holds_of_wide 4 Try.f4 rfl rfl rfl rfl rfl rfl rfl ⟨rfl, rfl, rfl, rfl, rfl⟩ rfl rfl rfl rfl rfl (by kernel_rfl) Try.func4 (by kernel_rfl)
    (of_decide_eq_true (by kernel_rfl)) (by unfold Func.isWrapper; first | (rw [if_pos (by decide +kernel)]; kernel_rfl) | (rw [if_neg (by decide +kernel)]; exact ⟨rfl, rfl⟩))
    (fun os started H enc _ => bomEven_lifted os started H enc)
end Go.Proofs.Ytljgfkiiikcaaaa
