/- The row of BomTakes: whatever it is given it returns true, and what it was given reads as it did. -/
import Derived.Test.YtljgfkiiikcaaaaGreatJb4
import Derived.Test.YtljgfkiiikcaaaaGreatRows
import Derived.ProofKit
import Derived.Deep.SlicePairs
/- How deep nodes stand: the code's and the document's. -/
set_option linter.unusedVariables false
namespace Go.Proofs.YtljgfkiiikcaaaaGreat
open Go Go.Proofs
variable {Q : V → Mem → Prop}

def dstep (node : Int) (o : List Int) (x : Int) : List Int := o.set (node - 1).toNat (max (o.getD (node - 1).toNat 0) (o.getD (x - 1).toNat 0 + 1))
def dnode (L : List Stk) (o : List Int) (node : Int) : List Int := (needsOf L node.toNat).foldl (dstep node) o
noncomputable def deepL (n : Int) (L : List Stk) : List Int := (ordG n L).foldl (dnode L) (List.replicate n.toNat 0)
noncomputable def deepR (n : Int) (L : List Stk) : List Int × Int := if (orderR n L).2 = 0 then (deepL n L, 0) else ([], (orderR n L).2)
/-- So many numbers, from 0 on, none above m. -/
structure DB (n : Int) (m : Nat) (o : List Int) : Prop where
  len : (o.length : Int) = n
  b : ∀ y ∈ o, 0 ≤ y ∧ y ≤ m
theorem DB.getD {n : Int} {m : Nat} {o : List Int} (d : DB n m o) (k : Nat) : 0 ≤ o.getD k 0 ∧ o.getD k 0 ≤ m := by
  rw [List.getD_eq_getElem?_getD]
  cases h : o[k]? with
  | none => simp
  | some y => exact d.b y (List.mem_of_getElem? h)
theorem DB.step {n : Int} {m : Nat} {o : List Int} (d : DB n m o) (node x : Int) : DB n (m + 1) (dstep node o x) := by
  refine ⟨by unfold dstep; rw [List.length_set]; exact d.len, fun y hy => ?_⟩
  rcases List.mem_or_eq_of_mem_set hy with h | h
  · have := d.b y h; omega
  · have h1 := d.getD (node - 1).toNat
    have h2 := d.getD (x - 1).toNat
    omega
theorem DB.mono {n : Int} {m m' : Nat} {o : List Int} (d : DB n m o) (h : m ≤ m') : DB n m' o := ⟨d.len, fun y hy => by have := d.b y hy; omega⟩
theorem DB.fold {n : Int} (node : Int) : ∀ (l : List Int) {m : Nat} {o : List Int}, DB n m o → DB n (m + l.length) (l.foldl (dstep node) o)
  | [], _, _, d => d
  | x :: l, m, o, d => by
    have := DB.fold node l (d.step node x)
    rw [List.length_cons, List.foldl_cons]
    exact this.mono (by omega)
theorem elI {o : List Int} {i y : Int} {K : Int → Prop} (h0 : 0 ≤ i) (h : o[i.toNat]? = some y) : elL (o.map eI) i (fun r => dI .i64 (ug r 0) K) = K y := by
  rw [elL_of (r := eI y) h0 (by rw [List.getElem?_map, h]; rfl)]; rfl
theorem set_eI {o : List Int} {k : Nat} {y : Int} : List.set (o.map eI) k [.n y] = (o.set k y).map eI := by rw [List.map_set]; rfl
theorem get_getD {o : List Int} {k : Nat} (h : k < o.length) : o[k]? = some (o.getD k 0) := by
  rw [List.getElem?_eq_getElem h, List.getD_eq_getElem?_getD, List.getElem?_eq_getElem h]; rfl
/-- One step, as both take it. -/
theorem step_c {n node x : Int} {m : Nat} {o : List Int} (d : DB n m o) (hm : m ≤ 1000000) (h1 : 1 ≤ node ∧ node ≤ n) (h2 : 1 ≤ x ∧ x ≤ n) (hn : n ≤ 64) {K : List (List U) → Prop} (k : K ((dstep node o x).map eI)) :
    0 ≤ IntKind.wrap .i64 (node - 1) ∧ IntKind.wrap .i64 (node - 1) < (List.length (o.map eI) : Int) ∧ (elL (o.map eI) (IntKind.wrap .i64 (node - 1)) (fun r3 => dI .i64 (ug r3 0) (fun x6 => 0 ≤ IntKind.wrap .i64 (x - 1) ∧ IntKind.wrap .i64 (x - 1) < (List.length (o.map eI) : Int) ∧ (elL (o.map eI) (IntKind.wrap .i64 (x - 1)) (fun r4 => dI .i64 (ug r4 0) (fun x7 => 0 ≤ IntKind.wrap .i64 (node - 1) ∧ IntKind.wrap .i64 (node - 1) < (List.length (o.map eI) : Int) ∧
      K (List.set (o.map eI) (Int.toNat (IntKind.wrap .i64 (node - 1))) [.n (if IntKind.wrap .i64 (x7 + 1) > x6 then IntKind.wrap .i64 (x7 + 1) else x6)]))))))) := by
  have hl := d.len
  rw [w64 (x := node - 1) (by omega) (by omega), w64 (x := x - 1) (by omega) (by omega), List.length_map]
  have e1 := get_getD (o := o) (k := (node - 1).toNat) (by omega)
  have e2 := get_getD (o := o) (k := (x - 1).toNat) (by omega)
  have b2 := d.getD (x - 1).toNat
  refine ⟨by omega, by omega, ?_⟩
  rw [elI (by omega) e1]
  refine ⟨by omega, by omega, ?_⟩
  rw [elI (by omega) e2]
  refine ⟨by omega, by omega, ?_⟩
  rw [w64 (x := o.getD (x - 1).toNat 0 + 1) (by omega) (by omega), set_eI]
  have : (if o.getD (x - 1).toNat 0 + 1 > o.getD (node - 1).toNat 0 then o.getD (x - 1).toNat 0 + 1 else o.getD (node - 1).toNat 0) = max (o.getD (node - 1).toNat 0) (o.getD (x - 1).toNat 0 + 1) := by split <;> omega
  rw [this]
  exact k
theorem rep_eI (n : Nat) : List.replicate n ([.n 0] : List U) = (List.replicate n (0 : Int)).map eI := by simp [eI]
theorem DB.zero {n : Int} (h : 0 ≤ n) : DB n 0 (List.replicate n.toNat 0) := ⟨by simp; omega, fun y hy => by have := List.eq_of_mem_replicate hy; omega⟩
theorem needs_mem {L : List Stk} {k : Nat} {x : Int} (h : x ∈ needsOf L k) : ∃ p ∈ L, p.1 = k ∧ p.2 = x := by
  obtain ⟨p, hp, e⟩ := List.mem_map.1 h
  obtain ⟨h1, h2⟩ := List.mem_filter.1 hp
  exact ⟨p, h1, by simpa using h2, e⟩
theorem pDeep_S {n : Int} {L : List Stk} (k : Q (vIE (deepR n L)) []) : PRun Tryz.prog 70 [] [.i n, .l 2 (L.map eS)] Q := by
  unfold deepR orderR at k
  refine S70 (ordered_S (fun hg => ?_) (fun hg out G N hl => ?_) fun hg out O G N hl => ?_)
  all_goals rw [post_PLI]
  · rw [if_neg hg] at k; exact cNe (fun _ => k) fun h => by cases h
  · rw [if_pos hg, ordG_eq G N, if_pos hl] at k; exact cNe (fun _ => k) fun h => by cases h
  rw [if_pos hg, ordG_eq G N, if_neg hl] at k
  refine cNe (fun h => absurd rfl h) fun _ => ⟨hg.n0, by have := hg.n64; omega, rfl, ?_⟩
  have k : Q (.t [.l 1 ((deepL n L).map eI), .i 0]) [] := k
  have hon := nodup_len G.nodup G.mem hg.n0
  have hn := hg.n64
  have hLl := hg.len
  refine ⟨fun x l => AtI out (fun t _ => ∃ o, l = o.map eI ∧ o = t.foldl (dnode L) (List.replicate n.toNat 0) ∧ DB n (256 * t.length) o) x, fun x _ => SufM out x, .zero (by omega) ⟨_, rep_eI _, rfl, .zero hg.n0⟩, ?_⟩
  rintro x _ ⟨t, _ | ⟨a, l⟩, s, o, rfl, ho, d⟩
  · have e : o = deepL n L := by rw [ho, s.all, deepL, ordG_eq G N]
    rw [s.d0, e]; exact k
  have ha := G.mem a (by rw [s.e]; simp)
  have htl := congrArg List.length s.e
  simp at htl
  simp only [s.d1, s.el, cond_true]
  simp only [eI, ug0, dI_n, oP_s]
  refine idxK_of a.toNat (by omega) (by omega) ?_
  rw [Nat.mul_one, web_needs (by omega), dL_l]
  have hnl := needsOf_len L a.toNat
  let Inv : Int → List (List U) → Prop := fun z l => AtI (needsOf L a.toNat) (fun t2 _ => ∃ o2, l = o2.map eI ∧ o2 = t2.foldl (dstep a) o ∧ DB n (256 * t.length + t2.length) o2) z
  refine ⟨Inv, fun z _ => SufM (needsOf L a.toNat) z, .zero (by omega) ⟨o, rfl, rfl, d⟩, ?_⟩
  rintro z _ ⟨t2, _ | ⟨b, l2⟩, s2, o2, rfl, ho2, d2⟩
  · rw [s2.d0]
    rw [s2.all] at ho2 d2
    refine s.step ⟨o2, rfl, ?_, d2.mono (by simp; omega)⟩
    rw [List.foldl_append, ← ho]; exact ho2
  have hb : 1 ≤ b ∧ b ≤ n := by
    obtain ⟨p, hp, -, rfl⟩ := needs_mem (show b ∈ needsOf L a.toNat by rw [s2.e]; simp)
    exact inn_iff.1 (hg.ok p hp).2
  have htl2 := congrArg List.length s2.e
  simp at htl2
  simp only [s2.d1, s2.el, cond_true, eI, ug0, dI_n]
  refine step_c d2 (by omega) ha hb hn (K := fun l => Inv (IntKind.wrap .i64 (z + 1)) l ∧ SufM (needsOf L a.toNat) (IntKind.wrap .i64 (z + 1)) < SufM (needsOf L a.toNat) z) (s2.step ⟨_, rfl, ?_, ?_⟩)
  · rw [List.foldl_append, ← ho2]; rfl
  · have := d2.step a b; simpa [Nat.add_assoc] using this
theorem needs_fold {n : Int} {L : List Stk} {a : Int} (t : List Stk) (ha : 0 ≤ a) (o : List Int) : (t.foldl (fun o p => if p.1 = a then dstep a o p.2 else o) o) = (needsOf t a.toNat).foldl (dstep a) o := by
  induction t generalizing o with
  | nil => rfl
  | cons p t ih =>
    rw [List.foldl_cons, ih]
    unfold needsOf
    by_cases h : p.1 = a
    · rw [if_pos h, List.filter_cons_of_pos (by simp; omega)]; rfl
    · rw [if_neg h, List.filter_cons_of_neg (by simp; omega)]
theorem rDeep_S {n : Int} {L : List Stk} (hL : L.length ≤ 1000000) (k : Q (vIE (deepR n L)) []) : PRun Tryz.prog 88 [] [.i n, .l 2 (L.map eS)] Q := by
  unfold deepR at k
  refine S88 (rOrder_S hL ?_)
  rw [post_LI]
  refine cNe (fun h => by rwa [if_neg h] at k) fun h => ?_
  rw [if_pos h] at k
  unfold orderR at h ⊢
  split at h
  rotate_left
  · cases h
  rename_i hg
  split at h
  · cases h
  rename_i hl
  rw [if_pos hg, if_neg hl]
  have hn := hg.n64
  have hLl := hg.len
  by_cases hex : ∃ out, Greedy L n out ∧ ∀ k, ¬ Nx1 L n out k
  rotate_left
  · have h0 : ordG n L = [] := by unfold ordG; rw [dif_neg hex]
    have : n = 0 := by have := hg.n0; rw [h0] at hl; simp at hl; omega
    exact absurd ⟨[], .nil, fun k hk => by have := hk.1; have := hk.2.1; omega⟩ hex
  obtain ⟨out, G, N⟩ := hex
  have eG := ordG_eq G N
  have hon := nodup_len G.nodup G.mem hg.n0
  refine ⟨hg.n0, by omega, rfl, ?_⟩
  show ∃ _, _
  simp only [eG]
  refine ⟨fun x l => AtI out (fun t _ => ∃ o, l = o.map eI ∧ o = t.foldl (dnode L) (List.replicate n.toNat 0) ∧ DB n (256 * t.length) o) x, fun x _ => SufM out x, .zero (by omega) ⟨_, rep_eI _, rfl, .zero hg.n0⟩, ?_⟩
  rintro x _ ⟨t, _ | ⟨a, l⟩, s, o, rfl, ho, d⟩
  · have e : o = deepL n L := by rw [ho, s.all, deepL, eG]
    rw [s.d0, e]; exact k
  have ha := G.mem a (by rw [s.e]; simp)
  have htl := congrArg List.length s.e
  simp at htl
  rw [s.d1, cond_true]
  let Inv : Int → List (List U) → Prop := fun z l => AtI L (fun t2 _ => ∃ o2, l = o2.map eI ∧ o2 = t2.foldl (fun o p => if p.1 = a then dstep a o p.2 else o) o ∧ DB n (256 * t.length + t2.length) o2) z
  refine ⟨Inv, fun z _ => SufM L z, .zero (by omega) ⟨o, rfl, rfl, d⟩, ?_⟩
  rintro z _ ⟨t2, _ | ⟨b, l2⟩, s2, o2, rfl, ho2, d2⟩
  · rw [s2.d0]
    rw [s2.all] at ho2 d2
    refine s.step ⟨o2, rfl, ?_, d2.mono (by simp; omega)⟩
    rw [List.foldl_append, ← ho, ho2, needs_fold (n := n) (L := L) L (by omega)]; rfl
  have hb := inn_iff.1 (hg.ok b (by rw [s2.e]; simp)).2
  have htl2 := congrArg List.length s2.e
  simp at htl2
  simp only [s2.d1, s2.el, s.el, cond_true, eI, eS, ug0, ugs, dI_n]
  refine cEq (fun h => ?_) fun h => s2.step ⟨o2, rfl, ?_, d2.mono (by rw [List.length_append]; omega)⟩
  · refine step_c d2 (by omega) ha hb hn (K := fun l => Inv (IntKind.wrap .i64 (z + 1)) l ∧ SufM L (IntKind.wrap .i64 (z + 1)) < SufM L z) (s2.step ⟨_, rfl, ?_, ?_⟩)
    · rw [List.foldl_append, ← ho2]; simp [h]
    · have := d2.step a b.2; simpa [Nat.add_assoc] using this
  · rw [List.foldl_append, ← ho2]; simp [h]
end Go.Proofs.YtljgfkiiikcaaaaGreat

/- Catalogues: pairs of needs, makers, may one be: the code's and the document's. -/
set_option linter.unusedVariables false
namespace Go.Proofs.YtljgfkiiikcaaaaGreat
open Go Go.Proofs
variable {Q : V → Mem → Prop}

structure Bay where
  place : Int
  make : Int
  lab : Int
  rate : Int
def eY (b : Bay) : List U := [.n b.place, .n b.make, .n b.lab, .n b.rate]
structure Cat where
  types : Int
  blues : List Bl
  places : Int
  bays : List Bay
  chars : Int
  broker : Int
  least : Int
  sales : Int
abbrev aC (c : Cat) : V := .a [.i c.types, .l 7 (c.blues.map eB), .i c.places, .l 4 (c.bays.map eY), .i c.chars, .i c.broker, .i c.least, .i c.sales]
structure Cat.Rg (c : Cat) : Prop where
  b : ∀ b ∈ c.blues, b.Rg
  nb : c.blues.length ≤ 500
  ny : c.bays.length ≤ 100000
def pairsL (l : List Bl) : List Stk := l.flatMap fun b => b.needs.map fun s => (b.makes, s.1)
theorem pairsL_snoc (t : List Bl) (b : Bl) : pairsL (t ++ [b]) = pairsL t ++ b.needs.map fun s => (b.makes, s.1) := by simp [pairsL]
theorem pairsL_len : ∀ (l : List Bl), (∀ b ∈ l, b.Rg) → (pairsL l).length ≤ 1000 * l.length
  | [], _ => by simp [pairsL]
  | b :: l, h => by
    have h1 := pairsL_len l fun x hx => h x (by simp [hx])
    have h2 := (h b (by simp)).n
    simp only [pairsL, List.flatMap_cons, List.length_append, List.length_map, List.length_cons] at h1 ⊢
    omega
section
variable {c : Cat}
theorem pPairs_S (hc : c.Rg) (k : Q (.l 2 ((pairsL c.blues).map eS)) []) : PRun Tryz.prog 20 [] [aC c] Q := by
  refine S20 ⟨fun l x => AtI c.blues (fun t _ => l = (pairsL t).map eS) x, fun _ => SufM c.blues, .zero (by have := hc.nb; omega) rfl, ?_⟩
  rintro _ x ⟨t, _ | ⟨b, l⟩, s, rfl⟩
  · rw [s.d0, s.all]; exact k
  have hb := hc.b b (by rw [s.e]; simp)
  have hbn := hb.n
  have hnb := hc.nb
  have htl := congrArg List.length s.e
  simp at htl
  have htp := pairsL_len t fun x hx => hc.b x (by rw [s.e]; simp [hx])
  simp only [s.d1, s.el, eB, ug0, ugs, dI_n, dL_l, cond_true]
  refine ⟨fun l x => AtI b.needs (fun t2 _ => l = (pairsL t ++ t2.map fun s => (b.makes, s.1)).map eS) x, fun _ => SufM b.needs, .zero (by omega) (by simp), ?_⟩
  rintro _ y ⟨t2, _ | ⟨a, l2⟩, s2, rfl⟩
  · rw [s2.d0, s2.all]; exact s.step (by rw [pairsL_snoc])
  have htl2 := congrArg List.length s2.e
  simp at htl2
  simp only [s2.d1, s2.el, eS, ug0, ugs, dI_n, cond_true]
  exact ⟨apOk_l (by simp; omega), s2.step (by simp [eS])⟩
theorem rPairs_S (hc : c.Rg) (k : Q (.l 2 ((pairsL c.blues).map eS)) []) : PRun Tryz.prog 57 [] [aC c] Q := by
  refine S57 ⟨fun l x => AtI c.blues (fun t _ => l = (pairsL t).map eS) x, fun _ => SufM c.blues, .zero (by have := hc.nb; omega) rfl, ?_⟩
  rintro _ x ⟨t, _ | ⟨b, l⟩, s, rfl⟩
  · rw [s.d0, s.all]; exact k
  have hb := hc.b b (by rw [s.e]; simp)
  have hbn := hb.n
  have hnb := hc.nb
  have htl := congrArg List.length s.e
  simp at htl
  have htp := pairsL_len t fun x hx => hc.b x (by rw [s.e]; simp [hx])
  rw [s.d1, cond_true]
  refine ⟨fun l x => AtI b.needs (fun t2 _ => l = (pairsL t ++ t2.map fun s => (b.makes, s.1)).map eS) x, fun _ => SufM b.needs, .zero (by omega) (by simp), ?_⟩
  rintro _ y ⟨t2, _ | ⟨a, l2⟩, s2, rfl⟩
  · simp only [s.el, eB, ug0, ugs, dL_l]
    rw [s2.d0, s2.all]; exact s.step (by rw [pairsL_snoc])
  have htl2 := congrArg List.length s2.e
  simp at htl2
  simp only [s.el, eB, ug0, ugs, dL_l, dI_n, s2.d1, s2.el, eS, cond_true]
  exact ⟨apOk_l (by simp; omega), s2.step (by simp [eS])⟩
/-- The maker of a type: its number, from 1 on; 0: none. -/
def maker (l : List Bl) (kind : Int) : Int := fstI (fun b => b.makes == kind) l 0 + 1
theorem fstI_at {α : Type} {p : α → Bool} : ∀ {t l : List α} {a : α} {k : Nat}, (∀ u ∈ t, p u = false) → p a = true → fstI p (t ++ a :: l) k = ((k + t.length : Nat) : Int)
  | [], l, a, k, _, h => by simp [fstI, h]
  | u :: t, l, a, k, ht, h => by
    simp only [List.cons_append, fstI, ht u (by simp), Bool.false_eq_true, if_false]
    rw [fstI_at (fun v hv => ht v (by simp [hv])) h]
    simp; omega
theorem fstI_none {α : Type} {p : α → Bool} : ∀ {l : List α} {k : Nat}, (∀ u ∈ l, p u = false) → fstI p l k = -1
  | [], _, _ => rfl
  | u :: l, k, h => by
    simp only [fstI, h u (by simp), Bool.false_eq_true, if_false]
    exact fstI_none fun v hv => h v (by simp [hv])
theorem pMaker_S {kind : Int} (hc : c.Rg) (k : Q (.i (maker c.blues kind)) []) : PRun Tryz.prog 36 [] [aC c, .i kind] Q := by
  refine S36 ⟨AtI c.blues fun t _ => ∀ b ∈ t, (b.makes == kind) = false, SufM c.blues, .zero (by have := hc.nb; omega) (by simp), ?_⟩
  rintro x ⟨t, _ | ⟨b, l⟩, s, ht⟩
  · rw [s.d0]; rw [s.all] at ht
    unfold maker at k; rwa [fstI_none ht] at k
  simp only [s.d1, s.el, eB, ug0, ugs, dI_n, dL_l, cond_true]
  refine cB (fun h => ?_) fun h => s.step fun u hu => ?_
  · unfold maker at k
    rw [s.e, fstI_at ht h] at k
    rw [s.suf.wr, s.k]
    simpa using k
  · rcases List.mem_append.1 hu with hu | hu
    · exact ht u hu
    · simp at hu; subst hu; exact h
theorem rMaker_S {kind : Int} (hc : c.Rg) (k : Q (.i (maker c.blues kind)) []) : PRun Tryz.prog 29 [] [aC c, .i kind] Q := by
  refine S29 ⟨AtI c.blues fun t _ => ∀ b ∈ t, (b.makes == kind) = false, SufM c.blues, .zero (by have := hc.nb; omega) (by simp), ?_⟩
  rintro x ⟨t, _ | ⟨b, l⟩, s, ht⟩
  · rw [s.d0]; rw [s.all] at ht
    unfold maker at k; rwa [fstI_none ht] at k
  simp only [s.d1, s.el, eB, ug0, ugs, dI_n, dL_l, cond_true]
  refine cB (fun h => ?_) fun h => s.step fun u hu => ?_
  · unfold maker at k
    rw [s.e, fstI_at ht h] at k
    rw [s.suf.wr, s.k]
    simpa using k
  · rcases List.mem_append.1 hu with hu | hu
    · exact ht u hu
    · simp at hu; subst hu; exact h
/- ## May a catalogue be? -/
def feeOK (c : Cat) : Bool := inn c.broker 0 10000 && (inn c.sales 0 10000 && inn c.least 0 1152921504606846976)
theorem pFee_S (k : Q (.i (if feeOK c = true then 0 else 1)) []) : PRun Tryz.prog 101 [] [.a [.i c.broker, .i c.least, .i c.sales]] Q := by
  unfold feeOK at k
  refine S101 (S113 (inn_c ?_))
  rw [post_B]
  refine cB (fun h1 => S113 (inn_c ?_)) fun h => by simpa [h] using k
  rw [post_B]
  refine cB (fun h2 => S114 (inn_c ?_)) fun h => by simpa [h] using k
  rw [post_B]
  exact cB (fun h3 => by simpa [h1, h2, h3] using k) fun h => by simpa [h] using k
theorem rFee_S (k : Q (.i (if feeOK c = true then 0 else 1)) []) : PRun Tryz.prog 87 [] [.a [.i c.broker, .i c.least, .i c.sales]] Q := by
  have bad : ¬ feeOK c = true → Q (.i 1) [] := fun h => by rwa [if_neg h] at k
  simp only [feeOK, Bool.and_eq_true, inn_iff] at bad k
  refine S87 (cIf (fun h => bad (by omega)) fun h1 => cIf (fun h => bad (by omega)) fun h2 => cIf (fun h => bad (by omega)) fun h3 => cIf (fun h => bad (by omega)) fun h4 => cIf (fun h => bad (by omega)) fun h5 => cIf (fun h => bad (by omega)) fun h6 => ?_)
  rwa [if_pos (by omega)] at k
end
end Go.Proofs.YtljgfkiiikcaaaaGreat

/- May a catalogue be: the code's and the document's Check. -/
set_option linter.unusedVariables false
namespace Go.Proofs.YtljgfkiiikcaaaaGreat
open Go Go.Proofs
variable {Q : V → Mem → Prop} {c : Cat}

def bayOK (c : Cat) (y : Bay) : Prop := inn y.place 1 c.places = true ∧ inn y.make 0 8 = true ∧ inn y.lab 0 8 = true ∧ inn y.rate 0 10000 = true
structure Cat.Sz (c : Cat) : Prop where
  types : inn c.types 1 32 = true
  places : inn c.places 1 8 = true
  chars : inn c.chars 1 16 = true
  nb : c.blues.length ≤ 16
  ny : c.bays.length ≤ 8
  bl : ∀ b ∈ c.blues, blueE b c.types = 0
  by' : ∀ y ∈ c.bays, bayOK c y
  fee : feeOK c = true
open Classical in
noncomputable def catE (c : Cat) : Int := if c.Sz then (if (deepR c.types (pairsL c.blues)).2 ≠ 0 then (deepR c.types (pairsL c.blues)).2 else if ∃ d ∈ deepL c.types (pairsL c.blues), 8 < d then 5 else 0) else 1
theorem deep_len {n : Int} {L : List Stk} (h : (deepR n L).2 = 0) : gOK n L ∧ ((deepL n L).length : Int) = n ∧ (deepR n L).1 = deepL n L := by
  have h1 : (orderR n L).2 = 0 := by
    unfold deepR at h
    by_cases h2 : (orderR n L).2 = 0
    · exact h2
    · rw [if_neg h2] at h; exact h
  unfold deepR orderR at h
  by_cases hg : gOK n L
  · refine ⟨hg, ?_, ?_⟩
    · unfold deepL
      have : ∀ (l : List Int) (o : List Int), (l.foldl (dnode L) o).length = o.length := by
        intro l
        induction l with
        | nil => intro o; rfl
        | cons a l ih =>
          intro o
          rw [List.foldl_cons, ih]
          unfold dnode
          generalize needsOf L a.toNat = xs
          induction xs generalizing o with
          | nil => rfl
          | cons x xs ih2 => rw [List.foldl_cons, ih2]; simp [dstep]
      rw [this]
      have := hg.n0
      simp; omega
    · unfold deepR
      rw [if_pos h1]
  · rw [if_neg hg] at h
    simp at h
theorem sizes_S (hc : c.Rg) (k : ∀ b : Bool, (b = true ↔ c.Sz) → Q (.u (.b b)) []) : PRun Tryz.prog 69 [] [aC c] Q := by
  refine S69 fun k1 hk1 => ?_
  have hnb := hc.nb
  have hny := hc.ny
  have H : ∀ b1 : Bool, (b1 = true ↔ inn c.types 1 32 = true ∧ inn c.places 1 8 = true ∧ inn c.chars 1 16 = true ∧ c.blues.length ≤ 16 ∧ c.bays.length ≤ 8) → k1 b1 := by
    intro b1 hb1
    refine hk1 b1 fun k2 hk2 => ?_
    have bad : ¬ c.Sz → k2 false := fun h => hk2 false (k false (by simp [h]))
    refine cB (fun h1 => ?_) fun h1 => bad fun z => by rw [hb1.2 ⟨z.types, z.places, z.chars, z.nb, z.ny⟩] at h1; cases h1
    obtain ⟨n1, n2, n3, n4, n5⟩ := hb1.1 h1
    refine ⟨AtI c.blues fun t _ => ∀ b ∈ t, blueE b c.types = 0, SufM c.blues, .zero (by omega) (by simp), ?_⟩
    rintro x ⟨t, _ | ⟨b, l⟩, s, ht⟩
    case cons =>
      have hm : b ∈ c.blues := by rw [s.e]; simp
      simp only [s.d1, s.el, eB, ug0, ugs, dI_n, dL_l, cond_true]
      refine pBlue_S (hc.b b hm) ?_
      rw [post_I, decide_eq_true (show x ≥ 0 from s.suf.lt.1), Bool.not_true, cond_false]
      refine cNe (fun h => bad fun z => h (z.bl b hm)) fun h => s.step fun u hu => ?_
      rcases List.mem_append.1 hu with hu | hu
      · exact ht u hu
      · simp at hu; subst hu; exact h
    rw [s.all] at ht
    rw [s.d0, cond_false]
    refine ⟨AtI c.bays fun t _ => ∀ y ∈ t, bayOK c y, SufM c.bays, .zero (by omega) (by simp), ?_⟩
    rintro x ⟨t2, _ | ⟨y, l⟩, s, ht2⟩
    case cons =>
      have hm : y ∈ c.bays := by rw [s.e]; simp
      simp only [s.d1, s.el, eY, ug0, ugs, dI_n, dL_l, cond_true, decide_eq_true (show x ≥ 0 from s.suf.lt.1), Bool.not_true, cond_false]
      refine in2_S ?_
      rw [post_B]
      refine cNot (cB (fun o1 => in2_S ?_) fun h => bad fun z => by rw [(z.by' y hm).1] at h; cases h)
      rw [post_B]
      refine cNot (cB (fun o2 => in2_S ?_) fun h => bad fun z => by rw [(z.by' y hm).2.1] at h; cases h)
      rw [post_B]
      refine cNot (cB (fun o3 => in2_S ?_) fun h => bad fun z => by rw [(z.by' y hm).2.2.1] at h; cases h)
      rw [post_B]
      refine cNot (cB (fun o4 => s.step fun u hu => ?_) fun h => bad fun z => by rw [(z.by' y hm).2.2.2] at h; cases h)
      rcases List.mem_append.1 hu with hu | hu
      · exact ht2 u hu
      · simp at hu; subst hu; exact ⟨o1, o2, o3, o4⟩
    rw [s.all] at ht2
    rw [s.d0, cond_false]
    refine pFee_S ?_
    rw [post_I]
    by_cases hf : feeOK c = true
    · rw [if_pos hf]; exact hk2 true (k true (by simp; exact ⟨n1, n2, n3, n4, n5, ht, ht2, hf⟩))
    · rw [if_neg hf]; exact bad fun z => hf z.fee
  refine in2_S ?_
  rw [post_B]
  refine cB (fun h1 => in2_S ?_) fun h => H false (by simp [h])
  rw [post_B]
  refine cB (fun h2 => in2_S ?_) fun h => H false (by simp [h])
  rw [post_B]
  refine cB (fun h3 => cIf (fun h4 => H _ ?_) fun h4 => H false ?_) fun h => H false (by simp [h])
  · simp only [List.length_map] at h4 ⊢
    simp [h1, h2, h3]; omega
  · simp only [List.length_map] at h4
    simp; omega
theorem max_S {l : List Int} (h0 : l ≠ []) (hl : l.length ≤ 1000000) (k : ∀ m ∈ l, (∀ y ∈ l, y ≤ m) → Q (.i m) []) : PRun Tryz.prog 71 [] [.l 1 (l.map eI)] Q := by
  rcases l with _ | ⟨a, l⟩
  · exact absurd rfl h0
  refine S71 (cIf (fun h => by simp at h; omega) fun _ => ?_)
  rw [elI (y := a) (by decide) rfl]
  refine ⟨fun m x => AtI (a :: l) (fun t _ => t ≠ [] ∧ m ∈ t ∧ ∀ y ∈ t, y ≤ m) x, fun _ => SufM (a :: l), ⟨[a], l, ⟨rfl, rfl, by simp at hl ⊢; omega⟩, by simp, by simp, by simp⟩, ?_⟩
  rintro m x ⟨t, _ | ⟨b, l2⟩, s, hne, hm, hle⟩
  · rw [s.d0]; rw [s.all] at hm hle
    exact k m hm hle
  · simp only [s.d1, s.el, eI, ug0, dI_n, cond_true]
    refine s.step ⟨by simp, ?_, fun y hy => ?_⟩
    · split <;> simp [hm]
    · rcases List.mem_append.1 hy with hy | hy
      · have := hle y hy; split <;> omega
      · simp at hy; subst hy; split <;> omega
theorem pCat_S (hc : c.Rg) (k : Q (.i (catE c)) []) : PRun Tryz.prog 45 [] [aC c] Q := by
  refine S45 (sizes_S hc fun b hb => ?_)
  rw [post_B]
  unfold catE at k
  refine cNot (cB (fun h => pPairs_S hc ?_) fun h => ?_)
  rotate_left
  · rwa [if_neg (fun z => by rw [hb.2 z] at h; cases h)] at k
  have z := hb.1 h
  rw [if_pos z] at k
  rw [post_L]
  refine pDeep_S ?_
  rw [post_LI]
  refine cNe (fun h => by rwa [if_pos h] at k) fun h => ?_
  rw [if_neg (by simpa using h)] at k
  obtain ⟨hg, hl, e⟩ := deep_len h
  have ht := inn_iff.1 z.types
  rw [e]
  refine max_S (fun h0 => by rw [h0] at hl; simp at hl; omega) (by omega) fun m hm hle => ?_
  rw [post_I]
  refine cIf (fun h => ?_) fun h => ?_
  · rwa [if_pos ⟨m, hm, h⟩] at k
  · rwa [if_neg (fun ⟨d, hd, h8⟩ => by have := hle d hd; omega)] at k
theorem rCat_S (hc : c.Rg) (k : Q (.i (catE c)) []) : PRun Tryz.prog 54 [] [aC c] Q := by
  have hnb := hc.nb
  have hny := hc.ny
  unfold catE at k
  have bad : ¬ c.Sz → Q (.i 1) [] := fun h => by rwa [if_neg h] at k
  refine S54 (in4_S ?_)
  rw [post_B]
  refine cNot (cB (fun n1 => in4_S ?_) fun h => bad fun z => by rw [z.types] at h; cases h)
  rw [post_B]
  refine cNot (cB (fun n2 => in4_S ?_) fun h => bad fun z => by rw [z.places] at h; cases h)
  rw [post_B]
  refine cNot (cB (fun n3 => ?_) fun h => bad fun z => by rw [z.chars] at h; cases h)
  simp only [List.length_map]
  refine cIf (fun h => bad fun z => by have := z.nb; omega) fun n4 => cIf (fun h => bad fun z => by have := z.ny; omega) fun n5 => rFee_S ?_
  rw [post_I]
  refine cNe (fun h => bad fun z => h (by rw [if_pos z.fee])) fun hf => ?_
  refine ⟨AtI c.blues fun t _ => ∀ b ∈ t, blueE b c.types = 0, SufM c.blues, .zero (by omega) (by simp), ?_⟩
  rintro x ⟨t, _ | ⟨b, l⟩, s, ht⟩
  case cons =>
    have hm : b ∈ c.blues := by rw [s.e]; simp
    rw [show (c.blues.length : Int) = ((c.blues.map eB).length : Int) by simp]
    simp only [s.d1, s.el, eB, ug0, ugs, dI_n, dL_l, cond_true]
    refine rBlue_S (hc.b b hm) ?_
    rw [post_I]
    refine cNe (fun h => bad fun z => h (z.bl b hm)) fun h => s.step fun u hu => ?_
    rcases List.mem_append.1 hu with hu | hu
    · exact ht u hu
    · simp at hu; subst hu; exact h
  rw [s.all] at ht
  rw [show (c.blues.length : Int) = ((c.blues.map eB).length : Int) by simp, s.d0, cond_false]
  refine ⟨AtI c.bays fun t _ => ∀ y ∈ t, bayOK c y, SufM c.bays, .zero (by omega) (by simp), ?_⟩
  rintro x ⟨t2, _ | ⟨y, l⟩, s, ht2⟩
  case cons =>
    have hm : y ∈ c.bays := by rw [s.e]; simp
    rw [show (c.bays.length : Int) = ((c.bays.map eY).length : Int) by simp]
    simp only [s.d1, s.el, eY, ug0, ugs, dI_n, dL_l, cond_true]
    refine in4_S ?_
    rw [post_B]
    refine cNot (cB (fun o1 => in4_S ?_) fun h => bad fun z => by rw [(z.by' y hm).1] at h; cases h)
    rw [post_B]
    refine cNot (cB (fun o2 => in4_S ?_) fun h => bad fun z => by rw [(z.by' y hm).2.1] at h; cases h)
    rw [post_B]
    refine cNot (cB (fun o3 => in4_S ?_) fun h => bad fun z => by rw [(z.by' y hm).2.2.1] at h; cases h)
    rw [post_B]
    refine cNot (cB (fun o4 => s.step fun u hu => ?_) fun h => bad fun z => by rw [(z.by' y hm).2.2.2] at h; cases h)
    rcases List.mem_append.1 hu with hu | hu
    · exact ht2 u hu
    · simp at hu; subst hu; exact ⟨o1, o2, o3, o4⟩
  rw [s.all] at ht2
  rw [show (c.bays.length : Int) = ((c.bays.map eY).length : Int) by simp, s.d0, cond_false]
  have z : c.Sz := ⟨n1, n2, n3, by omega, by omega, ht, ht2, by split at hf <;> first | assumption | cases hf⟩
  rw [if_pos z] at k
  refine rPairs_S hc ?_
  rw [post_L]
  refine rDeep_S (by have := pairsL_len c.blues hc.b; omega) ?_
  rw [post_LI]
  refine cNe (fun h => by rwa [if_pos h] at k) fun h => ?_
  rw [if_neg (by simpa using h)] at k
  obtain ⟨hg, hl, e⟩ := deep_len h
  have ht := inn_iff.1 z.types
  rw [e]
  refine ⟨AtI (deepL c.types (pairsL c.blues)) fun t _ => ∀ d ∈ t, ¬ 8 < d, SufM (deepL c.types (pairsL c.blues)), .zero (by omega) (by simp), ?_⟩
  rintro x ⟨t3, _ | ⟨d, l⟩, s, ht3⟩
  · rw [s.all] at ht3
    rw [s.d0]
    rwa [if_neg (fun ⟨d, hd, h8⟩ => ht3 d hd h8)] at k
  · simp only [s.d1, s.el, eI, ug0, dI_n, cond_true]
    refine cIf (fun h => ?_) fun h => s.step fun u hu => ?_
    · rwa [if_pos ⟨d, by rw [s.e]; simp, h⟩] at k
    · rcases List.mem_append.1 hu with hu | hu
      · exact ht3 u hu
      · simp at hu; subst hu; exact h
end Go.Proofs.YtljgfkiiikcaaaaGreat

/- Bills: may it be asked; runs; how long all take: the code's and the document's. -/
set_option linter.unusedVariables false
namespace Go.Proofs.YtljgfkiiikcaaaaGreat
open Go Go.Proofs
variable {Q : V → Mem → Prop} {c : Cat}

open Classical in
noncomputable def mayE (c : Cat) (kind level : Int) (l : List Stk) : Int := if catE c ≠ 0 then catE c else if inn kind 1 c.types = true ∧ inn level 0 10 = true then chkE l c.types else 1
theorem checks_S {kind level : Int} {l : List Stk} (hc : c.Rg) (hl : l.length ≤ 1000) (k : Q (.i (mayE c kind level l)) []) : PRun Tryz.prog 17 [] [aC c, .i kind, .i level, .l 2 (l.map eS)] Q := by
  unfold mayE at k
  refine S17 (pCat_S hc ?_)
  rw [post_I]
  refine cNe (fun h => by rwa [if_pos h] at k) fun h => in1_S ?_
  rw [if_neg (by simpa using h)] at k
  rw [post_B]
  refine cNot (cB (fun h1 => in1_S ?_) fun h1 => by rwa [if_neg (by simp [h1])] at k)
  rw [post_B]
  refine cNot (cB (fun h2 => pCheck_S (by omega) ?_) fun h2 => by rwa [if_neg (by simp [h2])] at k)
  rw [post_I]
  rwa [if_pos ⟨h1, h2⟩] at k
theorem rmay_S {kind level : Int} {l : List Stk} (hc : c.Rg) (hr : rng l) (hl : l.length ≤ 1000) (k : Q (.i (mayE c kind level l)) []) : PRun Tryz.prog 26 [] [aC c, .i kind, .i level, .l 2 (l.map eS)] Q := by
  unfold mayE at k
  simp only [inn_iff] at k
  refine S26 (rCat_S hc ?_)
  rw [post_I]
  refine cNe (fun h => by rwa [if_pos h] at k) fun h => ?_
  rw [if_neg (by simpa using h)] at k
  have bad : ¬ ((1 ≤ kind ∧ kind ≤ c.types) ∧ 0 ≤ level ∧ level ≤ 10) → Q (.i 1) [] := fun h => by rwa [if_neg h] at k
  refine cIf (fun h => bad (by omega)) fun h1 => cIf (fun h => bad (by omega)) fun h2 => cIf (fun h => bad (by omega)) fun h3 => cIf (fun h => bad (by omega)) fun h4 => rCheck_S hr hl ?_
  rw [if_pos (by omega)] at k
  rw [post_I]
  refine cNe (fun h => ?_) fun h => ?_
  · rwa [(chkE_01 l c.types).resolve_left h] at k
  · rwa [h] at k
def runsOK (c : Cat) (l : List Int) : Prop := l.length = c.blues.length ∧ ∀ n ∈ l, inn n 0 1000 = true
theorem areRuns_S {l : List Int} (hl : l.length ≤ 1000000) (k : ∀ b : Bool, (b = true ↔ runsOK c l) → Q (.u (.b b)) []) : PRun Tryz.prog 41 [] [aC c, .l 1 (l.map eI)] Q := by
  refine S41 (cEq (fun h => ?_) fun h => k false (by simp [runsOK]; intro e; simp [e] at h))
  simp only [List.length_map] at h
  refine ⟨AtI l fun t _ => ∀ n ∈ t, inn n 0 1000 = true, SufM l, .zero (by omega) (by simp), ?_⟩
  rintro x ⟨t, _ | ⟨a, l'⟩, s, ht⟩
  · rw [s.all] at ht
    rw [s.d0]; exact k true (by simp; exact ⟨by omega, ht⟩)
  · simp only [s.d1, s.el, eI, ug0, dI_n, cond_true]
    refine in1_S ?_
    rw [post_B, decide_eq_true (show x ≥ 0 from s.suf.lt.1)]
    refine cNot (cB (fun o => s.step fun u hu => ?_) fun h => k false ?_)
    · rcases List.mem_append.1 hu with hu | hu
      · exact ht u hu
      · simp at hu; subst hu; exact o
    · simp only [Bool.false_eq_true, false_iff]
      exact fun r => by rw [r.2 a (by rw [s.e]; simp)] at h; cases h
theorem rRunsOK_S {l : List Int} (hl : l.length ≤ 1000000) (k : ∀ b : Bool, (b = true ↔ runsOK c l) → Q (.u (.b b)) []) : PRun Tryz.prog 37 [] [aC c, .l 1 (l.map eI)] Q := by
  refine S37 ⟨AtI l fun t _ => ∀ n ∈ t, inn n 0 1000 = true, SufM l, .zero (by omega) (by simp), ?_⟩
  rintro x ⟨t, _ | ⟨a, l'⟩, s, ht⟩
  · rw [s.all] at ht
    rw [s.d0]
    refine k _ ?_
    simp only [List.length_map, beq_iff_eq]
    exact ⟨fun h => ⟨by omega, ht⟩, fun h => by have := h.1; omega⟩
  · have hb : inn a 0 1000 = false → Q (.u (.b false)) [] := fun h => k false (by
      simp only [Bool.false_eq_true, false_iff]
      exact fun r => by rw [r.2 a (by rw [s.e]; simp)] at h; cases h)
    simp only [s.d1, s.el, eI, ug0, dI_n, cond_true]
    refine cIf (fun h => hb (by unfold inn; simp; omega)) fun h1 => cIf (fun h => hb (by unfold inn; simp; omega)) fun h2 => s.step fun u hu => ?_
    rcases List.mem_append.1 hu with hu | hu
    · exact ht u hu
    · simp at hu; subst hu; exact inn_iff.2 (by omega)
/-- How long each blueprint's runs take. -/
noncomputable def timeN (level : Int) (p : Int × Bl) : Int := if 0 < p.1 then (timeR p.2 level p.1).1 else 0
noncomputable def timesL (c : Cat) (runs : List Int) (level : Int) : List Int := (runs.zip c.blues).map (timeN level)
open Classical in
noncomputable def timesR (c : Cat) (kind : Int) (runs : List Int) (level : Int) : List Int × Int :=
  if mayE c kind level [] ≠ 0 then ([], mayE c kind level []) else if runsOK c runs then (timesL c runs level, 0) else ([], 1)
theorem zip_fst {α β : Type} : ∀ {a : List α} {b : List β}, a.length = b.length → (a.zip b).map (·.1) = a ∧ (a.zip b).map (·.2) = b
  | [], [], _ => ⟨rfl, rfl⟩
  | x :: a, y :: b, h => by
    have := zip_fst (a := a) (b := b) (by simpa using h)
    simp [this.1, this.2]
theorem times_S {kind level : Int} {runs : List Int} (hc : c.Rg) (hl : runs.length ≤ 1000000) (k : Q (vIE (timesR c kind runs level)) []) : PRun Tryz.prog 35 [] [aC c, .i kind, .l 1 (runs.map eI), .i level] Q := by
  unfold timesR at k
  refine S35 (checks_S (l := []) hc (by simp) ?_)
  rw [post_I]
  refine cNe (fun h => by rwa [if_pos h] at k) fun h => areRuns_S hl fun b hb => ?_
  rw [if_neg (by simpa using h)] at k
  rw [post_B]
  refine cNot (cB (fun h1 => ?_) fun h1 => by rwa [if_neg (fun r => by rw [hb.2 r] at h1; cases h1)] at k)
  have ro := hb.1 h1
  rw [if_pos ro] at k
  obtain ⟨e1, e2⟩ := zip_fst ro.1
  have hnb := hc.nb
  unfold timesL at k
  have hzm : ∀ p ∈ runs.zip c.blues, p.2 ∈ c.blues := fun p hp => (List.of_mem_zip hp).2
  have hzl : (runs.zip c.blues).length ≤ 500 := by rw [List.length_zip]; omega
  generalize runs.zip c.blues = z at *
  rw [← e1, ← e2]
  refine ⟨fun l x => AtI z (fun t _ => l = (t.map (timeN level)).map eI) x, fun _ => SufM z, .zero (by omega) rfl, ?_⟩
  rintro _ x ⟨t, _ | ⟨p, l⟩, s, rfl⟩
  · rw [List.map_map, s.d0, s.all]; exact k
  have htl := congrArg List.length s.e
  simp at htl
  simp only [List.map_map, s.d1, s.el, cond_true, Function.comp_apply, eI, eB, ug0, ugs, dI_n, dL_l]
  refine cIf (fun h => pTime_S (b := p.2) (hc.b _ (hzm p (by rw [s.e]; simp))) ?_) fun h => ⟨apOk_l (by simp; omega), s.step (by simp [timeN, h, eI])⟩
  rw [post_II]
  exact ⟨apOk_l (by simp; omega), s.step (by simp [timeN, h, eI])⟩
end Go.Proofs.YtljgfkiiikcaaaaGreat

/- How long all runs take: the code's and the document's. -/
set_option linter.unusedVariables false
namespace Go.Proofs.YtljgfkiiikcaaaaGreat
open Go Go.Proofs
variable {Q : V → Mem → Prop} {c : Cat}

def sumZ : List Int → Int
  | [] => 0
  | x :: l => x + sumZ l
theorem sumZ_snoc : ∀ (l : List Int) (x : Int), sumZ (l ++ [x]) = sumZ l + x
  | [], x => by simp [sumZ]
  | y :: l, x => by simp only [List.cons_append, sumZ, sumZ_snoc l x]; omega
theorem sumZ_bd {l : List Int} {B : Int} (h : ∀ y ∈ l, 0 ≤ y ∧ y ≤ B) (hB : 0 ≤ B) : 0 ≤ sumZ l ∧ sumZ l ≤ l.length * B := by
  induction l with
  | nil => simp [sumZ]
  | cons x l ih =>
    have h1 := h x (by simp)
    have h2 := ih fun y hy => h y (by simp [hy])
    simp only [sumZ, List.length_cons]
    rw [show ((l.length + 1 : Nat) : Int) * B = l.length * B + B by rw [Int.natCast_add, Int.add_mul]; simp]
    omega
theorem add_S {a b : Int} (ha : 0 ≤ a) (hb : 0 ≤ b) (h : a + b ≤ 9223372036854775807) (k : Q (.t [.i (a + b), .i 0]) []) : PRun Tryz.prog 64 [] [.i a, .i b] Q := by
  refine S64 ?_
  rw [w64 (x := a + b) (by omega) (by omega), decide_eq_true (show a ≥ 0 from ha), decide_eq_true (show b ≥ 0 from hb), decide_eq_true (show a + b ≥ 0 by omega)]
  exact k
theorem sum_S {l : List Int} (h : ∀ y ∈ l, 0 ≤ y ∧ y ≤ 1048576000) (hl : l.length ≤ 1000000) (k : Q (.t [.i (sumZ l), .i 0]) []) : PRun Tryz.prog 39 [] [.l 1 (l.map eI)] Q := by
  refine S39 ⟨fun n x => AtI l (fun t _ => n = sumZ t) x, fun _ => SufM l, .zero (by omega) rfl, ?_⟩
  rintro _ x ⟨t, _ | ⟨a, l'⟩, s, rfl⟩
  · rw [s.d0, s.all]; exact k
  have ht := sumZ_bd (l := t) (fun y hy => h y (by rw [s.e]; simp [hy])) (by decide)
  have ha := h a (by rw [s.e]; simp)
  have htl := congrArg List.length s.e
  simp at htl
  simp only [s.d1, s.el, eI, ug0, dI_n, cond_true]
  refine add_S ht.1 ha.1 (by omega) ?_
  rw [post_II]
  exact cNe (fun h => absurd rfl h) fun _ => s.step (sumZ_snoc t a).symm
theorem timeN_bd {level : Int} (p : Int × Bl) : 0 ≤ timeN level p ∧ timeN level p ≤ 1048576000 := by
  unfold timeN
  split
  · unfold timeR
    split
    · rename_i h
      obtain ⟨⟨h1, h2⟩, h3⟩ := h
      have ok := (blueE_ok.1 h1).time
      rw [inn_iff] at h2 h3
      have := time_bd ok h3 h2
      simp only [upI_100]
      omega
    · simp
  · simp
open Classical in
noncomputable def wholeR (c : Cat) (runs : List Int) (level : Int) : Int × Int :=
  if mayE c 1 level [] ≠ 0 then (0, mayE c 1 level []) else if runsOK c runs then (sumZ (timesL c runs level), 0) else (0, 1)
theorem timesL_bd {runs : List Int} {level : Int} : ∀ y ∈ timesL c runs level, 0 ≤ y ∧ y ≤ 1048576000 := by
  intro y hy
  obtain ⟨p, -, rfl⟩ := List.mem_map.1 hy
  exact timeN_bd p
theorem pWhole_S {level : Int} {runs : List Int} (hc : c.Rg) (hl : runs.length ≤ 1000000) (k : Q (vII (wholeR c runs level)) []) : PRun Tryz.prog 12 [] [aC c, .l 1 (runs.map eI), .i level] Q := by
  refine S12 (times_S hc hl ?_)
  rw [post_LI]
  unfold wholeR at k
  unfold timesR
  by_cases h : mayE c 1 level [] ≠ 0
  · rw [if_pos h] at k ⊢
    exact cNe (fun _ => k) fun h2 => absurd h2 h
  · rw [if_neg h] at k ⊢
    by_cases h1 : runsOK c runs
    · rw [if_pos h1] at k ⊢
      refine cNe (fun h => absurd rfl h) fun _ => sum_S timesL_bd (by unfold timesL; rw [List.length_map, List.length_zip]; omega) ?_
      rw [post_II]; exact k
    · rw [if_neg h1] at k ⊢
      exact cNe (fun _ => k) fun h2 => by cases h2
theorem rWhole_S {level : Int} {runs : List Int} (hc : c.Rg) (hl : runs.length ≤ 1000000) (k : Q (vII (wholeR c runs level)) []) : PRun Tryz.prog 13 [] [aC c, .l 1 (runs.map eI), .i level] Q := by
  unfold wholeR at k
  refine S13 (rmay_S (l := []) hc (by intro s hs; cases hs) (by simp) ?_)
  rw [post_I]
  refine cNe (fun h => by rwa [if_pos h] at k) fun h => rRunsOK_S hl fun b hb => ?_
  rw [if_neg (by simpa using h)] at k
  rw [post_B]
  refine cNot (cB (fun h1 => ?_) fun h1 => by rwa [if_neg (fun r => by rw [hb.2 r] at h1; cases h1)] at k)
  have ro := hb.1 h1
  rw [if_pos ro] at k
  obtain ⟨e1, e2⟩ := zip_fst ro.1
  have hnb := hc.nb
  unfold timesL at k
  have hzm : ∀ p ∈ runs.zip c.blues, p.2 ∈ c.blues := fun p hp => (List.of_mem_zip hp).2
  have hzl : (runs.zip c.blues).length ≤ 500 := by rw [List.length_zip]; omega
  generalize runs.zip c.blues = z at *
  rw [← e1, ← e2]
  refine ⟨fun n x => AtI z (fun t _ => n = sumZ (t.map (timeN level))) x, fun _ => SufM z, .zero (by omega) rfl, ?_⟩
  rintro _ x ⟨t, _ | ⟨p, l⟩, s, rfl⟩
  · rw [List.map_map, s.d0, s.all]; exact k
  have htl := congrArg List.length s.e
  simp at htl
  have hs := sumZ_bd (l := t.map (timeN level)) (B := 1048576000) (fun y hy => by obtain ⟨q, -, rfl⟩ := List.mem_map.1 hy; exact timeN_bd q) (by decide)
  have hp := timeN_bd (level := level) p
  rw [List.length_map] at hs
  simp only [List.map_map, s.d1, s.el, cond_true, Function.comp_apply, eI, eB, ug0, ugs, dI_n, dL_l]
  refine cIf (fun h => rTime_S (b := p.2) (hc.b _ (hzm p (by rw [s.e]; simp))) ?_) fun h => s.step (by rw [List.map_append, List.map_singleton, sumZ_snoc]; simp [timeN, h])
  rw [post_II]
  have e : timeN level p = (timeR p.2 level p.1).1 := by unfold timeN; rw [if_pos h]
  rw [← e, w64 (x := sumZ (t.map (timeN level)) + timeN level p) (by omega) (by omega)]
  exact s.step (by rw [List.map_append, List.map_singleton, sumZ_snoc])
end Go.Proofs.YtljgfkiiikcaaaaGreat

/- The longest way to a type. Plain facts of catalogues that may be. -/
set_option linter.unusedVariables false
namespace Go.Proofs.YtljgfkiiikcaaaaGreat
open Go Go.Proofs
variable {Q : V → Mem → Prop} {c : Cat}

/-- What is known of a catalogue that may be. -/
structure CatOK (c : Cat) (out : List Int) : Prop where
  sz : c.Sz
  g : Greedy (pairsL c.blues) c.types out
  r : orderR c.types (pairsL c.blues) = (out, 0)
  all : ∀ t, 1 ≤ t → t ≤ c.types → t ∈ out
theorem cat_ok (h : catE c = 0) : ∃ out, CatOK c out := by
  unfold catE at h
  split at h
  rotate_left
  · cases h
  rename_i z
  split at h
  · rename_i h2; exact absurd h h2
  rename_i h2
  have h2 : (deepR c.types (pairsL c.blues)).2 = 0 := by simpa using h2
  have h1 : (orderR c.types (pairsL c.blues)).2 = 0 := by
    unfold deepR at h2
    by_cases h3 : (orderR c.types (pairsL c.blues)).2 = 0
    · exact h3
    · rw [if_neg h3] at h2; exact h2
  obtain ⟨hg, -, -⟩ := deep_len h2
  unfold orderR at h1
  rw [if_pos hg] at h1
  split at h1
  · cases h1
  rename_i hl
  have ht := inn_iff.1 z.types
  by_cases hex : ∃ out, Greedy (pairsL c.blues) c.types out ∧ ∀ k, ¬ Nx1 (pairsL c.blues) c.types out k
  rotate_left
  · have h0 : ordG c.types (pairsL c.blues) = [] := by unfold ordG; rw [dif_neg hex]
    rw [h0] at hl; simp at hl; omega
  obtain ⟨out, G, N⟩ := hex
  have eG := ordG_eq G N
  rw [eG] at hl
  refine ⟨out, z, G, by unfold orderR; rw [if_pos hg, eG, if_neg hl], fun t h1 h2 => ?_⟩
  apply Decidable.byContradiction
  intro hn
  have hd : (out ++ [t]).Nodup := List.nodup_append.2 ⟨G.nodup, by simp, fun a ha b hb e => by simp at hb; subst hb; subst e; exact hn ha⟩
  have := nodup_len hd (fun x hx => by
    rcases List.mem_append.1 hx with hx | hx
    · exact G.mem x hx
    · simp at hx; subst hx; exact ⟨h1, h2⟩) (by omega)
  simp at this
  omega
theorem maker_get {l : List Bl} {t : Int} : maker l t = 0 ∨ ∃ (i : Nat) (b : Bl), maker l t = i + 1 ∧ l[i]? = some b ∧ b.makes = t := by
  unfold maker
  have key : ∀ (l : List Bl) (k : Nat), fstI (fun b => b.makes == t) l k = -1 ∨ ∃ (i : Nat) (b : Bl), fstI (fun b => b.makes == t) l k = ((k + i : Nat) : Int) ∧ l[i]? = some b ∧ b.makes = t := by
    intro l
    induction l with
    | nil => intro k; exact .inl rfl
    | cons x l ih =>
      intro k
      simp only [fstI]
      by_cases h : x.makes = t
      · exact .inr ⟨0, x, by simp [h], rfl, h⟩
      · rw [if_neg (by simpa using h)]
        rcases ih (k + 1) with h1 | ⟨i, b, h1, h2, h3⟩
        · exact .inl h1
        · exact .inr ⟨i + 1, b, by rw [h1]; congr 1; omega, by simpa using h2, h3⟩
  rcases key l 0 with h | ⟨i, b, h1, h2, h3⟩
  · exact .inl (by rw [h]; rfl)
  · exact .inr ⟨i, b, by rw [h1]; simp, h2, h3⟩
theorem pair_mem {l : List Bl} {b : Bl} {s : Stk} (hb : b ∈ l) (hs : s ∈ b.needs) : (b.makes, s.1) ∈ pairsL l := List.mem_flatMap.2 ⟨b, hb, List.mem_map.2 ⟨s, hs, rfl⟩⟩

/- ## Ways -/
/-- The longest of some, and one. -/
def maxF (f : Int → Int) : Int → List Stk → Int
  | x, [] => x
  | x, s :: l => maxF f (max x (f s.1)) l
theorem maxF_snoc (f : Int → Int) : ∀ (x : Int) (l : List Stk) (s : Stk), maxF f x (l ++ [s]) = max (maxF f x l) (f s.1)
  | x, [], s => rfl
  | x, a :: l, s => maxF_snoc f _ l s
theorem maxF_congr {f g : Int → Int} : ∀ {l : List Stk} {x : Int}, (∀ s ∈ l, f s.1 = g s.1) → maxF f x l = maxF g x l
  | [], _, _ => rfl
  | a :: l, x, h => by simp only [maxF, h a (by simp)]; exact maxF_congr fun s hs => h s (by simp [hs])
theorem maxF_bd {f : Int → Int} {B : Int} : ∀ (l : List Stk) (x : Int), 0 ≤ x → x ≤ B → (∀ s ∈ l, f s.1 ≤ B) → 0 ≤ maxF f x l ∧ maxF f x l ≤ B := by
  intro l
  induction l with
  | nil => intro x h1 h2 _; exact ⟨h1, h2⟩
  | cons a l ih =>
    intro x h1 h2 h
    have := h a (by simp)
    exact ih _ (by omega) (by omega) fun s hs => h s (by simp [hs])
/-- How long a type takes, by how long its needs take. -/
noncomputable def wayE (c : Cat) (runs : List Int) (level : Int) (f : Int → Int) (t : Int) : Int :=
  if maker c.blues t = 0 then 0 else
    match (runs.zip c.blues)[(maker c.blues t - 1).toNat]? with
    | none => 0
    | some p => if p.1 = 0 then 0 else (timeR p.2 level p.1).1 + maxF f 0 p.2.needs
def WayF (c : Cat) (runs : List Int) (level : Int) (f : Int → Int) : Prop := ∀ t, 1 ≤ t → t ≤ c.types → f t = wayE c runs level f t
theorem wayE_congr {runs : List Int} {level t : Int} {f g : Int → Int} (h : ∀ i b, maker c.blues t = ((i : Nat) : Int) + 1 → c.blues[i]? = some b → ∀ s ∈ b.needs, f s.1 = g s.1) : wayE c runs level f t = wayE c runs level g t := by
  unfold wayE
  by_cases hm : maker c.blues t = 0
  · rw [if_pos hm, if_pos hm]
  · rw [if_neg hm, if_neg hm]
    rcases maker_get (l := c.blues) (t := t) with h0 | ⟨i, b, h1, h2, h3⟩
    · exact absurd h0 hm
    rw [h1, show (((i : Int) + 1 - 1).toNat) = i by omega]
    cases hz : (runs.zip c.blues)[i]? with
    | none => rfl
    | some p =>
      have hp : p.2 = b := by
        rw [List.getElem?_zip_eq_some] at hz
        rw [h2] at hz
        exact (Option.some.inj hz.2).symm
      simp only
      rw [hp, maxF_congr (h i b h1 h2)]
end Go.Proofs.YtljgfkiiikcaaaaGreat

/- The longest way to a type: the document's. -/
set_option linter.unusedVariables false
namespace Go.Proofs.YtljgfkiiikcaaaaGreat
open Go Go.Proofs
variable {Q : V → Mem → Prop} {c : Cat} {out t l : List Int} {a : Int} {runs : List Int} {level : Int} {f : Int → Int}

theorem CatOK.needs (h : CatOK c out) (e : out = t ++ a :: l) {b : Bl} (hb : b ∈ c.blues) (hm : b.makes = a) : ∀ s ∈ b.needs, s.1 ∈ t := by
  intro s hs
  have g := h.g.take (t.length + 1)
  rw [e, show t ++ a :: l = (t ++ [a]) ++ l by simp, List.take_left' (by simp)] at g
  exact g.inv.2.1.2.2.2 _ (pair_mem hb hs) hm
theorem zip_get {α β : Type} {x : List α} {y : List β} {i : Nat} {b : β} (h : x.length = y.length) (hb : y[i]? = some b) : ∃ n, x[i]? = some n ∧ (x.zip y)[i]? = some (n, b) := by
  have hi : i < x.length := by have := (List.getElem?_eq_some_iff.1 hb).1; omega
  exact ⟨x[i], List.getElem?_eq_getElem hi, List.getElem?_zip_eq_some.2 ⟨List.getElem?_eq_getElem hi, hb⟩⟩
theorem wayE_eq {t : Int} {i : Nat} {b : Bl} {n : Int} (ro : runsOK c runs) (hm : maker c.blues t = i + 1) (hb : c.blues[i]? = some b) (hn : runs[i]? = some n) :
    wayE c runs level f t = if n = 0 then 0 else (timeR b level n).1 + maxF f 0 b.needs := by
  obtain ⟨n', h1, h2⟩ := zip_get ro.1 hb
  rw [hn] at h1
  cases h1
  unfold wayE
  rw [hm, if_neg (by omega), show (((i : Int) + 1 - 1).toNat) = i by omega, h2]
theorem time_le {b : Bl} {n : Int} : 0 ≤ (timeR b level n).1 ∧ (timeR b level n).1 ≤ 1048576000 := by
  by_cases h : 0 < n
  · have := timeN_bd (level := level) (n, b)
    unfold timeN at this
    rwa [if_pos h] at this
  · unfold timeR
    rw [if_neg]
    · simp
    · rintro ⟨-, h2⟩
      rw [inn_iff] at h2
      omega
/-- Ways are no longer than so. -/
theorem way_bd (h : CatOK c out) (ro : runsOK c runs) (hf : WayF c runs level f) : ∀ (n : Nat) (t l : List Int) (a : Int), t.length = n → out = t ++ a :: l → 0 ≤ f a ∧ f a ≤ 1048576000 * (n + 1) := by
  intro n
  induction n using Nat.strongRecOn with
  | _ n ih =>
    intro t l a hn e
    have ha := h.g.mem a (by rw [e]; simp)
    rw [hf a ha.1 ha.2]
    rcases maker_get (l := c.blues) (t := a) with h0 | ⟨i, b, h1, h2, h3⟩
    · unfold wayE; rw [if_pos h0]; omega
    obtain ⟨m, hm, -⟩ := zip_get ro.1 h2
    rw [wayE_eq ro h1 h2 hm]
    split
    · omega
    have hb := List.mem_of_getElem? h2
    have := maxF_bd (f := f) (B := 1048576000 * n) b.needs 0 (Int.le_refl _) (by omega) fun s hs => by
      have hst := h.needs e hb h3 s hs
      obtain ⟨t', l', rfl⟩ := List.append_of_mem hst
      have hlt : t'.length < n := by rw [← hn]; simp
      have := ih t'.length hlt t' (l' ++ a :: l) s.1 rfl (by rw [e]; simp)
      omega
    have := time_le (level := level) (b := b) (n := m)
    omega
theorem rpath_S (hc : c.Rg) (h : CatOK c out) (ro : runsOK c runs) (hl : runs.length ≤ 1000000) (hf : WayF c runs level f) : ∀ (n : Nat) (t l : List Int) (a : Int), t.length = n → out = t ++ a :: l → ∀ {Q : V → Mem → Prop}, Q (.i (f a)) [] → PRun Tryz.prog 38 [] [aC c, .i a, .l 1 (runs.map eI), .i level] Q := by
  intro n
  induction n using Nat.strongRecOn with
  | _ n ih =>
    intro t l a hn e Q k
    have ha := h.g.mem a (by rw [e]; simp)
    have hbd := way_bd h ro hf n t l a hn e
    have hty := inn_iff.1 h.sz.types
    have hol := nodup_len h.g.nodup h.g.mem (by omega)
    have hnl : (n : Int) ≤ 32 := by have := congrArg List.length e; simp at this; omega
    refine S38 (rMaker_S hc ?_)
    rw [post_I]
    rw [hf a ha.1 ha.2] at k hbd
    rcases maker_get (l := c.blues) (t := a) with h0 | ⟨i, b, h1, h2, h3⟩
    · rw [h0]
      unfold wayE at k; rw [if_pos h0] at k
      exact k
    have hb := List.mem_of_getElem? h2
    have hil := (List.getElem?_eq_some_iff.1 h2).1
    have hnb := hc.nb
    obtain ⟨m, hm, -⟩ := zip_get ro.1 h2
    rw [wayE_eq ro h1 h2 hm] at k hbd
    rw [h1]
    refine cEq (fun h => by omega) fun _ => ?_
    rw [w64 (x := (i : Int) + 1 - 1) (by omega) (by omega), show (i : Int) + 1 - 1 = i by omega, elI (y := m) (by omega) (by simpa using hm)]
    refine cEq (fun h => by rwa [if_pos h] at k) fun hm0 => ?_
    rw [if_neg hm0] at k hbd
    rw [elL_of (r := eB b) (by omega) (by simp [h2])]
    simp only [eB, ug0, ugs, dI_n, dL_l]
    refine ⟨fun y x => AtI b.needs (fun t2 _ => y = maxF f 0 t2) x, fun _ => SufM b.needs, .zero (by have := (hc.b b hb).n; omega) rfl, ?_⟩
    rintro _ x ⟨t2, _ | ⟨s, l2⟩, w, rfl⟩
    · rw [w.d0, w.all, cond_false, elI (y := m) (by omega) (by simpa using hm)]
      refine rTime_S (b := b) (hc.b b hb) ?_
      rw [post_II, w64 (by omega) (by omega)]
      exact k
    · simp only [w.d1, w.el, eS, ug0, dI_n, cond_true]
      have hst := h.needs e hb h3 s (by rw [w.e]; simp)
      obtain ⟨t', l', rfl⟩ := List.append_of_mem hst
      have hlt : t'.length < n := by rw [← hn]; simp
      refine ih t'.length hlt t' (l' ++ a :: l) s.1 rfl (by rw [e]; simp) ?_
      rw [post_I]
      refine w.step ?_
      rw [maxF_snoc]
      split <;> omega
end Go.Proofs.YtljgfkiiikcaaaaGreat

/- The longest way to a type: the code's. -/
set_option linter.unusedVariables false
namespace Go.Proofs.YtljgfkiiikcaaaaGreat
open Go Go.Proofs
variable {Q : V → Mem → Prop} {c : Cat} {out : List Int} {runs : List Int} {level : Int}

/-- What an array says of a type. -/
def atA (A : List Int) (t : Int) : Int := A.getD t.toNat 0
structure WayA (c : Cat) (runs : List Int) (level : Int) (out t : List Int) (A : List Int) : Prop where
  len : A.length = 33
  done : ∀ u ∈ t, atA A u = wayE c runs level (atA A) u
  zero : ∀ u, u ∉ t → 0 ≤ u → atA A u = 0
  bd : ∀ u, 0 ≤ atA A u ∧ atA A u ≤ 1048576000 * t.length
theorem atA_set {A : List Int} {a u v : Int} (hA : A.length = 33) (ha : 0 ≤ a) (ha2 : a < 33) (hu : 0 ≤ u) : atA (A.set a.toNat v) u = if u = a then v else atA A u := by
  unfold atA
  rw [List.getD_eq_getElem?_getD, List.getD_eq_getElem?_getD]
  by_cases h : u = a
  · subst h; rw [if_pos rfl, List.getElem?_set_self (by omega)]; rfl
  · rw [if_neg h, List.getElem?_set_ne (by omega)]
theorem elA {A : List Int} {i : Int} {K : Int → Prop} (hA : A.length = 33) (h0 : 0 ≤ i) (h : i < 33) : elL A i K = K (atA A i) := elL_of h0 (get_getD (by omega))
theorem set_same {A : List Int} {k : Nat} (h : A.getD k 0 = 0) : A.set k 0 = A := by
  apply List.ext_getElem?
  intro j
  by_cases hj : j = k
  · subst hj
    by_cases hl : j < A.length
    · rw [List.getElem?_set_self hl, get_getD hl, h]
    · rw [List.getElem?_eq_none (by simpa using hl), List.getElem?_eq_none (by omega)]
  · rw [List.getElem?_set_ne (by omega)]
theorem WayA.put {t l : List Int} {a : Int} {A : List Int} {v : Int} (co : CatOK c out) (e : out = t ++ a :: l) (w : WayA c runs level out t A) (hv : v = wayE c runs level (atA A) a) (hb : 0 ≤ v ∧ v ≤ 1048576000 * (t.length + 1)) : WayA c runs level out (t ++ [a]) (A.set a.toNat v) := by
  have hty := inn_iff.1 co.sz.types
  have hm : ∀ u ∈ out, 1 ≤ u ∧ u ≤ c.types := co.g.mem
  have ha := hm a (by rw [e]; simp)
  have hat : a ∉ t := fun h => by
    have := co.g.nodup
    rw [e, List.nodup_append] at this
    exact this.2.2 a h a (by simp) rfl
  have key : ∀ u t' l', out = t' ++ u :: l' → (∀ x ∈ t', x ∈ t) → wayE c runs level (atA A) u = wayE c runs level (atA (A.set a.toNat v)) u := by
    intro u t' l' e' hs
    refine wayE_congr fun i b h1 h2 s hsb => ?_
    have hb := List.mem_of_getElem? h2
    have hbm : b.makes = u := by
      rcases maker_get (l := c.blues) (t := u) with h0 | ⟨i', b', h1', h2', h3'⟩
      · omega
      · have : i' = i := by omega
        subst this; rw [h2] at h2'; cases h2'; exact h3'
    have hst := hs _ (co.needs e' hb hbm s hsb)
    have hs1 := hm s.1 (by rw [e]; simp [hst])
    rw [atA_set w.len (by omega) (by omega) (by omega), if_neg (by intro h; rw [h] at hst; exact hat hst)]
  refine ⟨by rw [List.length_set]; exact w.len, fun u hu => ?_, fun u hu h0 => ?_, fun u => ?_⟩
  · rcases List.mem_append.1 hu with hu | hu
    · have hu1 := hm u (by rw [e]; simp [hu])
      obtain ⟨t', l', rfl⟩ := List.append_of_mem hu
      rw [atA_set w.len (by omega) (by omega) (by omega), if_neg (by rintro rfl; exact hat (by simp)), w.done u hu]
      exact key u t' (l' ++ a :: l) (by rw [e]; simp) fun x hx => by simp [hx]
    · simp at hu; subst hu
      rw [atA_set w.len (by omega) (by omega) (by omega), if_pos rfl]
      exact hv.trans (key u t l e fun x hx => hx)
  · simp at hu
    rw [atA_set w.len (by omega) (by omega) h0, if_neg hu.2]
    exact w.zero u hu.1 h0
  · have := w.bd u
    by_cases hu : 0 ≤ u
    · rw [atA_set w.len (by omega) (by omega) hu]
      split
      · simp; omega
      · simp; omega
    · have h0 : u.toNat = 0 := by omega
      have e0 : atA (A.set a.toNat v) u = atA A u := by
        unfold atA
        rw [h0, List.getD_eq_getElem?_getD, List.getD_eq_getElem?_getD, List.getElem?_set_ne (by omega)]
      rw [e0]; simp; omega
theorem pPath_S {kind : Int} (hc : c.Rg) (hl : runs.length ≤ 1000000) (kbad : mayE c kind level [] ≠ 0 → Q (vII (0, mayE c kind level [])) []) (kbad2 : mayE c kind level [] = 0 → ¬ runsOK c runs → Q (vII (0, 1)) [])
    (k : mayE c kind level [] = 0 → runsOK c runs → ∀ out, CatOK c out → ∀ A, WayA c runs level out out A → Q (vII (atA A kind, 0)) []) : PRun Tryz.prog 10 [] [aC c, .i kind, .l 1 (runs.map eI), .i level] Q := by
  refine S10 (times_S hc hl ?_)
  rw [post_LI]
  unfold timesR
  by_cases h : mayE c kind level [] ≠ 0
  · rw [if_pos h]; exact cNe (fun _ => kbad h) fun h2 => absurd h2 h
  rw [if_neg h]
  have h : mayE c kind level [] = 0 := by simpa using h
  by_cases ro : runsOK c runs
  rotate_left
  · rw [if_neg ro]; exact cNe (fun _ => kbad2 h ro) fun h2 => by cases h2
  rw [if_pos ro]
  have k := k h ro
  refine cNe (fun h => absurd rfl h) fun _ => ?_
  have hcat : catE c = 0 := by
    unfold mayE at h
    by_cases h2 : catE c = 0
    · exact h2
    · rw [if_pos h2] at h; exact absurd h h2
  have hk := h
  unfold mayE at hk
  rw [if_neg (by simpa using hcat)] at hk
  split at hk
  rotate_left
  · cases hk
  rename_i hin
  obtain ⟨out, co⟩ := cat_ok hcat
  have hkb := inn_iff.1 hin.1
  have hty := inn_iff.1 co.sz.types
  have hnb := hc.nb
  have k := k out co
  refine pPairs_S hc ?_
  rw [post_L]
  refine pOrder_S ?_
  rw [co.r, post_LI]
  have hol := nodup_len co.g.nodup co.g.mem (by omega)
  refine ⟨fun x A => AtI out (fun t _ => WayA c runs level out t A) x, fun x _ => SufM out x, .zero (by omega) ⟨by simp, by simp, fun u _ _ => ?_, fun u => ?_⟩, ?_⟩
  · unfold atA; rw [List.getD_eq_getElem?_getD]; cases h : (List.replicate 33 (0 : Int))[u.toNat]? with
    | none => rfl
    | some y => rw [Option.getD_some]; exact List.eq_of_mem_replicate (List.mem_of_getElem? h)
  · unfold atA; rw [List.getD_eq_getElem?_getD]; cases h : (List.replicate 33 (0 : Int))[u.toNat]? with
    | none => simp
    | some y => rw [Option.getD_some, List.eq_of_mem_replicate (List.mem_of_getElem? h)]; simp
  rintro x A ⟨t, _ | ⟨a, l⟩, s, w⟩
  · rw [s.all] at w
    rw [s.d0, cond_false]
    refine ⟨by omega, by omega, ?_⟩
    rw [elA w.len (by omega) (by omega)]
    exact k A w
  have e := s.e
  have ha := co.g.mem a (by rw [e]; simp)
  have hat : a ∉ t := fun h => by
    have := co.g.nodup
    rw [e, List.nodup_append] at this
    exact this.2.2 a h a (by simp) rfl
  have htl := congrArg List.length e
  simp at htl
  have hz := w.zero a hat (by omega)
  have keep : wayE c runs level (atA A) a = 0 → WayA c runs level out (t ++ [a]) A := fun h0 => by
    have := w.put co e (v := 0) h0.symm (by omega)
    rwa [set_same hz] at this
  simp only [s.d1, s.el, eI, ug0, dI_n, cond_true]
  refine pMaker_S hc ?_
  rw [post_I]
  rcases maker_get (l := c.blues) (t := a) with h0 | ⟨i, b, h1, h2, h3⟩
  · rw [h0]
    exact cEq (fun _ => s.step (keep (by unfold wayE; rw [if_pos h0]))) fun h => absurd rfl h
  have hb := List.mem_of_getElem? h2
  have hil := (List.getElem?_eq_some_iff.1 h2).1
  obtain ⟨m, hm, hmz⟩ := zip_get ro.1 h2
  have hw := wayE_eq (level := level) (f := atA A) ro h1 h2 hm
  rw [h1]
  refine cEq (fun h => by omega) fun _ => ?_
  rw [w64 (x := (i : Int) + 1 - 1) (by omega) (by omega), show (i : Int) + 1 - 1 = i by omega, elI (y := m) (by omega) (by simpa using hm)]
  refine cEq (fun h => s.step (keep (by rw [hw, if_pos h]))) fun hm0 => ?_
  rw [if_neg hm0] at hw
  rw [elL_of (r := eB b) (by omega) (by simp [h2])]
  simp only [eB, ug0, ugs, dL_l]
  have hneeds := co.needs e hb h3
  refine ⟨fun x A2 => AtI b.needs (fun t2 _ => A2 = A.set a.toNat (maxF (atA A) 0 t2)) x, fun x _ => SufM b.needs x, .zero (by have := (hc.b b hb).n; omega) (set_same hz).symm, ?_⟩
  rintro y _ ⟨t2, _ | ⟨q, l2⟩, s2, rfl⟩
  · rw [s2.d0, s2.all, cond_false]
    refine ⟨by omega, by omega, ?_⟩
    have hti : (timesL c runs level)[i]? = some (timeR b level m).1 := by
      unfold timesL
      rw [List.getElem?_map, hmz]
      have := inn_iff.1 (ro.2 m (List.mem_of_getElem? hm))
      simp [timeN]; omega
    have hmb := maxF_bd (f := atA A) (B := 1048576000 * t.length) b.needs 0 (Int.le_refl _) (by omega) fun s hs => (w.bd s.1).2
    have htb := time_le (level := level) (b := b) (n := m)
    rw [elA (by rw [List.length_set]; exact w.len) (by omega) (by omega), atA_set w.len (by omega) (by omega) (by omega), if_pos rfl, elI (y := (timeR b level m).1) (by omega) (by simpa using hti), List.set_set, w64 (x := maxF (atA A) 0 b.needs + (timeR b level m).1) (by omega) (by omega)]
    exact ⟨by omega, by omega, s.step (w.put co e (by rw [hw]; omega) (by omega))⟩
  · simp only [s2.d1, s2.el, eS, ug0, ugs, dI_n, cond_true]
    have hqt := hneeds q (by rw [s2.e]; simp)
    have hq := co.g.mem q.1 (by rw [e]; simp [hqt])
    have hqa : q.1 ≠ a := fun h => hat (h ▸ hqt)
    refine ⟨by omega, by omega, ?_⟩
    rw [elA (by rw [List.length_set]; exact w.len) (by omega) (by omega), atA_set w.len (by omega) (by omega) (by omega), if_pos rfl]
    refine ⟨by omega, by omega, ?_⟩
    rw [elA (by rw [List.length_set]; exact w.len) (by omega) (by omega), atA_set w.len (by omega) (by omega) (by omega), if_neg hqa, List.set_set]
    refine ⟨by omega, by omega, s2.step ?_⟩
    rw [maxF_snoc]
    congr 1
    split <;> omega
end Go.Proofs.YtljgfkiiikcaaaaGreat

/- The longest way to a type: both the same. -/
set_option linter.unusedVariables false
namespace Go.Proofs.YtljgfkiiikcaaaaGreat
open Go Go.Proofs
variable {Q : V → Mem → Prop} {c : Cat} {out : List Int} {runs : List Int} {level : Int}

theorem way_ex (co : CatOK c out) (ro : runsOK c runs) : ∀ (n : Nat), n ≤ out.length → ∃ A, WayA c runs level out (out.take n) A
  | 0, _ => ⟨List.replicate 33 0, by simp, by simp, fun u _ _ => by
      unfold atA; rw [List.getD_eq_getElem?_getD]; cases h : (List.replicate 33 (0 : Int))[u.toNat]? with
      | none => rfl
      | some y => rw [Option.getD_some]; exact List.eq_of_mem_replicate (List.mem_of_getElem? h), fun u => by
      unfold atA; rw [List.getD_eq_getElem?_getD]; cases h : (List.replicate 33 (0 : Int))[u.toNat]? with
      | none => simp
      | some y => rw [Option.getD_some, List.eq_of_mem_replicate (List.mem_of_getElem? h)]; simp⟩
  | n + 1, hn => by
    obtain ⟨A, w⟩ := way_ex co ro n (by omega)
    have e : out = out.take n ++ out[n] :: out.drop (n + 1) := by rw [← List.drop_eq_getElem_cons, List.take_append_drop]
    rw [take_snoc (show n < out.length by omega)]
    refine ⟨_, w.put co e rfl ?_⟩
    have hl : (out.take n).length = n := by rw [List.length_take]; omega
    rcases maker_get (l := c.blues) (t := out[n]) with h0 | ⟨i, b, h1, h2, h3⟩
    · unfold wayE; rw [if_pos h0]; omega
    obtain ⟨m, hm, -⟩ := zip_get ro.1 h2
    rw [wayE_eq ro h1 h2 hm]
    split
    · omega
    have := maxF_bd (f := atA A) (B := 1048576000 * (out.take n).length) b.needs 0 (Int.le_refl _) (by omega) fun s hs => (w.bd s.1).2
    have := time_le (level := level) (b := b) (n := m)
    omega
theorem WayA.wayF {A : List Int} (co : CatOK c out) (w : WayA c runs level out out A) : WayF c runs level (atA A) := fun t h1 h2 => w.done t (co.all t h1 h2)
theorem way_same (co : CatOK c out) {f g : Int → Int} (hf : WayF c runs level f) (hg : WayF c runs level g) : ∀ (n : Nat) (t l : List Int) (a : Int), t.length = n → out = t ++ a :: l → f a = g a := by
  intro n
  induction n using Nat.strongRecOn with
  | _ n ih =>
    intro t l a hn e
    have ha := co.g.mem a (by rw [e]; simp)
    rw [hf a ha.1 ha.2, hg a ha.1 ha.2]
    refine wayE_congr fun i b h1 h2 s hs => ?_
    have hbm : b.makes = a := by
      rcases maker_get (l := c.blues) (t := a) with h0 | ⟨i', b', h1', h2', h3'⟩
      · omega
      · have : i' = i := by omega
        subst this; rw [h2] at h2'; cases h2'; exact h3'
    have hst := co.needs e (List.mem_of_getElem? h2) hbm s hs
    obtain ⟨t', l', rfl⟩ := List.append_of_mem hst
    exact ih t'.length (by rw [← hn]; simp) t' (l' ++ a :: l) s.1 rfl (by rw [e]; simp)
open Classical in
/-- How long a type takes. -/
noncomputable def pathV (c : Cat) (runs : List Int) (level : Int) : Int → Int := if h : ∃ f, WayF c runs level f then h.choose else fun _ => 0
theorem pathV_way (co : CatOK c out) (ro : runsOK c runs) : WayF c runs level (pathV c runs level) := by
  obtain ⟨A, w⟩ := way_ex (level := level) co ro out.length (Nat.le_refl _)
  rw [List.take_length] at w
  have h : ∃ f, WayF c runs level f := ⟨_, w.wayF co⟩
  unfold pathV
  rw [dif_pos h]
  exact h.choose_spec
open Classical in
noncomputable def pathR (c : Cat) (kind : Int) (runs : List Int) (level : Int) : Int × Int :=
  if mayE c kind level [] ≠ 0 then (0, mayE c kind level []) else if runsOK c runs then (pathV c runs level kind, 0) else (0, 1)
theorem mayE_zero {kind level : Int} {l : List Stk} (h : mayE c kind level l = 0) : catE c = 0 ∧ (1 ≤ kind ∧ kind ≤ c.types) ∧ (0 ≤ level ∧ level ≤ 10) ∧ chkE l c.types = 0 := by
  unfold mayE at h
  by_cases h2 : catE c = 0
  · rw [if_neg (by simpa using h2)] at h
    split at h
    · rename_i hin
      exact ⟨h2, inn_iff.1 hin.1, inn_iff.1 hin.2, h⟩
    · cases h
  · rw [if_pos h2] at h; exact absurd h h2
theorem pPathR_S {kind : Int} (hc : c.Rg) (hl : runs.length ≤ 1000000) (k : Q (vII (pathR c kind runs level)) []) : PRun Tryz.prog 10 [] [aC c, .i kind, .l 1 (runs.map eI), .i level] Q := by
  unfold pathR at k
  refine pPath_S hc hl (fun h => by rwa [if_pos h] at k) (fun h h2 => by rwa [if_neg (by simpa using h), if_neg h2] at k) fun h ro out co A w => ?_
  rw [if_neg (by simpa using h), if_pos ro] at k
  obtain ⟨-, hk, -⟩ := mayE_zero h
  obtain ⟨t, l, e⟩ := List.append_of_mem (co.all kind hk.1 hk.2)
  rwa [way_same co (pathV_way co ro) (w.wayF co) _ t l kind rfl e] at k
theorem rPathR_S {kind : Int} (hc : c.Rg) (hl : runs.length ≤ 1000000) (k : Q (vII (pathR c kind runs level)) []) : PRun Tryz.prog 11 [] [aC c, .i kind, .l 1 (runs.map eI), .i level] Q := by
  unfold pathR at k
  refine S11 (rmay_S (l := []) hc (by intro s hs; cases hs) (by simp) ?_)
  rw [post_I]
  refine cNe (fun h => by rwa [if_pos h] at k) fun h => rRunsOK_S hl fun b hb => ?_
  rw [if_neg (by simpa using h)] at k
  rw [post_B]
  refine cNot (cB (fun h1 => ?_) fun h1 => by rwa [if_neg (fun r => by rw [hb.2 r] at h1; cases h1)] at k)
  have ro := hb.1 h1
  rw [if_pos ro] at k
  obtain ⟨hcat, hk, -⟩ := mayE_zero h
  obtain ⟨out, co⟩ := cat_ok hcat
  obtain ⟨t, l, e⟩ := List.append_of_mem (co.all kind hk.1 hk.2)
  refine rpath_S hc co ro hl (pathV_way co ro) _ t l kind rfl e ?_
  rw [post_I]
  exact k
end Go.Proofs.YtljgfkiiikcaaaaGreat

/- Do stacks and runs fit? Plain, and the document's. -/
set_option linter.unusedVariables false
namespace Go.Proofs.YtljgfkiiikcaaaaGreat
open Go Go.Proofs
variable {Q : V → Mem → Prop} {c : Cat} {runs : List Int} {level : Int}

/-- What a blueprint's runs leave of a type: what they make without what they need. -/
def runT (level : Int) (p : Int × Bl) (t : Int) : Int := if p.1 = 0 then 0 else (if p.2.makes = t then p.1 * p.2.per else 0) - tot (needL p.2.needs p.1 level) t
def runTs (level : Int) (z : List (Int × Bl)) (t : Int) : Int := sumZ (z.map fun p => runT level p t)
def balT (kind n : Int) (raw : List Stk) (level : Int) (z : List (Int × Bl)) (t : Int) : Int := tot raw t - (if t = kind then n else 0) + runTs level z t
/-- No needs of runs are told as too many. -/
def needOK (level : Int) (z : List (Int × Bl)) : Prop := ∀ p ∈ z, p.1 ≠ 0 → needOver p.2.needs p.1 level = false
def fitsP (c : Cat) (kind n level : Int) (raw : List Stk) (runs : List Int) : Prop :=
  mayE c kind level raw = 0 ∧ inn n 1 1125899906842624 = true ∧ runsOK c runs ∧ needOK level (runs.zip c.blues) ∧ ∀ t, 1 ≤ t → t ≤ c.types → 0 ≤ balT kind n raw level (runs.zip c.blues) t
theorem runTs_snoc (z : List (Int × Bl)) (p : Int × Bl) (t : Int) : runTs level (z ++ [p]) t = runTs level z t + runT level p t := by
  unfold runTs; rw [List.map_append, List.map_singleton, sumZ_snoc]
end Go.Proofs.YtljgfkiiikcaaaaGreat

/- Do stacks and runs fit? The code's. -/
set_option linter.unusedVariables false
namespace Go.Proofs.YtljgfkiiikcaaaaGreat
open Go Go.Proofs
variable {Q : V → Mem → Prop} {c : Cat} {runs : List Int} {level : Int}

theorem tot_bd {l : List Stk} (hg : good l) (ho : ¬ over l) (t u : List Stk) (e : l = t ++ u) (k : Int) : 0 ≤ tot t k ∧ tot t k ≤ MaxQ := by
  have h1 := not_over hg ho k
  have h2 : good t := fun s hs => hg s (by rw [e]; simp [hs])
  have h3 : good u := fun s hs => hg s (by rw [e]; simp [hs])
  have := tot_nonneg h2 k
  have := tot_nonneg h3 k
  rw [e, tot_append] at h1
  omega
theorem needL_ok {l : List Stk} {types runs level : Int} (h : CheckOK l types) (hr : 1 ≤ runs) (hn : needOver l runs level = false) : CheckOK (needL l runs level) types := by
  refine ⟨by simpa [needL] using h.len, ?_, fun s hs => ?_⟩
  · unfold needL
    rw [List.pairwise_map]
    exact h.rise
  · obtain ⟨u, hu, rfl⟩ := List.mem_map.1 hs
    have h1 := h.el u hu
    have h2 : ¬ MaxQ < needQ u.2 runs level := by
      unfold needOver at hn
      have := List.any_eq_false.1 hn u hu
      simpa using this
    refine ⟨h1.1, h1.2.1, ?_, by simp only; omega⟩
    simp only
    unfold needQ
    omega
theorem atA_rep (k : Int) : atA (List.replicate 33 0) k = 0 := by
  unfold atA; rw [List.getD_eq_getElem?_getD]
  cases h : (List.replicate 33 (0 : Int))[k.toNat]? with
  | none => rfl
  | some y => rw [Option.getD_some]; exact List.eq_of_mem_replicate (List.mem_of_getElem? h)
theorem BlueOK.mono {b : Bl} {types : Int} (h : BlueOK b types) : BlueOK b 32 :=
  ⟨by decide, ⟨h.makes.1, by have := h.makes; have := h.ty; omega⟩, h.per, h.time, h.copy, h.study, h.most, ⟨h.needs.len, h.needs.rise, fun s hs => by have := h.needs.el s hs; have := h.ty; omega⟩, h.self⟩
/-- An array of a number for each type. -/
structure Arr (A : List Int) (f : Int → Int) : Prop where
  len : A.length = 33
  at' : ∀ t, 0 ≤ t → t < 33 → atA A t = f t
theorem Arr.set {A : List Int} {f : Int → Int} (h : Arr A f) {a v : Int} (h0 : 0 ≤ a) (h1 : a < 33) : Arr (A.set a.toNat v) fun t => if t = a then v else f t :=
  ⟨by rw [List.length_set]; exact h.len, fun t t0 t1 => by rw [atA_set h.len h0 h1 t0, h.at' t t0 t1]⟩
theorem Arr.congr {A : List Int} {f g : Int → Int} (h : Arr A f) (e : ∀ t, 0 ≤ t → t < 33 → f t = g t) : Arr A g := ⟨h.len, fun t a b => by rw [h.at' t a b, e t a b]⟩
theorem Arr.el {A : List Int} {f : Int → Int} (h : Arr A f) {a : Int} {K : Int → Prop} (h0 : 0 ≤ a) (h1 : a < 33) : elL A a K = K (f a) := by rw [elA h.len h0 h1, h.at' a h0 h1]
theorem min_S {l : List Int} (h0 : l ≠ []) (hl : l.length ≤ 1000000) (k : ∀ m ∈ l, (∀ y ∈ l, m ≤ y) → Q (.i m) []) : PRun Tryz.prog 43 [] [.l 1 (l.map eI)] Q := by
  rcases l with _ | ⟨a, l⟩
  · exact absurd rfl h0
  refine S43 (cIf (fun h => by simp at h; omega) fun _ => ?_)
  rw [elI (y := a) (by decide) rfl]
  refine ⟨fun m x => AtI (a :: l) (fun t _ => t ≠ [] ∧ m ∈ t ∧ ∀ y ∈ t, m ≤ y) x, fun _ => SufM (a :: l), ⟨[a], l, ⟨rfl, rfl, by simp at hl ⊢; omega⟩, by simp, by simp, by simp⟩, ?_⟩
  rintro m x ⟨t, _ | ⟨b, l2⟩, s, hne, hm, hle⟩
  · rw [s.d0]; rw [s.all] at hm hle
    exact k m hm hle
  · simp only [s.d1, s.el, eI, ug0, dI_n, cond_true]
    refine s.step ⟨by simp, ?_, fun y hy => ?_⟩
    · split <;> simp [hm]
    · rcases List.mem_append.1 hy with hy | hy
      · have := hle y hy; split <;> omega
      · simp at hy; subst hy; split <;> omega
end Go.Proofs.YtljgfkiiikcaaaaGreat

/- Do stacks and runs fit? The code's, behind its checks. -/
set_option linter.unusedVariables false
namespace Go.Proofs.YtljgfkiiikcaaaaGreat
open Go Go.Proofs
variable {Q : V → Mem → Prop} {c : Cat} {runs : List Int} {level : Int}

theorem runT_bd {p : Int × Bl} {types t : Int} (hb : BlueOK p.2 types) (hr : 0 ≤ p.1 ∧ p.1 ≤ 1000) (hn : p.1 ≠ 0 → needOver p.2.needs p.1 level = false) : -1125899906842624 ≤ runT level p t ∧ runT level p t ≤ 1048576000 := by
  unfold runT
  split
  · omega
  rename_i h0
  have ok := needL_ok (level := level) hb.needs (by omega) (hn h0)
  have he := errN_zero.1 ok.sn.1
  have h1 := tot_nonneg he.1 t
  have h2 := not_over he.1 he.2 t
  have hM : MaxQ = 1125899906842624 := rfl
  have h3 := Int.mul_le_mul hr.2 hb.per.2 (by have := hb.per; omega) (by omega)
  have h4 := Int.mul_nonneg hr.1 (show 0 ≤ p.2.per by have := hb.per; omega)
  split <;> omega
theorem runTs_bd {z : List (Int × Bl)} {types t : Int} (h : ∀ p ∈ z, BlueOK p.2 types ∧ (0 ≤ p.1 ∧ p.1 ≤ 1000) ∧ (p.1 ≠ 0 → needOver p.2.needs p.1 level = false)) : -1125899906842624 * z.length ≤ runTs level z t ∧ runTs level z t ≤ 1048576000 * z.length := by
  induction z with
  | nil => simp [runTs, sumZ]
  | cons p z ih =>
    have h1 := h p (by simp)
    have h2 := ih fun q hq => h q (by simp [hq])
    have h3 := runT_bd (level := level) (t := t) h1.1 h1.2.1 h1.2.2
    unfold runTs at h2 ⊢
    simp only [List.map_cons, sumZ, List.length_cons]
    omega
theorem pFits_S {kind n : Int} {raw : List Stk} (hc : c.Rg) (hl : runs.length ≤ 1000000) (hr : rng raw) (hw : raw.length ≤ 1000) (k : ∀ b : Bool, (b = true ↔ fitsP c kind n level raw runs) → Q (.u (.b b)) []) :
    PRun Tryz.prog 14 [] [aC c, .i kind, .i n, .i level, .l 2 (raw.map eS), .l 1 (runs.map eI)] Q := by
  have bad : ¬ fitsP c kind n level raw runs → Q (.u (.b false)) [] := fun h => k false (by simp [h])
  refine S14 (checks_S hc hw ?_)
  rw [post_I]
  refine cNe (fun h => bad fun f => h f.1) fun hm => in1_S ?_
  rw [post_B]
  refine cNot (cB (fun hn => areRuns_S hl fun b hb => ?_) fun h => bad fun f => by rw [f.2.1] at h; cases h)
  rw [post_B]
  refine cNot (cB (fun h1 => ?_) fun h1 => bad fun f => by rw [hb.2 f.2.2.1] at h1; cases h1)
  have ro := hb.1 h1
  obtain ⟨hcat, hk, hlv, hraw⟩ := mayE_zero hm
  obtain ⟨out, co⟩ := cat_ok hcat
  have hty := inn_iff.1 co.sz.types
  have hn' := inn_iff.1 hn
  have hrawOK := chkE_iff.1 hraw
  have hre := errN_zero.1 hrawOK.sn.1
  have hM : MaxQ = 1125899906842624 := rfl
  have hnb := co.sz.nb
  obtain ⟨e1, e2⟩ := zip_fst ro.1
  have hzm : ∀ p ∈ runs.zip c.blues, BlueOK p.2 c.types ∧ p.2 ∈ c.blues ∧ (0 ≤ p.1 ∧ p.1 ≤ 1000) := fun p hp => by
    obtain ⟨h1, h2⟩ := List.of_mem_zip hp
    exact ⟨blueE_ok.1 (co.sz.bl _ h2), h2, inn_iff.1 (ro.2 _ h1)⟩
  have hzl : (runs.zip c.blues).length ≤ 16 := by rw [List.length_zip]; omega
  unfold fitsP at bad k
  generalize runs.zip c.blues = z at *
  refine ⟨by omega, by omega, ?_⟩
  rw [← e1, ← e2]
  rw [w64 (x := 0 - n) (by omega) (by omega)]
  refine ⟨fun x A => AtI raw (fun t _ => Arr A fun u => tot t u - if u = kind then n else 0) x, fun x _ => SufM raw x, .zero (by omega) ?_, ?_⟩
  · refine Arr.congr (Arr.set (f := fun _ => 0) ⟨by simp, fun t _ _ => atA_rep t⟩ (by omega) (by omega)) fun t _ _ => ?_
    simp only [tot]; split <;> omega
  rintro x A ⟨t, _ | ⟨q, l⟩, s, hA⟩
  case cons =>
    simp only [s.d1, s.el, eS, ug0, ugs, dI_n, cond_true]
    have hq := hrawOK.el q (by rw [s.e]; simp)
    have htb := tot_bd hre.1 hre.2 t (q :: l) s.e q.1
    refine ⟨by omega, by omega, ?_⟩
    rw [hA.el (by omega) (by omega)]
    refine ⟨by omega, by omega, s.step ?_⟩
    have hd : -1125899906842624 ≤ tot t q.1 - (if q.1 = kind then n else 0) ∧ tot t q.1 - (if q.1 = kind then n else 0) ≤ 1125899906842624 := by split <;> omega
    rw [w64 (by omega) (by omega)]
    refine (hA.set (by omega) (by omega)).congr fun u _ _ => ?_
    rw [tot_snoc]
    by_cases hu : u = q.1
    · subst hu; simp only [if_true]; omega
    · rw [if_neg hu, if_neg (show ¬ q.1 = u from fun h => hu h.symm)]; omega
  rw [s.all] at hA
  rw [s.d0, cond_false]
  refine ⟨fun x A => AtI z (fun t _ => needOK level t ∧ Arr A fun u => balT kind n raw level t u) x, fun x _ => SufM z x, .zero (by omega) ⟨by simp [needOK], hA.congr fun u _ _ => by simp [balT, runTs, sumZ]⟩, ?_⟩
  rintro x A ⟨t, _ | ⟨p, l⟩, s, hno, hA⟩
  case nil =>
    rw [s.all] at hno hA
    rw [List.map_map, s.d0, cond_false]
    show PRun _ _ _ [.l 1 (A.map eI)] _
    refine min_S (by intro h; have := hA.len; rw [h] at this; cases this) (by rw [hA.len]; omega) fun m hmm hmin => ?_
    rw [post_I]
    refine k _ ?_
    rw [decide_eq_true_iff]
    constructor
    · intro h0
      refine ⟨hm, hn, ro, hno, fun t h1 h2 => ?_⟩
      have := hA.at' t (by omega) (by omega)
      rw [← this]
      have hlen := hA.len
      have := hmin (atA A t) (List.mem_of_getElem? (get_getD (k := t.toNat) (by omega)))
      omega
    · rintro ⟨-, -, -, -, hb⟩
      obtain ⟨j, hj, rfl⟩ := List.getElem_of_mem hmm
      have hlen := hA.len
      have := hA.at' j (by omega) (by omega)
      have e : atA A j = A[j] := by unfold atA; rw [List.getD_eq_getElem?_getD, Int.toNat_natCast, List.getElem?_eq_getElem hj]; rfl
      rw [← e, this]
      by_cases hj1 : 1 ≤ (j : Int) ∧ (j : Int) ≤ c.types
      · exact hb j hj1.1 hj1.2
      · have hne : ∀ x : Int, 1 ≤ x ∧ x ≤ c.types → x ≠ (j : Int) := fun x hx h => hj1 (h ▸ hx)
        have t0 : tot raw j = 0 := tot_none fun h => by
          obtain ⟨u, hu, e⟩ := List.mem_map.1 h
          have := hrawOK.el u hu
          exact hne u.1 ⟨this.1, this.2.1⟩ e
        have r0 : runTs level z j = 0 := by
          have : ∀ z' : List (Int × Bl), (∀ p ∈ z', BlueOK p.2 c.types) → runTs level z' j = 0 := by
            intro z'
            induction z' with
            | nil => intro _; rfl
            | cons p z' ih =>
              intro h
              have h1 := ih fun q hq => h q (by simp [hq])
              have hb := h p (by simp)
              have h2 : tot (needL p.2.needs p.1 level) j = 0 := tot_none fun h => by
                obtain ⟨u, hu, e⟩ := List.mem_map.1 h
                obtain ⟨v, hv, rfl⟩ := List.mem_map.1 hu
                have := hb.needs.el v hv
                exact hne v.1 ⟨this.1, this.2.1⟩ e
              have h3 := hne p.2.makes hb.makes
              unfold runTs at h1 ⊢
              simp only [List.map_cons, sumZ, h1]
              unfold runT
              rw [h2, if_neg h3]
              split <;> rfl
          exact this z fun p hp => (hzm p hp).1
        unfold balT
        rw [t0, r0, if_neg (fun h => hne kind hk h.symm)]
        decide
  obtain ⟨hb, hbm, hpr⟩ := hzm p (by rw [s.e]; simp)
  simp only [List.map_map, s.d1, s.el, cond_true, Function.comp_apply, eI, eB, ug0, ugs, dI_n, dL_l]
  refine cEq (fun h0 => s.step ⟨fun q hq hq0 => ?_, hA.congr fun u _ _ => ?_⟩) fun h0 => pNeeds_S (b := p.2) (hc.b _ hbm) ?_
  · rcases List.mem_append.1 hq with hq | hq
    · exact hno q hq hq0
    · simp at hq; subst hq; exact absurd h0 hq0
  · unfold balT; rw [runTs_snoc]; simp [runT, h0]
  rw [post_LI]
  have hnr : needsR p.2 level p.1 = if needOver p.2.needs p.1 level = true then ([], 5) else (needL p.2.needs p.1 level, 0) := by
    unfold needsR; rw [if_pos ⟨⟨blueE_ok.2 hb.mono, inn_iff.2 hlv⟩, inn_iff.2 (by omega)⟩]
  rw [hnr]
  have hpm : p ∈ z := by rw [s.e]; simp
  by_cases hov : needOver p.2.needs p.1 level = true
  · rw [if_pos hov]
    exact cNe (fun _ => bad fun f => by rw [f.2.2.2.1 p hpm h0] at hov; cases hov) fun h => by cases h
  rw [if_neg hov]
  have hov : needOver p.2.needs p.1 level = false := by simpa using hov
  refine cNe (fun h => absurd rfl h) fun _ => ?_
  have ok := needL_ok (level := level) hb.needs (by omega) hov
  have he := errN_zero.1 ok.sn.1
  have hnl := ok.len
  have hbal : ∀ u, -20000000000000000 ≤ balT kind n raw level t u ∧ balT kind n raw level t u ≤ 20000000000000000 := fun u => by
    have h1 := runTs_bd (level := level) (z := t) (types := c.types) (t := u) fun q hq => ⟨(hzm q (by rw [s.e]; simp [hq])).1, (hzm q (by rw [s.e]; simp [hq])).2.2, hno q hq⟩
    have h2 := tot_bd hre.1 hre.2 raw [] (by simp) u
    have h3 := congrArg List.length s.e
    simp at h3
    unfold balT
    split <;> omega
  refine ⟨fun x A => AtI (needL p.2.needs p.1 level) (fun t2 _ => Arr A fun u => balT kind n raw level t u - tot t2 u) x, fun x _ => SufM (needL p.2.needs p.1 level) x, .zero (by omega) (hA.congr fun u _ _ => by simp [tot]), ?_⟩
  rintro y A3 ⟨t2, _ | ⟨q, l2⟩, s2, hA3⟩
  · rw [s2.all] at hA3
    rw [s2.d0, cond_false]
    have hmk := hb.makes
    refine ⟨by omega, by omega, ?_⟩
    rw [hA3.el (by omega) (by omega)]
    refine ⟨by omega, by omega, s.step ⟨fun q hq hq0 => ?_, ?_⟩⟩
    · rcases List.mem_append.1 hq with hq | hq
      · exact hno q hq hq0
      · simp at hq; subst hq; exact hov
    have h3 := Int.mul_le_mul hpr.2 hb.per.2 (by have := hb.per; omega) (by omega)
    have h4 := Int.mul_nonneg hpr.1 (show 0 ≤ p.2.per by have := hb.per; omega)
    rw [Int.mul_comm] at h3 h4
    have h5 := hbal p.2.makes
    have h6 := tot_bd he.1 he.2 (needL p.2.needs p.1 level) [] (by simp) p.2.makes
    rw [w64 (x := p.2.per * p.1) (by omega) (by omega), w64 (by omega) (by omega)]
    refine (hA3.set (by omega) (by omega)).congr fun u _ _ => ?_
    unfold balT
    rw [runTs_snoc]
    unfold runT
    rw [if_neg h0, Int.mul_comm p.1]
    by_cases hu : u = p.2.makes
    · subst hu; simp only [if_true]; omega
    · rw [if_neg hu, if_neg (show ¬ p.2.makes = u from fun h => hu h.symm)]; omega
  · simp only [s2.d1, s2.el, eS, ug0, ugs, dI_n, cond_true]
    have hq := ok.el q (by rw [s2.e]; simp)
    have htb := tot_bd he.1 he.2 t2 (q :: l2) s2.e q.1
    have h5 := hbal q.1
    refine ⟨by omega, by omega, ?_⟩
    rw [hA3.el (by omega) (by omega)]
    refine ⟨by omega, by omega, s2.step ?_⟩
    rw [w64 (by omega) (by omega)]
    refine (hA3.set (by omega) (by omega)).congr fun u _ _ => ?_
    rw [tot_snoc]
    by_cases hu : u = q.1
    · subst hu; simp only [if_true]; omega
    · rw [if_neg hu, if_neg (show ¬ q.1 = u from fun h => hu h.symm)]; omega
end Go.Proofs.YtljgfkiiikcaaaaGreat

/- Do stacks and runs fit? The document's. -/
set_option linter.unusedVariables false
namespace Go.Proofs.YtljgfkiiikcaaaaGreat
open Go Go.Proofs
variable {Q : V → Mem → Prop} {c : Cat} {runs : List Int} {level : Int}

theorem radd_S {a b : Int} (ha : 0 ≤ a) (hb : 0 ≤ b) (h : a + b ≤ 9223372036854775807) (k : Q (.t [.i (a + b), .i 0]) []) : PRun Tryz.prog 44 [] [.i a, .i b] Q := by
  refine S44 (cIf (fun h1 => ?_) fun h1 => cIf (fun h2 => by omega) fun h2 => ?_)
  · rw [w64 (x := 9223372036854775807 - b) (by omega) (by omega)]
    refine cIf (fun h2 => by omega) fun h2 => cIf (fun h3 => by omega) fun h3 => ?_
    rw [w64 (x := a + b) (by omega) (by omega)]
    exact k
  · rw [w64 (by omega) (by omega)]
    exact k
/-- What runs make of a type; what they need of it. -/
def madeT (z : List (Int × Bl)) (t : Int) : Int := sumZ (z.map fun p => if p.1 = 0 then 0 else if p.2.makes = t then p.1 * p.2.per else 0)
def needT (level : Int) (z : List (Int × Bl)) (t : Int) : Int := sumZ (z.map fun p => if p.1 = 0 then 0 else tot (needL p.2.needs p.1 level) t)
theorem runTs_eq (z : List (Int × Bl)) (t : Int) : runTs level z t = madeT z t - needT level z t := by
  induction z with
  | nil => rfl
  | cons p z ih =>
    unfold runTs madeT needT at ih ⊢
    simp only [List.map_cons, sumZ, ih]
    unfold runT
    split <;> omega
theorem madeT_bd {z : List (Int × Bl)} {types t : Int} (h : ∀ p ∈ z, BlueOK p.2 types ∧ (0 ≤ p.1 ∧ p.1 ≤ 1000)) : 0 ≤ madeT z t ∧ madeT z t ≤ 1048576000 * z.length := by
  induction z with
  | nil => simp [madeT, sumZ]
  | cons p z ih =>
    have h1 := h p (by simp)
    have h2 := ih fun q hq => h q (by simp [hq])
    have h3 := Int.mul_le_mul h1.2.2 h1.1.per.2 (by have := h1.1.per; omega) (by omega)
    have h4 := Int.mul_nonneg h1.2.1 (show 0 ≤ p.2.per by have := h1.1.per; omega)
    unfold madeT at h2 ⊢
    simp only [List.map_cons, sumZ, List.length_cons]
    split
    · omega
    · split <;> omega
theorem needT_bd {z : List (Int × Bl)} {types t : Int} (h : ∀ p ∈ z, BlueOK p.2 types ∧ (0 ≤ p.1 ∧ p.1 ≤ 1000) ∧ (p.1 ≠ 0 → needOver p.2.needs p.1 level = false)) : 0 ≤ needT level z t ∧ needT level z t ≤ 1125899906842624 * z.length := by
  induction z with
  | nil => simp [needT, sumZ]
  | cons p z ih =>
    obtain ⟨hb, hr, hn⟩ := h p (by simp)
    have h2 := ih fun q hq => h q (by simp [hq])
    unfold needT at h2 ⊢
    simp only [List.map_cons, sumZ, List.length_cons]
    split
    · omega
    rename_i h0
    have ok := needL_ok (level := level) hb.needs (by omega) (hn h0)
    have he := errN_zero.1 ok.sn.1
    have h1 := tot_nonneg he.1 t
    have h3 := not_over he.1 he.2 t
    have hM : MaxQ = 1125899906842624 := rfl
    omega
theorem madeT_snoc (z : List (Int × Bl)) (p : Int × Bl) (t : Int) : madeT (z ++ [p]) t = madeT z t + if p.1 = 0 then 0 else if p.2.makes = t then p.1 * p.2.per else 0 := by
  unfold madeT; rw [List.map_append, List.map_singleton, sumZ_snoc]
theorem needT_snoc (z : List (Int × Bl)) (p : Int × Bl) (t : Int) : needT level (z ++ [p]) t = needT level z t + if p.1 = 0 then 0 else tot (needL p.2.needs p.1 level) t := by
  unfold needT; rw [List.map_append, List.map_singleton, sumZ_snoc]
theorem needOK_snoc {t : List (Int × Bl)} {p : Int × Bl} (h : needOK level t) (hp : p.1 ≠ 0 → needOver p.2.needs p.1 level = false) : needOK level (t ++ [p]) := fun q hq hq0 => by
  rcases List.mem_append.1 hq with hq | hq
  · exact h q hq hq0
  · simp at hq; subst hq; exact hp hq0
theorem rFits_S {kind n : Int} {raw : List Stk} (hc : c.Rg) (hl : runs.length ≤ 1000000) (hr : rng raw) (hw : raw.length ≤ 1000) (k : ∀ b : Bool, (b = true ↔ fitsP c kind n level raw runs) → Q (.u (.b b)) []) :
    PRun Tryz.prog 15 [] [aC c, .i kind, .i n, .i level, .l 2 (raw.map eS), .l 1 (runs.map eI)] Q := by
  have bad : ¬ fitsP c kind n level raw runs → Q (.u (.b false)) [] := fun h => k false (by simp [h])
  refine S15 (rmay_S hc hr hw ?_)
  rw [post_I]
  refine cNe (fun h => bad fun f => h f.1) fun hm => cIf (fun h => bad fun f => by have := inn_iff.1 f.2.1; omega) fun hn1 => cIf (fun h => bad fun f => by have := inn_iff.1 f.2.1; omega) fun hn2 => rRunsOK_S hl fun b hb => ?_
  have hn : inn n 1 1125899906842624 = true := inn_iff.2 (by omega)
  rw [post_B]
  refine cNot (cB (fun h1 => ?_) fun h1 => bad fun f => by rw [hb.2 f.2.2.1] at h1; cases h1)
  have ro := hb.1 h1
  obtain ⟨hcat, hk, hlv, hraw⟩ := mayE_zero hm
  obtain ⟨out, co⟩ := cat_ok hcat
  have hty := inn_iff.1 co.sz.types
  have hrawOK := chkE_iff.1 hraw
  have hre := errN_zero.1 hrawOK.sn.1
  have hM : MaxQ = 1125899906842624 := rfl
  have hnb := co.sz.nb
  obtain ⟨e1, e2⟩ := zip_fst ro.1
  have hzm : ∀ p ∈ runs.zip c.blues, BlueOK p.2 c.types ∧ p.2 ∈ c.blues ∧ (0 ≤ p.1 ∧ p.1 ≤ 1000) := fun p hp => by
    obtain ⟨h1, h2⟩ := List.of_mem_zip hp
    exact ⟨blueE_ok.1 (co.sz.bl _ h2), h2, inn_iff.1 (ro.2 _ h1)⟩
  have hzl : (runs.zip c.blues).length ≤ 16 := by rw [List.length_zip]; omega
  unfold fitsP at bad k
  generalize runs.zip c.blues = z at *
  rw [← e1, ← e2]
  refine ⟨fun x => 1 ≤ x ∧ x ≤ c.types + 1 ∧ (1 < x → needOK level z) ∧ ∀ t, 1 ≤ t → t < x → 0 ≤ balT kind n raw level z t, fun x => (c.types + 1 - x).toNat, ⟨by omega, by omega, by omega, fun t _ _ => by omega⟩, ?_⟩
  rintro x ⟨hx1, hx2, hno, hbal⟩
  refine cIf (fun hx => rCount_S hr hw ?_) fun hx => k true (by simp only [true_iff]; exact ⟨hm, hn, ro, hno (by omega), fun t h1 h2 => hbal t h1 (by omega)⟩)
  rw [post_I]
  have hcr : cntN raw x = tot raw x := by unfold cntN; rw [if_pos hrawOK.sn.1]
  rw [hcr]
  have htr := tot_bd hre.1 hre.2 raw [] (by simp) x
  intro k1 hk1
  have key : k1 (if x = kind then n else 0) := by
    refine hk1 _ ⟨fun has needs y => AtI z (fun t _ => needOK level t ∧ has = tot raw x + madeT t x ∧ needs = (if x = kind then n else 0) + needT level t x) y, fun _ _ y => SufM z y, .zero (by omega) ⟨by simp [needOK], by simp [madeT, sumZ], by simp [needT, sumZ]⟩, ?_⟩
    rintro has needs y ⟨t, _ | ⟨p, l⟩, s, hnt, rfl, rfl⟩
    case nil =>
      rw [s.all] at hnt
      rw [s.all, List.map_map, s.d0, cond_false]
      have hb : balT kind n raw level z x = tot raw x + madeT z x - ((if x = kind then n else 0) + needT level z x) := by
        unfold balT; rw [runTs_eq]; omega
      refine cIf (fun h => bad fun f => ?_) fun h => ⟨⟨by rw [w64 (by omega) (by omega)]; omega, by rw [w64 (by omega) (by omega)]; omega, fun _ => hnt, fun u hu1 hu2 => ?_⟩, by rw [w64 (by omega) (by omega)]; simp only; omega⟩
      · have := f.2.2.2.2 x hx1 hx
        rw [hb] at this; omega
      · rw [w64 (by omega) (by omega)] at hu2
        by_cases hu : u < x
        · exact hbal u hu1 hu
        · have : u = x := by omega
          subst this; rw [hb]; omega
    obtain ⟨hb, hbm, hpr⟩ := hzm p (by rw [s.e]; simp)
    have hpm : p ∈ z := by rw [s.e]; simp
    have htl := congrArg List.length s.e
    simp at htl
    have hmb := madeT_bd (z := t) (types := c.types) (t := x) fun q hq => ⟨(hzm q (by rw [s.e]; simp [hq])).1, (hzm q (by rw [s.e]; simp [hq])).2.2⟩
    have hnb' := needT_bd (level := level) (z := t) (types := c.types) (t := x) fun q hq => ⟨(hzm q (by rw [s.e]; simp [hq])).1, (hzm q (by rw [s.e]; simp [hq])).2.2, hnt q hq⟩
    simp only [List.map_map, s.d1, s.el, cond_true, Function.comp_apply, eI, eB, ug0, ugs, dI_n, dL_l]
    refine cEq (fun h0 => s.step ⟨needOK_snoc hnt fun h => absurd h0 h, by rw [madeT_snoc, if_pos h0]; omega, by rw [needT_snoc, if_pos h0]; omega⟩) fun h0 => ?_
    intro k2 hk2
    have h3 := Int.mul_le_mul hpr.2 hb.per.2 (by have := hb.per; omega) (by omega)
    have h4 := Int.mul_nonneg hpr.1 (show 0 ≤ p.2.per by have := hb.per; omega)
    have key2 : k2 (tot raw x + madeT t x + if p.2.makes = x then p.1 * p.2.per else 0) := by
      refine hk2 _ (rNeeds_S (b := p.2) (hc.b _ hbm) ?_)
      rw [post_LI]
      have hnr : needsR p.2 level p.1 = if needOver p.2.needs p.1 level = true then ([], 5) else (needL p.2.needs p.1 level, 0) := by
        unfold needsR; rw [if_pos ⟨⟨blueE_ok.2 hb.mono, inn_iff.2 hlv⟩, inn_iff.2 (by omega)⟩]
      rw [hnr]
      by_cases hov : needOver p.2.needs p.1 level = true
      · rw [if_pos hov]
        exact cNe (fun _ => bad fun f => by rw [f.2.2.2.1 p hpm h0] at hov; cases hov) fun h => by cases h
      rw [if_neg hov]
      have hov : needOver p.2.needs p.1 level = false := by simpa using hov
      refine cNe (fun h => absurd rfl h) fun _ => ?_
      have ok := needL_ok (level := level) hb.needs (by omega) hov
      have he := errN_zero.1 ok.sn.1
      have hnl := ok.len
      refine rCount_S (fun s hs => by have := ok.el s hs; have := hb.ty; omega) (by simp only; omega) ?_
      rw [post_I]
      have hcn : cntN (needL p.2.needs p.1 level) x = tot (needL p.2.needs p.1 level) x := by unfold cntN; rw [if_pos ok.sn.1]
      rw [hcn]
      have htb := tot_bd he.1 he.2 (needL p.2.needs p.1 level) [] (by simp) x
      have hn0 : 0 ≤ (if x = kind then n else 0) ∧ (if x = kind then n else 0) ≤ 1125899906842624 := by split <;> omega
      refine radd_S (by omega) htb.1 (by omega) ?_
      rw [post_II]
      refine cNe (fun h => absurd rfl h) fun _ => s.step ⟨needOK_snoc hnt fun _ => hov, by rw [madeT_snoc, if_neg h0]; omega, by rw [needT_snoc, if_neg h0]; omega⟩
    refine cEq (fun h => ?_) fun h => ?_
    · rw [if_pos h] at key2
      rw [w64 (x := p.1 * p.2.per) (by omega) (by omega), w64 (by omega) (by omega)]
      exact key2
    · rwa [if_neg h, Int.add_zero] at key2
  exact cEq (fun h => by rwa [if_pos h] at key) fun h => by rwa [if_neg h] at key
end Go.Proofs.YtljgfkiiikcaaaaGreat

/- Bills, plain: what is wanted from the top, and what comes of it. -/
set_option linter.unusedVariables false
namespace Go.Proofs.YtljgfkiiikcaaaaGreat
open Go Go.Proofs
variable {c : Cat} {level : Int}

structure ES where
  w : Int → Int
  raw : List Stk
  runs : List Int
  left : List Stk
def upd (w : Int → Int) (a v : Int) : Int → Int := fun t => if t = a then v else w t
def wantsL : (Int → Int) → List Stk → Option (Int → Int)
  | w, [] => some w
  | w, s :: l => if MaxQ < w s.1 + s.2 then none else wantsL (upd w s.1 (w s.1 + s.2)) l
/-- One more row of wants is behind. -/
theorem wantsL_app : ∀ (l r : List Stk) (w : Int → Int), wantsL w (l ++ r) = (match wantsL w l with | none => none | some w' => wantsL w' r)
  | [], r, w => rfl
  | s :: l, r, w => by
    simp only [List.cons_append, wantsL]
    split
    · rfl
    · exact wantsL_app l r _
def makeS (c : Cat) (level : Int) (s : ES) (t n : Int) : Option ES :=
  if maker c.blues t = 0 then some { s with raw := s.raw ++ [(t, n)] } else
  match c.blues[(maker c.blues t - 1).toNat]? with
  | none => none
  | some b =>
    if 1000 < upI n b.per then none else if needOver b.needs (upI n b.per) level = true then none else
    match wantsL s.w (needL b.needs (upI n b.per) level) with
    | none => none
    | some w' => some ⟨w', s.raw, s.runs.set (maker c.blues t - 1).toNat (upI n b.per), if 0 < upI n b.per * b.per - n then s.left ++ [(t, upI n b.per * b.per - n)] else s.left⟩
def expS (c : Cat) (level : Int) (have' : List Stk) (s : ES) (t : Int) : Option ES :=
  if s.w t - tot have' t ≤ 0 then some s else makeS c level s t (s.w t - tot have' t)
def expL (c : Cat) (level : Int) (have' : List Stk) : List Int → ES → Option ES
  | [], s => some s
  | t :: l, s => match expS c level have' s t with
    | none => none
    | some s' => expL c level have' l s'
theorem expL_app (have' : List Stk) : ∀ (l r : List Int) (s : ES), expL c level have' (l ++ r) s = (match expL c level have' l s with | none => none | some s' => expL c level have' r s')
  | [], r, s => rfl
  | t :: l, r, s => by
    simp only [List.cons_append, expL]
    cases expS c level have' s t with
    | none => rfl
    | some s' => exact expL_app have' l r s'
def es0 (c : Cat) (kind n : Int) : ES := ⟨upd (fun _ => 0) kind n, [], List.replicate c.blues.length 0, []⟩
/-- What is known of what was done with the types t. -/
structure ESok (c : Cat) (t : List Int) (s : ES) : Prop where
  w : ∀ u, 0 ≤ s.w u ∧ s.w u ≤ MaxQ
  raw : (s.raw.map (·.1)).Sublist t
  rq : ∀ p ∈ s.raw, 1 ≤ p.2 ∧ p.2 ≤ MaxQ
  left : (s.left.map (·.1)).Sublist t
  lq : ∀ p ∈ s.left, 1 ≤ p.2 ∧ p.2 ≤ MaxQ
  rl : s.runs.length = c.blues.length
  runs : ∀ n ∈ s.runs, 0 ≤ n ∧ n ≤ 1000
theorem upd_bd {w : Int → Int} {a v : Int} (h : ∀ u, 0 ≤ w u ∧ w u ≤ MaxQ) (hv : 0 ≤ v ∧ v ≤ MaxQ) : ∀ u, 0 ≤ upd w a v u ∧ upd w a v u ≤ MaxQ := fun u => by
  unfold upd; split
  · exact hv
  · exact h u
theorem wantsL_bd : ∀ {l : List Stk} {w w' : Int → Int}, wantsL w l = some w' → (∀ s ∈ l, 0 ≤ s.2) → (∀ u, 0 ≤ w u ∧ w u ≤ MaxQ) → ∀ u, 0 ≤ w' u ∧ w' u ≤ MaxQ
  | [], w, w', h, _, hw => by cases h; exact hw
  | s :: l, w, w', h, hl, hw => by
    simp only [wantsL] at h
    split at h
    · cases h
    · have := hl s (by simp)
      have := hw s.1
      exact wantsL_bd h (fun x hx => hl x (by simp [hx])) (upd_bd hw (by omega))
theorem es0_ok {kind n : Int} (hn : 1 ≤ n ∧ n ≤ MaxQ) : ESok c [] (es0 c kind n) :=
  ⟨upd_bd (fun _ => by decide) (by omega), by simp [es0], by simp [es0], by simp [es0], by simp [es0], by simp [es0], fun m hm => by
    have := List.eq_of_mem_replicate hm
    omega⟩
theorem up_mul {n b : Int} (hb : 1 ≤ b) (hn : 1 ≤ n) : 1 ≤ upI n b ∧ 0 ≤ upI n b * b - n ∧ upI n b * b - n < b := by
  unfold upI
  have h1 := Int.emod_add_mul_ediv (n + b - 1) b
  have h2 := Int.emod_nonneg (n + b - 1) (show b ≠ 0 by omega)
  have h3 := Int.emod_lt_of_pos (n + b - 1) (show 0 < b by omega)
  rw [Int.mul_comm] at h1
  refine ⟨?_, by omega, by omega⟩
  exact Int.le_ediv_of_mul_le (by omega) (by omega)
theorem maker_bl (co : c.Sz) {t : Int} {b : Bl} (h : c.blues[(maker c.blues t - 1).toNat]? = some b) : BlueOK b c.types := blueE_ok.1 (co.bl _ (List.mem_of_getElem? h))
theorem ESok.step (co : c.Sz) {t : List Int} {s s' : ES} {have' : List Stk} {a : Int} (o : ESok c t s) (hl : 0 ≤ level ∧ level ≤ 10) (hh : ∀ u, 0 ≤ tot have' u) (h : expS c level have' s a = some s') : ESok c (t ++ [a]) s' := by
  have hM : MaxQ = 1125899906842624 := rfl
  unfold expS at h
  split at h
  · cases h
    exact ⟨o.w, o.raw.trans (List.sublist_append_left _ _), o.rq, o.left.trans (List.sublist_append_left _ _), o.lq, o.rl, o.runs⟩
  rename_i hmore
  have hw := o.w a
  have hha := hh a
  have happ : ∀ {l : List Stk} {v : Int}, (l.map (·.1)).Sublist t → ((l ++ [(a, v)]).map (·.1)).Sublist (t ++ [a]) := fun h => by
    rw [List.map_append]; exact h.append (List.Sublist.refl _)
  generalize hn : s.w a - tot have' a = n at hmore h
  unfold makeS at h
  split at h
  · cases h
    refine ⟨o.w, happ o.raw, fun p hp => ?_, o.left.trans (List.sublist_append_left _ _), o.lq, o.rl, o.runs⟩
    rcases List.mem_append.1 hp with hp | hp
    · exact o.rq p hp
    · simp at hp; subst hp; simp only; omega
  split at h
  · cases h
  rename_i b hb
  have hB := maker_bl co hb
  have hup := up_mul hB.per.1 (show 1 ≤ n by omega)
  split at h
  · cases h
  rename_i h1
  split at h
  · cases h
  rename_i h2
  have h2 : needOver b.needs (upI n b.per) level = false := by simpa using h2
  have ok := needL_ok (level := level) hB.needs hup.1 h2
  split at h
  · cases h
  rename_i w' hw'
  cases h
  have hper := hB.per
  refine ⟨wantsL_bd hw' (fun x hx => by have := ok.el x hx; omega) o.w, o.raw.trans (List.sublist_append_left _ _), o.rq, ?_, ?_, by rw [List.length_set]; exact o.rl, fun m hm => ?_⟩
  · simp only; split
    · exact happ o.left
    · exact o.left.trans (List.sublist_append_left _ _)
  · simp only
    split
    · intro p hp
      rcases List.mem_append.1 hp with hp | hp
      · exact o.lq p hp
      · simp at hp; subst hp; simp only; omega
    · exact o.lq
  · rcases List.mem_or_eq_of_mem_set hm with hm | rfl
    · exact o.runs m hm
    · omega
theorem expL_ok (co : c.Sz) {have' : List Stk} (hl : 0 ≤ level ∧ level ≤ 10) (hh : ∀ u, 0 ≤ tot have' u) : ∀ {l t : List Int} {s s' : ES}, ESok c t s → expL c level have' l s = some s' → ESok c (t ++ l) s'
  | [], t, s, s', o, h => by cases h; simpa using o
  | a :: l, t, s, s', o, h => by
    simp only [expL] at h
    split at h
    · cases h
    · rename_i s1 h1
      have := expL_ok co hl hh (o.step co hl hh h1) h
      simpa using this
/-- Stacks of types of their own each, from some on, are normal when sorted. -/
theorem sn_sorted {l r : List Stk} (hp : r.Perm l) (hs : r.Pairwise (fun x y => x.1 ≤ y.1)) (hn : (l.map (·.1)).Nodup) (hq : ∀ p ∈ l, 1 ≤ p.2) : SN l r := by
  have hnr : (r.map (·.1)).Nodup := (hp.map _).nodup_iff.2 hn
  refine ⟨?_, fun k n => ⟨fun h => ?_, fun ⟨h1, h2⟩ => ?_⟩⟩
  · have h1 : r.Pairwise (fun x y => x.1 ≠ y.1) := List.pairwise_map.1 hnr
    exact hs.imp₂ (fun x y a b => by omega) h1
  · have hm := hp.mem_iff.1 h
    have := tot_mem hn hm
    have := hq _ hm
    simp only at *
    omega
  · obtain ⟨s, hs, rfl⟩ := tot_pos (l := l) (k := k) (by omega)
    have := tot_mem hn hs
    rw [this] at h1
    subst h1
    exact hp.mem_iff.2 hs
theorem good_of {l : List Stk} {t : List Int} (hs : (l.map (·.1)).Sublist t) (hq : ∀ p ∈ l, 1 ≤ p.2 ∧ p.2 ≤ MaxQ) (ht : ∀ u ∈ t, 1 ≤ u) (hn : t.Nodup) : errN l = 0 := by
  have hnl : (l.map (·.1)).Nodup := hs.nodup hn
  refine errN_zero.2 ⟨fun p hp => ⟨ht _ (hs.subset (List.mem_map.2 ⟨p, hp, rfl⟩)), by have := hq p hp; omega⟩, ?_⟩
  rintro ⟨p, hp, h⟩
  rw [tot_mem hnl hp] at h
  have := hq p hp
  omega
open Classical in
/-- The normal stacks of a list. -/
noncomputable def normL' (l : List Stk) : List Stk := if h : ∃ r, SN l r then h.choose else []
theorem normL'_eq {l r : List Stk} (h : SN l r) : normL' l = r := by
  have hx : ∃ r, SN l r := ⟨r, h⟩
  unfold normL'
  rw [dif_pos hx]
  exact hx.choose_spec.unique h
end Go.Proofs.YtljgfkiiikcaaaaGreat

/- Bills: what is wanted, what is made: the code's. -/
set_option linter.unusedVariables false
namespace Go.Proofs.YtljgfkiiikcaaaaGreat
open Go Go.Proofs
variable {Q : V → Mem → Prop} {c : Cat} {level : Int}

abbrev cP (c : Cat) (level : Int) (A : List Int) (i j k : Nat) : AB := .c [.i c.types, .l 7 (c.blues.map eB), .i c.places, .l 4 (c.bays.map eY), .i c.chars, .i c.broker, .i c.least, .i c.sales, .i level, .n .i64 33 A, .w i, .w j, .w k]
abbrev mP (c : Cat) (level : Int) (A : List Int) (a b d : List (List U)) : Mem := [cP c level A 1 2 3, .w 52 2 a, .w 3 1 b, .w 52 2 d]
abbrev FP := Int → Int → List (List U) → Int → List (List U) → Int → Int → Int → Int → Int → List Int → List (List U) → List (List U) → List (List U) → Prop
abbrev postP (F : FP) : V → Mem → Prop := post [.I] [.c [.i .i64, .l 7, .i .i64, .l 4, .i .i64, .i .i64, .i .i64, .i .i64, .i .i64, .n 33, .ow 52 2, .ow 3 1, .ow 52 2], .X, .X, .X] F
abbrev apF (F : FP) (e : Int) (c : Cat) (level : Int) (A : List Int) (a b d : List (List U)) : Prop := F e c.types (c.blues.map eB) c.places (c.bays.map eY) c.chars c.broker c.least c.sales level A a b d
section
variable {F : FP} {e : Int} {A : List Int} {a b d : List (List U)}
theorem postP1 : postP F (.i e) (mP c level A a b d) = apF F e c level A a b d := rfl
theorem postP2 : postP F (.i e) [cP c level A 4 2 3, .x, .w 3 1 b, .w 52 2 d, .w 52 2 a] = apF F e c level A a b d := rfl
theorem postP3 : postP F (.i e) [cP c level A 4 5 6, .x, .x, .x, .w 52 2 a, .w 3 1 b, .w 52 2 d] = apF F e c level A a b d := rfl
theorem wants_S {w : Int → Int} {s : Stk} (hA : Arr A w) (hw : 0 ≤ w s.1 ∧ w s.1 ≤ MaxQ) (h0 : 0 ≤ s.1 ∧ s.1 < 33) (hs : 0 ≤ s.2 ∧ s.2 ≤ MaxQ) (k1 : MaxQ < w s.1 + s.2 → apF F 5 c level A a b d) (k2 : ¬ MaxQ < w s.1 + s.2 → apF F 0 c level (A.set s.1.toNat (w s.1 + s.2)) a b d) :
    PRun Tryz.prog 51 (mP c level A a b d) [.r 0 0, .a [.i s.1, .i s.2]] (postP F) := by
  have hM : MaxQ = 1125899906842624 := rfl
  refine S51w ⟨h0.1, h0.2, ?_⟩
  rw [hA.el h0.1 h0.2]
  refine add_S hw.1 hs.1 (by omega) ?_
  rw [post_II]
  refine cNe (fun h => absurd rfl h) fun _ => cIf (fun h => ?_) fun h => ⟨h0.1, h0.2, ?_⟩
  · exact postP1 ▸ k1 (by omega)
  · exact postP1 ▸ k2 (by omega)
end
theorem makes_S {F : FP} {A : List Int} {s : ES} {t n : Int} (hc : c.Rg) (co : c.Sz) (hA : Arr A s.w) (hw : ∀ u, 0 ≤ s.w u ∧ s.w u ≤ MaxQ) (hl : 0 ≤ level ∧ level ≤ 10) (hn : 1 ≤ n ∧ n ≤ MaxQ) (hr : s.runs.length = c.blues.length)
    (h1 : s.raw.length ≤ 1000) (h2 : s.left.length ≤ 1000)
    (k1 : makeS c level s t n = none → ∀ A' a b d, A'.length = 33 → apF F 5 c level A' a b d) (k2 : ∀ s', makeS c level s t n = some s' → ∀ A', Arr A' s'.w → apF F 0 c level A' (s'.raw.map eS) (s'.runs.map eI) (s'.left.map eS)) :
    PRun Tryz.prog 23 (mP c level A (s.raw.map eS) (s.runs.map eI) (s.left.map eS)) [.r 0 0, .i t, .i n] (postP F) := by
  have hM : MaxQ = 1125899906842624 := rfl
  refine S23 (pMaker_S hc ?_)
  rw [post_I]
  refine cEq (fun h0 => ⟨apOk_l (by simp; omega), ?_⟩) fun h0 => ?_
  · have := k2 { s with raw := s.raw ++ [(t, n)] } (by unfold makeS; rw [if_pos h0]) A hA
    rw [List.map_append] at this
    exact postP2 ▸ this
  rcases maker_get (l := c.blues) (t := t) with h | ⟨i, b, e1, e2, e3⟩
  · exact absurd h h0
  have hi := (List.getElem?_eq_some_iff.1 e2).1
  have hnb := hc.nb
  have hbm := List.mem_of_getElem? e2
  have hB : BlueOK b c.types := blueE_ok.1 (co.bl _ hbm)
  have hup := up_mul hB.per.1 hn.1
  have hper := hB.per
  rw [e1, w64 (x := (i : Int) + 1 - 1) (by omega) (by omega), show (i : Int) + 1 - 1 = i by omega]
  rw [elL_of (r := eB b) (by omega) (by simp [e2])]
  simp only [eB, ug0, ugs, dI_n, dL_l]
  refine pRuns_S (b := b) (hc.b b hbm) ?_
  rw [post_II]
  have hrr : runsR b n = (upI n b.per, 0) := by unfold runsR; rw [if_pos ⟨blueE_ok.2 hB.mono, inn_iff.2 (by omega)⟩]
  rw [hrr]
  have hmk : makeS c level s t n = if 1000 < upI n b.per then none else if needOver b.needs (upI n b.per) level = true then none else
      match wantsL s.w (needL b.needs (upI n b.per) level) with
      | none => none
      | some w' => some ⟨w', s.raw, s.runs.set i (upI n b.per), if 0 < upI n b.per * b.per - n then s.left ++ [(t, upI n b.per * b.per - n)] else s.left⟩ := by
    unfold makeS
    rw [if_neg h0, e1, show ((i : Int) + 1 - 1).toNat = i by omega, e2]
    all_goals rfl
  generalize hrn : upI n b.per = r at *
  have hover : ∀ {p : Prop}, 1 ≤ r → r ≤ 1000 → (0 ≤ r * b.per ∧ r * b.per ≤ 1048576000 → p) → p := fun h3 h4 k => k ⟨Int.mul_nonneg (by omega) (by omega), by
    have := Int.mul_le_mul h4 hper.2 (by omega) (by omega); omega⟩
  refine cNe (fun h => absurd rfl h) fun _ => cIf (fun h => ?_) fun h => ⟨by omega, by simp [hr]; omega, ?_⟩
  · exact postP1 ▸ k1 (by rw [hmk, if_pos (show 1000 < r from h)]) A _ _ _ hA.len
  have hr1 : ¬ 1000 < r := h
  rw [if_neg hr1] at hmk
  intro kk hkk
  have main : ∀ L : List Stk, L = (if 0 < r * b.per - n then s.left ++ [(t, r * b.per - n)] else s.left) → kk c.types (c.blues.map eB) c.places (c.bays.map eY) c.chars c.broker c.least c.sales level A (s.raw.map eS) ((s.runs.set i r).map eI) (L.map eS) := by
    rintro L hL
    refine hkk _ _ _ _ _ _ _ _ _ _ _ _ _ (pNeeds_S (b := b) (hc.b b hbm) ?_)
    rw [post_LI]
    obtain ⟨N, e0, hnr, hN, hx, hm⟩ : ∃ N e0, needsR b level r = (N, e0) ∧ N.length ≤ 8 ∧ (∀ x ∈ N, (0 ≤ x.1 ∧ x.1 < 33) ∧ 0 ≤ x.2 ∧ x.2 ≤ MaxQ) ∧
        ((e0 = 0 ∧ makeS c level s t n = match wantsL s.w N with | none => none | some w' => some ⟨w', s.raw, s.runs.set i r, L⟩) ∨ (e0 = 5 ∧ makeS c level s t n = none)) := by
      unfold needsR
      rw [if_pos ⟨⟨blueE_ok.2 hB.mono, inn_iff.2 hl⟩, inn_iff.2 (by omega)⟩]
      by_cases ho : needOver b.needs r level = true
      · rw [if_pos ho] at hmk ⊢
        exact ⟨[], 5, rfl, by simp, by simp, .inr ⟨rfl, hmk⟩⟩
      · rw [if_neg ho] at hmk ⊢
        have ok := needL_ok (level := level) hB.needs hup.1 (by simpa using ho)
        refine ⟨_, 0, rfl, ok.len, fun x hx => ?_, .inl ⟨rfl, by rw [hmk, ← hL]⟩⟩
        have := ok.el x hx
        have := hB.ty
        omega
    rw [hnr]
    refine ⟨fun e x x1 x2 x3 x4 x5 x6 x7 x8 x9 A' a b d => AtI N (fun t' _ => (x1 = c.types ∧ x2 = c.blues.map eB ∧ x3 = c.places ∧ x4 = c.bays.map eY ∧ x5 = c.chars ∧ x6 = c.broker ∧ x7 = c.least ∧ x8 = c.sales ∧ x9 = level ∧ a = s.raw.map eS ∧ b = (s.runs.set i r).map eI ∧ d = L.map eS) ∧
      ((e = 0 ∧ e0 = 0 ∧ ∃ w', wantsL s.w t' = some w' ∧ Arr A' w' ∧ ∀ u, 0 ≤ w' u ∧ w' u ≤ MaxQ) ∨ (e = 5 ∧ makeS c level s t n = none ∧ A'.length = 33))) x, fun e x _ _ _ _ _ _ _ _ _ _ _ _ _ => SufM N x, .zero (by omega) ⟨by simp, ?_⟩, ?_⟩
    · rcases hm with ⟨h, -⟩ | ⟨h, h'⟩
      · exact .inl ⟨h, h, s.w, rfl, hA, hw⟩
      · exact .inr ⟨h, h', hA.len⟩
    rintro e x _ _ _ _ _ _ _ _ _ A' _ _ _ ⟨t', _ | ⟨q, l'⟩, at', ⟨rfl, rfl, rfl, rfl, rfl, rfl, rfl, rfl, rfl, rfl, rfl, rfl⟩, hst⟩
    · rw [at'.d0, cond_false]
      rw [at'.all] at hst
      rcases hst with ⟨rfl, h0', w', hw', hA', -⟩ | ⟨rfl, hnone, hlen⟩
      · have hm := hm.resolve_right fun h => by omega
        have := k2 _ (by rw [hm.2, hw']) A' hA'
        exact postP3 ▸ this
      · exact postP3 ▸ k1 hnone A' _ _ _ hlen
    · simp only [at'.d1, at'.el, eS, ug0, ugs, dI_n, cond_true]
      have hq := hx q (by rw [at'.e]; simp)
      rcases hst with ⟨rfl, h0', w', hw', hA', hbd⟩ | ⟨rfl, hnone, hlen⟩
      · refine cEq (fun _ => ?_) fun h => absurd rfl h
        have hm := hm.resolve_right fun h => by omega
        refine wants_S (F := fun x29 x30 l13 x31 l14 x32 x33 x34 x35 x36 a3 l15 l16 l17 => _) (s := q) (a := s.raw.map eS) (b := (s.runs.set i r).map eI) (d := L.map eS) hA' (hbd q.1) hq.1 hq.2 (fun h => ?_) fun h => ?_
        · refine at'.step ⟨by simp, .inr ⟨rfl, ?_, hA'.len⟩⟩
          rw [hm.2, at'.e, wantsL_app, hw']
          simp only [wantsL, if_pos h]
        · refine at'.step ⟨by simp, .inl ⟨rfl, h0', upd w' q.1 (w' q.1 + q.2), ?_, hA'.set hq.1.1 hq.1.2, upd_bd hbd (by have := hbd q.1; omega)⟩⟩
          rw [wantsL_app, hw']
          simp only [wantsL, if_neg h]
      · refine cEq (fun h => by cases h) fun _ => at'.step ⟨by simp, .inr ⟨rfl, hnone, hlen⟩⟩
  have hmap : ∀ (v : Int), (s.runs.map eI).set i [.n v] = (s.runs.set i v).map eI := fun v => by rw [List.map_set]; rfl
  rw [show ((i : Int)).toNat = i from rfl, hmap]
  have hr0 := hover hup.1 (by omega) id
  rw [w64 (x := r * b.per) (by omega) (by omega), w64 (x := r * b.per - n) (by omega) (by omega)]
  refine cIf (fun h => ⟨apOk_l (by simp; omega), ?_⟩) fun h => ?_
  · have := main _ (by rw [if_pos h])
    rw [List.map_append] at this
    exact this
  · exact main _ (by rw [if_neg h])
end Go.Proofs.YtljgfkiiikcaaaaGreat

/- From the symbolic engine's runs to the rows. -/
set_option linter.unusedVariables false
namespace Go.Proofs.YtljgfkiiikcaaaaGreat
open Go Go.Proofs Go.ChangeShapes Go.WideShapes Go.ChangeAt Go.RowKit

theorem Tryz.own : ownKnob Tryz.prog.godebug = none := by kernel_rfl
theorem Tryz.laidOut : laidOutB Tryz.prog = true := by kernel_rfl

theorem belowOf {W W' : World} (k : Keep W.heap W'.heap) (s : Same W W') : RowKit.Below W.heap.size W W' :=
  ⟨s.os, s.tape, s.output, k.size, fun b hb => k.blk b hb (by simp)⟩
theorem rp_agg {D : Fz} {cs : Array Value} {us : List U} (h : RdL D (Value.agg cs).cells.toList us) : Rp D [] (.agg cs) (.a (us.map .u)) := by
  obtain ⟨cs⟩ := cs
  exact .a (RpC.ofU h)
theorem rp_slice {D : Fz} {a : Option Addr} {n c : Nat} {u : U} (h : RdL D (Value.slice a n c).cells.toList [u]) : Rp D [] (.slice a n c) (.u u) := by
  have h : RdL D [.slice a n c] [u] := h
  cases h with | cons a _ => exact .u a
theorem SAt.all (h : Heap) : SAt (allD h) [] [] [] [] h := ⟨rfl, rfl, fun i L ab ch h => by simp at h, by simpa using St.all h⟩
end Go.Proofs.YtljgfkiiikcaaaaGreat

/- Bills: what is needed to make something: the code's. -/
set_option linter.unusedVariables false
namespace Go.Proofs.YtljgfkiiikcaaaaGreat
open Go Go.Sort Go.Shelf Go.Proofs
variable {Q : V → Mem → Prop} {c : Cat} {level : Int}

/- ## The sort -/
abbrev StkU := { x : Stk // 1 ≤ x.1 ∧ x.1 ≤ 9223372036854775807 }
instance : Inhabited StkU := ⟨⟨(1, 0), by decide⟩⟩
theorem stackSW : SWO (ltOf fun x y : StkU => x.1.1 - y.1.1) where
  irrefl x := by unfold ltOf; simp
  trans x y z h1 h2 := by unfold ltOf at *; simp only [decide_eq_true_eq] at *; omega
  ntrans x y z h1 h2 := by unfold ltOf at *; simp only [decide_eq_false_iff_not] at *; omega
theorem callSort : Callable Tryz.prog 25 := ⟨_, Tryz.func25, by kernel_rfl, by kernel_rfl⟩
theorem callCmp : Callable Tryz.prog 24 := ⟨_, Tryz.func24, by kernel_rfl, by kernel_rfl⟩
theorem sortS_S {l : List Stk} (hd : ∀ s ∈ l, 1 ≤ s.1 ∧ s.1 ≤ 9223372036854775807) (hl : l.length ≤ 1000000) (k : ∀ r : List Stk, r.Perm l → r.Pairwise (fun x y => x.1 ≤ y.1) → Q (.t []) [.w 52 2 (r.map eS)]) :
    PRun Tryz.prog 25 [.w 52 2 (l.map eS)] [.w 0, .f 24 [] []] Q := by
  obtain ⟨t, ht⟩ : ∃ t : List StkU, t.map (·.1) = l := ⟨l.pmap (fun x h => ⟨x, h⟩) hd, by simp [List.map_pmap]⟩
  subst ht
  have := sortP (α := StkU) Tryz.sortL (f := 25) rfl callSort 2 Tryz.isAgg52 Tryz.sizeOf52 (fun x => [x.1.1, x.1.2]) (fun _ => rfl) (fun x y => x.1.1 - y.1.1) stackSW callCmp
    (fun x y => S24 (by have := x.2; have := y.2; rw [w64 (by omega) (by omega)])) (E := 52) (rows := t) (by simpa using hl) (Q := Q) fun r hp hs => by
      have := k (r.map (·.1)) (hp.map _) (by
        rw [List.pairwise_map]
        exact hs.imp fun h => Decidable.byContradiction fun hc => h (by show (_ - _ : Int) < 0; omega))
      rw [List.map_map] at this
      exact this
  rw [List.map_map]
  exact this
theorem post_row2 {F : List (List U) → Prop} {l : List (List U)} : post [] [.row 52 2] F (.t []) [.w 52 2 l] = F l := rfl

/- ## What is needed -/
noncomputable def topR (c : Cat) : List Int := (orderR c.types (pairsL c.blues)).1.reverse
abbrev BomV := List Stk × List Int × List Stk
open Classical in
noncomputable def expR (c : Cat) (kind n level : Int) (have' : List Stk) : BomV × Int :=
  if mayE c kind level have' ≠ 0 then (([], [], []), mayE c kind level have') else if inn n 1 1125899906842624 = true then
    (match expL c level have' (topR c) (es0 c kind n) with
    | none => (([], [], []), 5)
    | some s => ((normL' s.raw, s.runs, normL' s.left), 0)) else (([], [], []), 1)
abbrev vBE (r : BomV × Int) : V := .t [.a [.l 2 (r.1.1.map eS), .l 1 (r.1.2.1.map eI), .l 2 (r.1.2.2.map eS)], .i r.2]
theorem pExpand_S {kind n : Int} {have' : List Stk} (hc : c.Rg) (hr : rng have') (hl : have'.length ≤ 1000) (k : Q (vBE (expR c kind n level have')) []) : PRun Tryz.prog 7 [] [aC c, .i kind, .i n, .i level, .l 2 (have'.map eS)] Q := by
  have hM : MaxQ = 1125899906842624 := rfl
  unfold expR at k
  refine S7 (checks_S hc hl ?_)
  rw [post_I]
  refine cNe (fun h => by rwa [if_pos h] at k) fun hm => in1_S ?_
  rw [if_neg (by simpa using hm)] at k
  rw [post_B]
  refine cNot (cB (fun hn => ?_) fun h => by rwa [if_neg (by simp [h])] at k)
  rw [if_pos hn] at k
  have hnb := hc.nb
  have hL : (0 : Int) ≤ ((c.blues.map eB).length : Int) ∧ ((c.blues.map eB).length : Int) ≤ 1000000 := by rw [List.length_map]; omega
  obtain ⟨hcat, hk, hlv, hchk⟩ := mayE_zero hm
  obtain ⟨out, co⟩ := cat_ok hcat
  have hty := inn_iff.1 co.sz.types
  have hn' := inn_iff.1 hn
  have hhOK := chkE_iff.1 hchk
  have hhe := errN_zero.1 hhOK.sn.1
  refine (fun rest => ⟨⟨hL.1, hL.2, rfl, dup ⟨by omega, by omega, rest⟩⟩, ⟨hL.1, hL.2, rfl, by omega, by omega, rest⟩⟩) ?_
  refine (fun rest => ⟨pPairs_S hc (post_L.mpr (dup (pOrder_S (post_LI.mpr rest)))), pPairs_S hc (post_L.mpr (pOrder_S (post_LI.mpr rest)))⟩) ?_
  unfold topR at k
  rw [co.r] at k ⊢
  dsimp only at k ⊢
  intro X
  have hol : out.length ≤ 1000 := by have := nodup_len co.g.nodup co.g.mem (by omega); omega
  refine ⟨fun x x1 x2 x3 x4 x5 x6 x7 x8 x9 A a b d e => (x1 = c.types ∧ x2 = c.blues.map eB ∧ x3 = c.places ∧ x4 = c.bays.map eY ∧ x5 = c.chars ∧ x6 = c.broker ∧ x7 = c.least ∧ x8 = c.sales ∧ level = x9) ∧ ∃ t l, out.reverse = t ++ l ∧ x = (l.length : Int) - 1 ∧ A.length = 33 ∧
      ((e = 0 ∧ ∃ s, expL c level have' t (es0 c kind n) = some s ∧ ESok c t s ∧ Arr A s.w ∧ a = s.raw.map eS ∧ b = s.runs.map eI ∧ d = s.left.map eS) ∨ (e = 5 ∧ expL c level have' out.reverse (es0 c kind n) = none)),
    fun x _ _ _ _ _ _ _ _ _ _ _ _ _ _ => (x + 1).toNat, ⟨by simp, [], out.reverse, rfl, ?_, by simp, .inl ⟨rfl, es0 c kind n, rfl, es0_ok (by omega), ?_, rfl, ?_, rfl⟩⟩, ?_⟩
  · rw [List.length_map, w64 (by omega) (by omega)]; simp
  · refine Arr.congr (Arr.set (f := fun _ => 0) ⟨by simp, fun t _ _ => atA_rep t⟩ (by omega) (by omega)) fun t _ _ => rfl
  · rw [List.length_map]; exact rep_eI _
  rintro x _ _ _ _ _ _ _ _ _ A a b d e ⟨⟨rfl, rfl, rfl, rfl, rfl, rfl, rfl, rfl, rfl⟩, t, l, e1, rfl, hA33, hst⟩
  have hsub : ∀ u ∈ t, 1 ≤ u ∧ u ≤ c.types := fun u hu => co.g.mem u (List.mem_reverse.1 (by rw [e1]; simp [hu]))
  have hnd : t.Nodup := by
    have := (List.reverse_perm out).nodup_iff.2 co.g.nodup
    rw [e1, List.nodup_append] at this
    exact this.1
  rcases l with _ | ⟨u, l⟩
  · -- the end
    refine cIf (fun h => by simp at h) fun _ => ⟨rfl, ?_⟩
    rw [List.append_nil] at e1
    rcases hst with ⟨rfl, s, hs, ok, -, rfl, rfl, rfl⟩ | ⟨rfl, hnone⟩
    · rw [e1, hs] at k
      refine cNe (fun h => absurd rfl h) fun _ => ?_
      have hty1 : ∀ {q : List Stk}, (q.map (·.1)).Sublist t → (∀ s ∈ q, 1 ≤ s.1 ∧ s.1 ≤ 9223372036854775807) ∧ q.length ≤ 1000000 ∧ (q.map (·.1)).Nodup := fun h => by
        refine ⟨fun s hs => ?_, ?_, h.nodup hnd⟩
        · have := hsub s.1 (h.subset (List.mem_map.2 ⟨s, hs, rfl⟩)); omega
        · have h1 := h.length_le
          have h2 := congrArg List.length e1
          simp at h1 h2; omega
      obtain ⟨r1, r2, r3⟩ := hty1 ok.raw
      obtain ⟨l1, l2, l3⟩ := hty1 ok.left
      refine sortS_S r1 r2 fun r hp hs => ?_
      rw [post_row2]
      refine sortS_S l1 l2 fun q hp2 hs2 => ?_
      rw [post_row2]
      have er := normL'_eq (sn_sorted hp hs r3 fun p hp => (ok.rq p hp).1)
      have el := normL'_eq (sn_sorted hp2 hs2 l3 fun p hp => (ok.lq p hp).1)
      simp only at k
      rw [er, el] at k
      exact k
    · rw [hnone] at k
      exact cNe (fun _ => k) fun h => by cases h
  have hu := co.g.mem u (List.mem_reverse.1 (by rw [e1]; simp))
  have e2 : out = l.reverse ++ u :: t.reverse := by
    have := congrArg List.reverse e1
    simpa using this
  refine cIf (fun _ => ?_) fun h => by simp at h <;> omega
  have ei : ((u :: l).length : Int) - 1 = (l.length : Int) := by simp
  rw [ei, elL_of (r := eI u) (by omega) (by rw [e2]; simp)]
  simp only [eI, ug0, dI_n]
  refine ⟨trivial, by omega, by omega, ?_⟩
  rw [elA hA33 (by omega) (by omega)]
  refine pCount_S hr hl ?_
  rw [post_I]
  have hcn : cntN have' u = tot have' u := by unfold cntN; rw [if_pos hhOK.sn.1]
  rw [hcn]
  have htb := tot_bd hhe.1 hhe.2 have' [] (by simp) u
  have hlen := congrArg List.length e1
  simp at hlen
  intro kk hkk
  rw [w64 (x := (l.length : Int) - 1) (by omega) (by omega)] at hkk
  have hm1 : (((l.length : Int) - 1) + 1).toNat < ((l.length : Int) + 1).toNat := by omega
  rcases hst with ⟨rfl, s, hs, ok, hA, rfl, rfl, rfl⟩ | ⟨rfl, hnone⟩
  · refine cEq (fun _ => ?_) fun h => absurd rfl h
    have hwu := ok.w u
    rw [hA.at' u (by omega) (by omega)] at hkk ⊢
    have hfull : expL c level have' (t ++ [u]) (es0 c kind n) = expS c level have' s u := by
      rw [expL_app, hs]
      simp only [expL]
      cases expS c level have' s u <;> rfl
    have hall : expS c level have' s u = none → expL c level have' out.reverse (es0 c kind n) = none := fun h => by
      rw [e1, expL_app, hs]
      simp only [expL, h]
    have hrl : s.raw.length ≤ 1000 := by
      have := ok.raw.length_le
      simp at this; omega
    have hll : s.left.length ≤ 1000 := by
      have := ok.left.length_le
      simp at this; omega
    rw [w64 (x := s.w u - tot have' u) (by omega) (by omega)] at hkk ⊢
    refine hkk _ (cIf (fun h => ?_) fun h => ?_)
    · have hes : expS c level have' s u = makeS c level s u (s.w u - tot have' u) := by unfold expS; rw [if_neg (by omega)]
      refine makes_S hc co.sz hA ok.w hlv (by omega) ok.rl hrl hll (fun hno A' a b d hA' => ⟨⟨by simp, t ++ [u], l, by rw [e1]; simp, rfl, hA', .inr ⟨rfl, hall (by rw [hes, hno])⟩⟩, hm1⟩) fun s' hs' A' hA' => ?_
      have h1 := hes.trans hs'
      exact ⟨⟨by simp, t ++ [u], l, by rw [e1]; simp, rfl, hA'.len, .inl ⟨rfl, s', by rw [hfull, h1], ok.step co.sz hlv (fun v => tot_nonneg hhe.1 v) h1, hA', rfl, rfl, rfl⟩⟩, hm1⟩
    · have hes : expS c level have' s u = some s := by unfold expS; rw [if_pos (by omega)]
      exact ⟨⟨by simp, t ++ [u], l, by rw [e1]; simp, rfl, hA33, .inl ⟨rfl, s, by rw [hfull, hes], ok.step co.sz hlv (fun v => tot_nonneg hhe.1 v) hes, hA, rfl, rfl, rfl⟩⟩, hm1⟩
  · exact cEq (fun h => by cases h) fun _ => hkk _ ⟨⟨by simp, t ++ [u], l, by rw [e1]; simp, rfl, hA33, .inr ⟨rfl, hnone⟩⟩, hm1⟩
end Go.Proofs.YtljgfkiiikcaaaaGreat

/- Bills: what is needed to make something: the document's. -/
set_option linter.unusedVariables false
namespace Go.Proofs.YtljgfkiiikcaaaaGreat
open Go Go.Proofs
variable {Q : V → Mem → Prop} {c : Cat} {level : Int}

theorem rtop_S (hc : c.Rg) (hcat : catE c = 0) (k : Q (.l 1 ((topR c).map eI)) []) : PRun Tryz.prog 27 [] [aC c] Q := by
  obtain ⟨out, co⟩ := cat_ok hcat
  have hty := inn_iff.1 co.sz.types
  have hol : out.length ≤ 1000 := by have := nodup_len co.g.nodup co.g.mem (by omega); omega
  have hpl := pairsL_len c.blues hc.b
  have hnb := hc.nb
  unfold topR at k
  rw [co.r] at k
  simp only at k
  refine S27 (rPairs_S hc ?_)
  rw [post_L]
  refine rOrder_S (by omega) ?_
  rw [post_LI, co.r]
  simp only
  refine ⟨fun l x => ∃ t r, out.reverse = t ++ r ∧ l = t.map eI ∧ x = (r.length : Int) - 1, fun _ x => (x + 1).toNat, ⟨[], out.reverse, rfl, rfl, by rw [List.length_map, w64 (by omega) (by omega)]; simp⟩, ?_⟩
  rintro _ x ⟨t, r, e1, rfl, rfl⟩
  have hlen := congrArg List.length e1
  simp at hlen
  rcases r with _ | ⟨u, r⟩
  · refine cIf (fun h => by simp at h) fun _ => ?_
    rw [List.append_nil] at e1
    rw [← e1]; exact k
  refine cIf (fun _ => ?_) fun h => by simp at h <;> omega
  simp at hlen
  have e2 : out = r.reverse ++ u :: t.reverse := by
    have := congrArg List.reverse e1
    simpa using this
  have ei : ((u :: r).length : Int) - 1 = (r.length : Int) := by simp
  rw [ei, elL_of (r := eI u) (by omega) (by rw [e2]; simp)]
  simp only [eI, ug0, dI_n]
  refine ⟨apOk_l (by simp; omega), ⟨t ++ [u], r, by rw [e1]; simp, by simp [eI], w64 (by omega) (by omega)⟩, ?_⟩
  rw [w64 (by omega) (by omega)]; omega
/-- A slice of a number for each type. -/
structure ArrS (N : Int) (A : List Int) (f : Int → Int) : Prop where
  len : (A.length : Int) = N + 1
  at' : ∀ t, 0 ≤ t → t ≤ N → A.getD t.toNat 0 = f t
section
variable {N a v : Int} {A : List Int} {f : Int → Int}
theorem ArrS.set (h : ArrS N A f) (h0 : 0 ≤ a) (h1 : a ≤ N) : ArrS N (A.set a.toNat v) (upd f a v) := by
  refine ⟨by rw [List.length_set]; exact h.len, fun t t0 t1 => ?_⟩
  have hl := h.len
  have := h.at' t t0 t1
  unfold upd
  rw [List.getD_eq_getElem?_getD] at this ⊢
  by_cases ht : t = a
  · subst ht; rw [if_pos rfl, List.getElem?_set_self (by omega)]; rfl
  · rw [if_neg ht, List.getElem?_set_ne (by omega)]; exact this
theorem ArrS.el (h : ArrS N A f) (h0 : 0 ≤ a) (h1 : a ≤ N) {K : List U → Prop} : elL (A.map eI) a K = K (eI (f a)) := by
  have hl := h.len
  refine elL_of h0 ?_
  rw [List.getElem?_map, List.getElem?_eq_getElem (show a.toNat < A.length by omega), Option.map_some, ← h.at' a h0 h1, List.getD_eq_getElem?_getD, List.getElem?_eq_getElem (show a.toNat < A.length by omega)]
  rfl
end
theorem rExpand_S {kind n : Int} {have' : List Stk} (hc : c.Rg) (hr : rng have') (hl : have'.length ≤ 1000) (k : Q (vBE (expR c kind n level have')) []) : PRun Tryz.prog 8 [] [aC c, .i kind, .i n, .i level, .l 2 (have'.map eS)] Q := by
  have hM : MaxQ = 1125899906842624 := rfl
  unfold expR at k
  refine S8 (rmay_S hc hr hl ?_)
  rw [post_I]
  refine cNe (fun h => by rwa [if_pos h] at k) fun hm => ?_
  rw [if_neg (by simpa using hm)] at k
  refine cIf (fun h => by rwa [if_neg (by rw [inn_iff]; omega)] at k) fun h1 => cIf (fun h => by rwa [if_neg (by rw [inn_iff]; omega)] at k) fun h2 => ?_
  rw [if_pos (inn_iff.2 (by omega))] at k
  have hnb := hc.nb
  obtain ⟨hcat, hk, hlv, hchk⟩ := mayE_zero hm
  obtain ⟨out, co⟩ := cat_ok hcat
  have hty := inn_iff.1 co.sz.types
  have hhOK := chkE_iff.1 hchk
  have hhe := errN_zero.1 hhOK.sn.1
  rw [w64 (x := c.types + 1) (by omega) (by omega)]
  refine ⟨by omega, by omega, rfl, by omega, by simp; omega, by omega, by rw [List.length_map]; omega, rfl, rtop_S hc hcat ?_⟩
  rw [post_L]
  unfold topR at k ⊢
  rw [co.r] at k ⊢
  simp only at k ⊢
  have hol : out.length ≤ 1000 := by have := nodup_len co.g.nodup co.g.mem (by omega); omega
  refine ⟨fun raw left x _ _ _ W R => AtI out.reverse (fun t _ => ∃ s A, expL c level have' t (es0 c kind n) = some s ∧ ESok c t s ∧ ArrS c.types A s.w ∧ raw = s.raw.map eS ∧ left = s.left.map eS ∧ W = A.map eI ∧ R = s.runs.map eI) x, fun _ _ x _ _ _ _ _ => SufM out.reverse x,
    .zero (by simp; omega) ⟨es0 c kind n, (List.replicate (c.types + 1).toNat 0).set kind.toNat n, rfl, es0_ok (by omega), ?_, rfl, rfl, ?_, ?_⟩, ?_⟩
  · have : ArrS c.types (List.replicate (c.types + 1).toNat 0) (fun _ => 0) := ⟨by simp; omega, fun t t0 t1 => by
      rw [List.getD_eq_getElem?_getD]
      cases h : (List.replicate (c.types + 1).toNat (0 : Int))[t.toNat]? with
      | none => rfl
      | some y => rw [Option.getD_some]; exact List.eq_of_mem_replicate (List.mem_of_getElem? h)⟩
    exact this.set (by omega) (by omega)
  · rw [List.map_set, rep_eI]; rfl
  · rw [List.length_map]; exact rep_eI _
  rintro _ _ x r4 r5 r6 _ _ ⟨t, _ | ⟨u, l⟩, s', s, A, hs, ok, hA, rfl, rfl, rfl, rfl⟩
  case nil =>
    rw [s'.d0, cond_false]
    rw [s'.all] at hs ok
    rw [hs] at k
    simp only at k
    have hnd : out.reverse.Nodup := (List.reverse_perm out).nodup_iff.2 co.g.nodup
    have hsub : ∀ u ∈ out.reverse, 1 ≤ u ∧ u ≤ c.types := fun u hu => co.g.mem u (List.mem_reverse.1 hu)
    have key : ∀ {q : List Stk}, (q.map (·.1)).Sublist out.reverse → (∀ p ∈ q, 1 ≤ p.2 ∧ p.2 ≤ MaxQ) → rng q ∧ q.length ≤ 100000 ∧ errN q = 0 := fun h hq => by
      refine ⟨fun s hs => ?_, ?_, good_of h hq (fun u hu => (hsub u hu).1) hnd⟩
      · have := hsub s.1 (h.subset (List.mem_map.2 ⟨s, hs, rfl⟩))
        have := hq s hs
        omega
      · have := h.length_le
        simp at this; omega
    obtain ⟨q1, q2, q3⟩ := key ok.raw ok.rq
    obtain ⟨p1, p2, p3⟩ := key ok.left ok.lq
    refine refNorm_S q1 q2 fun r e hN => ?_
    rw [post_LI]
    refine refNorm_S p1 p2 fun q e' hN' => ?_
    rw [post_LI]
    rw [normL'_eq (hN.2.1 (hN.1.trans q3)), normL'_eq (hN'.2.1 (hN'.1.trans p3))] at k
    exact k
  have hu := co.g.mem u (List.mem_reverse.1 (by rw [s'.e]; simp))
  have hAl := hA.len
  simp only [s'.d1, s'.el, eI, ug0, dI_n, cond_true]
  refine ⟨by omega, by rw [List.length_map]; omega, ?_⟩
  have hel : ∀ {K : List U → Prop}, elL (A.map eI) u K = K (eI (s.w u)) := hA.el (by omega) (by omega)
  show elL (A.map eI) u _
  rw [hel]
  simp only [eI, ug0, dI_n]
  refine ⟨by omega, by rw [List.length_map]; omega, ?_⟩
  show elL (A.map eI) u _
  rw [hel]
  simp only [eI, ug0, dI_n]
  refine rCount_S hr hl ?_
  rw [post_I]
  have hcn : cntN have' u = tot have' u := by unfold cntN; rw [if_pos hhOK.sn.1]
  rw [hcn]
  have htb := tot_bd hhe.1 hhe.2 have' [] (by simp) u
  refine rMaker_S hc ?_
  rw [post_I]
  have hwu := ok.w u
  have hfull : expL c level have' (t ++ [u]) (es0 c kind n) = expS c level have' s u := by
    rw [expL_app, hs]
    simp only [expL]
    cases expS c level have' s u <;> rfl
  have hnone : expS c level have' s u = none → Q (.t [.a [.l 2 [], .l 1 [], .l 2 []], .i 5]) [] := fun h => by
    have : expL c level have' out.reverse (es0 c kind n) = none := by
      rw [s'.e, expL_app, hs]
      simp only [expL, h]
    rw [this] at k; exact k
  have hstep : ∀ s2, expS c level have' s u = some s2 → ESok c (t ++ [u]) s2 := fun s2 h => ok.step co.sz hlv (fun v => tot_nonneg hhe.1 v) h
  have hmore : s.w u - (if tot have' u < s.w u then tot have' u else s.w u) = if s.w u - tot have' u ≤ 0 then 0 else s.w u - tot have' u := by split <;> split <;> omega
  rw [w64 (by split <;> omega) (by split <;> omega), hmore]
  have hrl : s.raw.length ≤ 1000 := by
    have h1 := ok.raw.length_le
    have h2 := congrArg List.length s'.e
    simp at h1 h2; omega
  have hll : s.left.length ≤ 1000 := by
    have h1 := ok.left.length_le
    have h2 := congrArg List.length s'.e
    simp at h1 h2; omega
  by_cases h0 : s.w u - tot have' u ≤ 0
  · rw [if_pos h0]
    have hes : expS c level have' s u = some s := by unfold expS; rw [if_pos h0]
    exact cEq (fun _ => s'.step ⟨s, A, by rw [hfull, hes], hstep _ hes, hA, rfl, rfl, rfl, rfl⟩) fun h => absurd rfl h
  rw [if_neg h0]
  have hes : expS c level have' s u = makeS c level s u (s.w u - tot have' u) := by unfold expS; rw [if_neg h0]
  generalize hn : s.w u - tot have' u = m at *
  refine cEq (fun h => by omega) fun _ => cEq (fun hz => ?_) fun hz => ?_
  · have hmk : expS c level have' s u = some { s with raw := s.raw ++ [(u, m)] } := by rw [hes]; unfold makeS; rw [if_pos hz]
    refine ⟨apOk_l (by simp; omega), s'.step ⟨_, A, by rw [hfull, hmk], hstep _ hmk, hA, by simp [eS], rfl, rfl, rfl⟩⟩
  rcases maker_get (l := c.blues) (t := u) with h | ⟨i, b, e1, e2, e3⟩
  · exact absurd h hz
  have hi := (List.getElem?_eq_some_iff.1 e2).1
  have hbm := List.mem_of_getElem? e2
  have hB : BlueOK b c.types := blueE_ok.1 (co.sz.bl _ hbm)
  have hup := up_mul hB.per.1 (show 1 ≤ m by omega)
  have hper := hB.per
  rw [e1, w64 (x := (i : Int) + 1 - 1) (by omega) (by omega), show (i : Int) + 1 - 1 = i by omega]
  rw [elL_of (r := eB b) (by omega) (by simp [e2])]
  simp only [eB, ug0, ugs, dI_n, dL_l]
  refine rRuns_S (b := b) (hc.b b hbm) ?_
  rw [post_II]
  have hrr : runsR b m = (upI m b.per, 0) := by unfold runsR; rw [if_pos ⟨blueE_ok.2 hB.mono, inn_iff.2 (by omega)⟩]
  rw [hrr]
  have hmk : expS c level have' s u = if 1000 < upI m b.per then none else if needOver b.needs (upI m b.per) level = true then none else
      match wantsL s.w (needL b.needs (upI m b.per) level) with
      | none => none
      | some w' => some ⟨w', s.raw, s.runs.set i (upI m b.per), if 0 < upI m b.per * b.per - m then s.left ++ [(u, upI m b.per * b.per - m)] else s.left⟩ := by
    rw [hes]
    unfold makeS
    rw [if_neg hz, e1, show ((i : Int) + 1 - 1).toNat = i by omega, e2]
    all_goals rfl
  generalize hrn : upI m b.per = r at *
  have hover : ∀ {p : Prop}, 1 ≤ r → r ≤ 1000 → (0 ≤ r * b.per ∧ r * b.per ≤ 1048576000 → p) → p := fun h3 h4 k => k ⟨Int.mul_nonneg (by omega) (by omega), by
    have := Int.mul_le_mul h4 hper.2 (by omega) (by omega); omega⟩
  have hrl2 := ok.rl
  refine cIf (fun h => hnone (by rw [hmk, if_pos (show 1000 < r from h)])) fun h => ⟨by omega, by rw [List.length_map]; omega, rNeeds_S (b := b) (hc.b b hbm) ?_⟩
  have hr1 : ¬ 1000 < r := h
  rw [if_neg hr1] at hmk
  rw [post_LI]
  have hnr : needsR b level r = if needOver b.needs r level = true then ([], 5) else (needL b.needs r level, 0) := by
    unfold needsR; rw [if_pos ⟨⟨blueE_ok.2 hB.mono, inn_iff.2 hlv⟩, inn_iff.2 (by omega)⟩]
  rw [hnr]
  by_cases ho : needOver b.needs r level = true
  · rw [if_pos ho] at hmk ⊢
    exact cNe (fun _ => hnone hmk) fun h => by cases h
  rw [if_neg ho] at hmk ⊢
  have okN := needL_ok (level := level) hB.needs hup.1 (by simpa using ho)
  have hNl := okN.len
  refine cNe (fun h => absurd rfl h) fun _ => ⟨fun x _ _ _ W => AtI (needL b.needs r level) (fun t' _ => ∃ w' A', wantsL s.w t' = some w' ∧ ArrS c.types A' w' ∧ (∀ v, 0 ≤ w' v ∧ w' v ≤ MaxQ) ∧ W = A'.map eI) x, fun x _ _ _ _ => SufM (needL b.needs r level) x, .zero (by omega) ⟨s.w, A, rfl, hA, ok.w, rfl⟩, ?_⟩
  rintro y r1 r2 r3 _ ⟨t', _ | ⟨q, l'⟩, a', w', A', hw', hA', hbd, rfl⟩
  · rw [a'.d0, cond_false]
    rw [a'.all] at hw'
    rw [hw'] at hmk
    simp only at hmk
    have hr0 := hover hup.1 (by omega) id
    have hmap : ∀ (v : Int), (s.runs.map eI).set i [.n v] = (s.runs.set i v).map eI := fun v => by rw [List.map_set]; rfl
    rw [show ((i : Int)).toNat = i from rfl, w64 (x := r * b.per) (by omega) (by omega), w64 (x := r * b.per - m) (by omega) (by omega)]
    refine cIf (fun h => ⟨apOk_l (by simp; omega), s'.step ⟨_, A', by rw [hfull, hmk], hstep _ hmk, hA', rfl, ?_, rfl, ?_⟩⟩) fun h => s'.step ⟨_, A', by rw [hfull, hmk], hstep _ hmk, hA', rfl, ?_, rfl, ?_⟩
    · simp only [if_pos (show 0 < r * b.per - m from h)]; rw [List.map_append]; rfl
    · exact hmap r
    · simp only [if_neg (show ¬ 0 < r * b.per - m from h)]
    · exact hmap r
  have hq := okN.el q (by rw [a'.e]; simp)
  have hA'l := hA'.len
  have hbq := hbd q.1
  have hel' : ∀ {K : List U → Prop}, elL (A'.map eI) q.1 K = K (eI (w' q.1)) := hA'.el (by omega) (by omega)
  have hset : ∀ v : Int, (A'.map eI).set q.1.toNat [.n v] = (A'.set q.1.toNat v).map eI := fun v => by rw [List.map_set]; rfl
  simp only [a'.d1, a'.el, eS, ug0, ugs, dI_n, cond_true]
  refine ⟨by omega, by rw [List.length_map]; omega, ?_⟩
  rw [hel']
  simp only [eI, ug0, dI_n]
  rw [w64 (x := 1125899906842624 - w' q.1) (by omega) (by omega)]
  refine cIf (fun h => hnone ?_) fun h => ⟨by omega, by rw [List.length_map]; omega, ?_⟩
  · rw [hmk, a'.e, wantsL_app, hw']
    simp only [wantsL, if_pos (show MaxQ < w' q.1 + q.2 by omega)]
  show elL (A'.map eI) q.1 _
  rw [hel']
  simp only [eI, ug0, dI_n]
  refine ⟨by omega, by rw [List.length_map]; omega, ?_⟩
  rw [w64 (x := w' q.1 + q.2) (by omega) (by omega)]
  refine a'.step ⟨upd w' q.1 (w' q.1 + q.2), A'.set q.1.toNat (w' q.1 + q.2), ?_, hA'.set (by omega) (by omega), upd_bd hbd (by omega), hset _⟩
  rw [wantsL_app, hw']
  simp only [wantsL, if_neg (show ¬ MaxQ < w' q.1 + q.2 by omega)]
end Go.Proofs.YtljgfkiiikcaaaaGreat

/- Bills: few parts; the same; what must come. -/
set_option linter.unusedVariables false
namespace Go.Proofs.YtljgfkiiikcaaaaGreat
open Go Go.Proofs
variable {Q : V → Mem → Prop} {c : Cat} {level : Int}

structure Few (c : Cat) : Prop where
  nb : c.blues.length ≤ 20
  ny : c.bays.length ≤ 12
  n : ∀ b ∈ c.blues, b.needs.length ≤ 12
theorem few_S (k : ∀ b : Bool, (b = true → Few c) → Q (.u (.b b)) []) : PRun Tryz.prog 5 [] [aC c] Q := by
  have fin : (∀ (i : Nat) (b : Bl), (i : Int) < 20 → c.blues[i]? = some b → b.needs.length ≤ 12) → bif decide (((c.blues.map eB).length : Int) ≤ 20) then Q (.u (.b (decide (((c.bays.map eY).length : Int) ≤ 12)))) [] else Q (.u (.b false)) [] := fun h => by
    rw [List.length_map, List.length_map]
    refine cIf (fun h1 => k _ fun h2 => ?_) fun _ => k false (by simp)
    have h2 := of_decide_eq_true h2
    refine ⟨by omega, by omega, fun b hb => ?_⟩
    obtain ⟨i, hi, rfl⟩ := List.getElem_of_mem hb
    exact h i _ (by omega) (by simp)
  refine S5 ⟨fun x => 0 ≤ x ∧ x ≤ 20 ∧ ∀ (i : Nat) (b : Bl), (i : Int) < x → c.blues[i]? = some b → b.needs.length ≤ 12, fun x => (20 - x).toNat, ⟨by omega, by omega, fun i b h => by omega⟩, ?_⟩
  rintro x ⟨h0, h20, hx⟩
  refine cIf (fun h1 => cIf (fun h2 => ?_) fun h2 => fin fun i b hi hb => hx i b (by omega) hb) fun h1 => fin fun i b hi hb => hx i b (by
    have := (List.getElem?_eq_some_iff.1 hb).1
    rw [List.length_map] at h1
    omega) hb
  rw [List.length_map] at h1
  have hlt : x.toNat < c.blues.length := by omega
  rw [elL_of (r := eB c.blues[x.toNat]) h0 (by simp [hlt])]
  simp only [eB, ug0, ugs, dL_l]
  refine cIf (fun _ => k false (by simp)) fun h => ⟨⟨by rw [w64 (by omega) (by omega)]; omega, by rw [w64 (by omega) (by omega)]; omega, fun i b hi hb => ?_⟩, by rw [w64 (by omega) (by omega)]; omega⟩
  rw [w64 (by omega) (by omega)] at hi
  by_cases he : (i : Int) < x
  · exact hx i b he hb
  · have : i = x.toNat := by omega
    subst this
    rw [List.getElem?_eq_getElem hlt] at hb
    cases hb
    rw [List.length_map] at h
    omega
theorem sameI_S {A B : List Int} (hA : A.length ≤ 1000000) (k : Q (.u (.b (decide (A = B)))) []) : PRun Tryz.prog 34 [] [.l 1 (A.map eI), .l 1 (B.map eI)] Q := by
  refine S34 ?_
  rw [List.length_map, List.length_map]
  refine cNe (fun h => ?_) fun h => ?_
  · have : A ≠ B := fun e => by subst e; exact h rfl
    simpa [this] using k
  have hl : A.length = B.length := by omega
  obtain ⟨e1, e2⟩ := zip_fst hl
  have hAB : A = B ↔ ∀ p ∈ A.zip B, p.1 = p.2 := by
    constructor
    · rintro rfl p hp
      obtain ⟨i, hi, rfl⟩ := List.getElem_of_mem hp
      simp
    · intro h
      exact e1.symm.trans ((List.map_congr_left h).trans e2)
  generalize A.zip B = z at *
  have hzl : z.length ≤ 1000000 := by rw [← e1, List.length_map] at hA; exact hA
  rw [← e1, ← e2]
  rw [← e1, ← e2] at hAB k
  refine ⟨AtI z fun t _ => ∀ p ∈ t, p.1 = p.2, SufM z, .zero (by omega) (by simp), ?_⟩
  rintro x ⟨t, _ | ⟨p, l⟩, s, h⟩
  · have hx := s.k
    rw [s.all] at h hx
    rw [List.length_map, List.length_map, hx]
    refine cIf (fun h => by omega) fun _ => ?_
    rwa [decide_eq_true (hAB.2 h)] at k
  simp only [List.map_map, s.d1, s.el, cond_true, Function.comp_apply, eI, ug0, dI_n]
  refine cNe (fun hne => ?_) fun he => s.step fun q hq => ?_
  · have : ¬ (z.map (·.1) = z.map (·.2)) := fun e => hne (hAB.1 e p (by rw [s.e]; simp))
    rwa [decide_eq_false this] at k
  · rcases List.mem_append.1 hq with hq | hq
    · exact h q hq
    · simp at hq; subst hq; exact he
abbrev aM (b : BomV) : V := .a [.l 2 (b.1.map eS), .l 1 (b.2.1.map eI), .l 2 (b.2.2.map eS)]
theorem sameB_S {a b : BomV} (h1 : a.1.length ≤ 1000000 ∧ b.1.length ≤ 1000000) (h2 : a.2.1.length ≤ 1000000) (h3 : a.2.2.length ≤ 1000000 ∧ b.2.2.length ≤ 1000000) (k : Q (.u (.b (decide (a = b)))) []) : PRun Tryz.prog 9 [] [aM a, aM b] Q := by
  obtain ⟨a1, a2, a3⟩ := a
  obtain ⟨b1, b2, b3⟩ := b
  have he : decide ((a1, a2, a3) = (b1, b2, b3)) = (decide (a1 = b1) && (decide (a2 = b2) && decide (a3 = b3))) := by simp
  rw [he] at k
  refine S9 (same_S h1.1 h1.2 ?_)
  rw [post_B]
  refine cB (fun e => sameI_S h2 ?_) fun e => ?_
  · rw [post_B]
    refine cB (fun e2 => same_S h3.1 h3.2 ?_) fun e2 => ?_
    · rw [post_B]; rwa [e, e2, Bool.true_and, Bool.true_and] at k
    · rwa [e, e2, Bool.true_and, Bool.false_and] at k
  · rwa [e, Bool.false_and] at k
end Go.Proofs.YtljgfkiiikcaaaaGreat

/- Bills: what must come, whatever the arguments are. -/
set_option linter.unusedVariables false
namespace Go.Proofs.YtljgfkiiikcaaaaGreat
open Go Go.Proofs
variable {Q : V → Mem → Prop}

abbrev plB2 : Bl := ⟨2, 5, 10, [(1, 3)], 0, 0, 5⟩
abbrev plB3 : Bl := ⟨3, 1, 7, [(2, 2)], 0, 0, 5⟩
abbrev plain : Cat := ⟨3, [plB2, plB3], 1, [], 1, 0, 0, 0⟩
theorem plain_S (k : Q (aC plain) []) : PRun Tryz.prog 16 [] [] Q := S16 k
theorem plain_rg : plain.Rg := ⟨fun b hb => by
  simp at hb; rcases hb with rfl | rfl <;> exact ⟨fun s hs => by simp at hs; subst hs; decide, by decide⟩, by decide, by decide⟩
theorem cnt_one {a q x : Int} (h : a ≠ x) : ¬ 0 < cntN [(a, q)] x := by
  unfold cntN
  split
  · simp [tot, h]
  · simp
theorem plB2_ok : BlueOK plB2 3 := ⟨by decide, by decide, by decide, by decide, by decide, by decide, by decide, ⟨by decide, by decide, fun s hs => by simp at hs; subst hs; decide⟩, cnt_one (by decide)⟩
theorem plB3_ok : BlueOK plB3 3 := ⟨by decide, by decide, by decide, by decide, by decide, by decide, by decide, ⟨by decide, by decide, fun s hs => by simp at hs; subst hs; decide⟩, cnt_one (by decide)⟩
theorem plain_sz : plain.Sz := ⟨by decide, by decide, by decide, by decide, by decide, fun b hb => by
  simp at hb; rcases hb with rfl | rfl
  · exact blueE_ok.2 plB2_ok
  · exact blueE_ok.2 plB3_ok, by simp, by decide⟩
theorem plain_pairs : pairsL plain.blues = [(2, 1), (3, 2)] := rfl
theorem nx_iff {out : List Int} {k : Int} : Nx1 [(2, 1), (3, 2)] 3 out k ↔ 1 ≤ k ∧ k ≤ 3 ∧ k ∉ out ∧ (2 = k → (1 : Int) ∈ out) ∧ (3 = k → (2 : Int) ∈ out) := by
  unfold Nx1; simp
theorem plain_gr : Greedy [(2, 1), (3, 2)] 3 [1, 2, 3] ∧ ∀ k, ¬ Nx1 [(2, 1), (3, 2)] 3 [1, 2, 3] k := by
  refine ⟨.snoc (out := [1, 2]) (.snoc (out := [1]) (.snoc (out := []) .nil ?_ ?_) ?_ ?_) ?_ ?_, fun k => ?_⟩
  all_goals simp only [nx_iff]
  · simp
  · intro j h; omega
  · simp
  · intro j h; simp at h; omega
  · simp
  · intro j h; simp at h; omega
  · intro h; simp at h; omega
theorem plain_ord : orderR plain.types (pairsL plain.blues) = ([1, 2, 3], 0) := by
  unfold orderR
  rw [plain_pairs, if_pos ⟨by decide, by decide, by decide, fun p hp => by simp at hp; rcases hp with rfl | rfl <;> decide⟩, ordG_eq plain_gr.1 plain_gr.2]
  rfl
theorem plain_cat : catE plain = 0 := by
  have h1 : (deepR plain.types (pairsL plain.blues)).2 = 0 := by unfold deepR; rw [plain_ord]; rfl
  have h2 : deepL plain.types (pairsL plain.blues) = [0, 1, 2] := by
    unfold deepL; rw [plain_pairs, show plain.types = 3 from rfl, ordG_eq plain_gr.1 plain_gr.2]; rfl
  unfold catE
  rw [if_pos plain_sz, if_neg (by rw [h1]; simp), if_neg (by rw [h2]; simp)]
theorem plain_may {kind : Int} (h : 1 ≤ kind ∧ kind ≤ 3) {l : List Stk} (hl : chkE l 3 = 0) : mayE plain kind 0 l = 0 := by
  unfold mayE
  rw [plain_cat, if_neg (by simp), if_pos ⟨inn_iff.2 h, by decide⟩]
  exact hl
theorem chk_nil (t : Int) : chkE [] t = 0 := by unfold chkE; simp [chkL]
theorem plain_raw : chkE [(1, 3)] 3 = 0 := by unfold chkE; decide
theorem sn_self {l : List Stk} (hs : l.Pairwise (fun a b => a.1 < b.1)) (hq : ∀ p ∈ l, 1 ≤ p.2) : normL' l = l :=
  normL'_eq (sn_sorted (.refl _) (hs.imp fun h => by omega) (by
    rw [List.Nodup, List.pairwise_map]
    exact hs.imp fun h => by omega) hq)
theorem plain_exp : expR plain 3 1 0 [] = (([(1, 3)], [1, 1], [(2, 3)]), 0) := by
  have ht : topR plain = [3, 2, 1] := by unfold topR; rw [plain_ord]; rfl
  have he : ∃ s, expL plain 0 [] [3, 2, 1] (es0 plain 3 1) = some s ∧ s.raw = [(1, 3)] ∧ s.runs = [1, 1] ∧ s.left = [(2, 3)] := ⟨_, rfl, by decide, by decide, by decide⟩
  obtain ⟨s, h1, h2, h3, h4⟩ := he
  unfold expR
  rw [plain_may (by omega) (chk_nil _), if_neg (by simp), if_pos (by decide), ht, h1]
  simp only [h2, h3, h4]
  rw [sn_self (by simp) (by simp), sn_self (by simp) (by simp)]
theorem plain_co : ∃ out, CatOK plain out := cat_ok plain_cat
theorem time_R {b : Bl} {runs : Int} (hb : BlueOK b 3) (hr : 1 ≤ runs ∧ runs ≤ 1000) : timeR b 0 runs = (upI (b.time * runs * 100) 100, 0) := by
  unfold timeR
  rw [if_pos ⟨⟨blueE_ok.2 hb.mono, by decide⟩, inn_iff.2 hr⟩]
  rfl
theorem plain_ro : runsOK plain [1, 1] ∧ runsOK plain [2, 0] := ⟨⟨rfl, by simp [inn]⟩, ⟨rfl, by simp [inn]⟩⟩
theorem plain_path : pathR plain 3 [1, 1] 0 = (17, 0) := by
  obtain ⟨out, co⟩ := plain_co
  have w := pathV_way (level := 0) co plain_ro.1
  have w1 := w 1 (by decide) (by decide)
  have w2 := w 2 (by decide) (by decide)
  have w3 := w 3 (by decide) (by decide)
  have e1 : pathV plain [1, 1] 0 1 = 0 := by rw [w1]; rfl
  have e2 : pathV plain [1, 1] 0 2 = 10 := by
    rw [w2]
    show (timeR plB2 0 1).1 + maxF _ 0 [(1, 3)] = 10
    rw [time_R plB2_ok (by decide)]
    simp only [maxF, e1]
    decide
  have e3 : pathV plain [1, 1] 0 3 = 17 := by
    rw [w3]
    show (timeR plB3 0 1).1 + maxF _ 0 [(2, 2)] = 17
    rw [time_R plB3_ok (by decide)]
    simp only [maxF, e2]
    decide
  unfold pathR
  rw [plain_may (by omega) (chk_nil _), if_neg (by simp), if_pos plain_ro.1, e3]
theorem plain_whole : wholeR plain [2, 0] 0 = (20, 0) := by
  have e : timesL plain [2, 0] 0 = [20, 0] := by
    show [timeN 0 (2, plB2), timeN 0 (0, plB3)] = _
    unfold timeN
    rw [if_pos (by decide), if_neg (by decide), time_R plB2_ok (by decide)]
    decide
  unfold wholeR
  rw [plain_may (by omega) (chk_nil _), if_neg (by simp), if_pos plain_ro.2, e]
  rfl
theorem plain_needs : needOK 0 ([1, 1].zip plain.blues) := by
  intro p hp _
  have : p = (1, plB2) ∨ p = (1, plB3) := by simpa using hp
  rcases this with rfl | rfl <;> decide
theorem plain_fits : fitsP plain 3 1 0 [(1, 3)] [1, 1] := by
  refine ⟨plain_may (by omega) plain_raw, by decide, plain_ro.1, plain_needs, fun t h1 h2 => ?_⟩
  have : t = 1 ∨ t = 2 ∨ t = 3 := by simp at h2; omega
  rcases this with rfl | rfl | rfl <;> decide
theorem plain_nofit : ¬ fitsP plain 3 2 0 [(1, 3)] [1, 1] := fun h => absurd (h.2.2.2.2 3 (by decide) (by decide)) (by decide)
theorem post_C {F : Int → List (List U) → Int → List (List U) → Int → Int → Int → Int → Prop} {c : Cat} {m : Mem} : post [.agg [.i .i64, .l 7, .i .i64, .l 4, .i .i64, .i .i64, .i .i64, .i .i64]] [] F (aC c) m = F c.types (c.blues.map eB) c.places (c.bays.map eY) c.chars c.broker c.least c.sales := rfl
theorem post_BE {F : List (List U) → List (List U) → List (List U) → Int → Prop} {r : BomV × Int} {m : Mem} : post [.agg [.l 2, .l 1, .l 2], .I] [] F (vBE r) m = F (r.1.1.map eS) (r.1.2.1.map eI) (r.1.2.2.map eS) r.2 := rfl
theorem awake_S (k : Q (.u (.b true)) []) : PRun Tryz.prog 6 [] [] Q := by
  refine S6 (plain_S ?_)
  rw [post_C]
  refine pExpand_S (c := plain) (have' := []) plain_rg (by intro s hs; cases hs) (by decide) ?_
  rw [plain_exp, post_BE]
  refine plain_S ?_
  rw [post_C]
  refine pPathR_S (c := plain) (runs := [1, 1]) plain_rg (by decide) ?_
  rw [plain_path, post_II]
  refine plain_S ?_
  rw [post_C]
  refine pWhole_S (c := plain) (runs := [2, 0]) plain_rg (by decide) ?_
  rw [plain_whole, post_II]
  intro kk hk
  have hk := hk true k
  refine (fun rest => ⟨dup rest, dup (dup rest)⟩) ?_
  refine sameB_S (a := ([(1, 3)], [1, 1], [(2, 3)])) (b := ([(1, 3)], [1, 1], [(2, 3)])) (by decide) (by decide) (by decide) ?_
  rw [decide_eq_true rfl, post_B]
  refine plain_S ?_
  rw [post_C]
  refine pFits_S (c := plain) (raw := [(1, 3)]) (runs := [1, 1]) plain_rg (by decide) (fun s hs => by simp at hs; subst hs; decide) (by decide) fun b hb => ?_
  rw [post_B, hb.2 plain_fits]
  refine plain_S ?_
  rw [post_C]
  refine pFits_S (c := plain) (raw := [(1, 3)]) (runs := [1, 1]) plain_rg (by decide) (fun s hs => by simp at hs; subst hs; decide) (by decide) fun b hb => ?_
  rw [post_B]
  have : b = false := by
    cases b with
    | false => rfl
    | true => exact absurd (hb.1 rfl) plain_nofit
  rw [this]
  exact hk
end Go.Proofs.YtljgfkiiikcaaaaGreat

/- The laws BomExpands and BomTakes: what they are given; what they answer. -/
set_option linter.unusedVariables false
namespace Go.Proofs.YtljgfkiiikcaaaaGreat
open Go Go.Proofs
variable {Q : V → Mem → Prop}

/- ## What is given, as data -/
theorem conv_S (r : List U) (h : ShU (.i .i64 (.i .i64 .nil)) r) : ∃ s : Stk, r = eS s ∧ ((-9223372036854775808 ≤ s.1 ∧ s.1 ≤ 9223372036854775807) ∧ (-9223372036854775808 ≤ s.2 ∧ s.2 ≤ 9223372036854775807)) := by
  obtain ⟨n, _, rfl, hw, m, _, rfl, hw2, rfl⟩ := h
  exact ⟨(n, m), rfl, in64_of hw, in64_of hw2⟩
theorem conv_I (r : List U) (h : ShU (.i .i64 .nil) r) : ∃ x : Int, r = eI x ∧ in64 x := by
  obtain ⟨n, _, rfl, hw, rfl⟩ := h
  exact ⟨n, rfl, in64_of hw⟩
abbrev dsB : Ds := .i .i64 (.i .i64 (.i .i64 (.l 2 (.i .i64 (.i .i64 .nil)) (.i .i64 (.i .i64 (.i .i64 .nil))))))
abbrev dsY : Ds := .i .i64 (.i .i64 (.i .i64 (.i .i64 .nil)))
abbrev dsC : Ds := .i .i64 (.l 7 dsB (.i .i64 (.l 4 dsY (.i .i64 (.i .i64 (.i .i64 (.i .i64 .nil)))))))
theorem conv_B (r : List U) (h : ShU dsB r) : ∃ b : Bl, r = eB b ∧ rng b.needs := by
  obtain ⟨a, _, rfl, -, b, _, rfl, -, c, _, rfl, -, rows, _, rfl, -, hs, d, _, rfl, -, e, _, rfl, -, f, _, rfl, -, rfl⟩ := h
  obtain ⟨l, rfl, hl⟩ := rows_of conv_S hs
  exact ⟨⟨a, b, c, l, d, e, f⟩, rfl, hl⟩
theorem conv_Y (r : List U) (h : ShU dsY r) : ∃ y : Bay, r = eY y ∧ True := by
  obtain ⟨a, _, rfl, -, b, _, rfl, -, c, _, rfl, -, d, _, rfl, -, rfl⟩ := h
  exact ⟨⟨a, b, c, d⟩, rfl, trivial⟩
theorem conv_C (us : List U) (h : ShU dsC us) : ∃ c : Cat, V.a (us.map .u) = aC c ∧ ∀ b ∈ c.blues, rng b.needs := by
  obtain ⟨a, _, rfl, -, rows, _, rfl, -, hs, b, _, rfl, -, rows2, _, rfl, -, hs2, d, _, rfl, -, e, _, rfl, -, f, _, rfl, -, g, _, rfl, -, rfl⟩ := h
  obtain ⟨l, rfl, hl⟩ := rows_of conv_B hs
  obtain ⟨m, rfl, -⟩ := rows_of conv_Y hs2
  exact ⟨⟨a, l, b, m, d, e, f, g⟩, rfl, hl⟩
theorem Few.rg {c : Cat} (f : Few c) (h : ∀ b ∈ c.blues, rng b.needs) : c.Rg :=
  ⟨fun b hb => ⟨h b hb, by have := f.n b hb; omega⟩, by have := f.nb; omega, by have := f.ny; omega⟩
theorem sn_len {l r : List Stk} (h : SN l r) : r.length ≤ l.length := by
  have hn : (r.map (·.1)).Nodup := by
    rw [List.Nodup, List.pairwise_map]
    exact h.1.imp fun h => by omega
  have hs : r.map (·.1) ⊆ l.map (·.1) := fun k hk => by
    obtain ⟨p, hp, rfl⟩ := List.mem_map.1 hk
    obtain ⟨h1, h2⟩ := (h.2 p.1 p.2).1 hp
    obtain ⟨s, hs, e⟩ := tot_pos (l := l) (k := p.1) (by omega)
    exact List.mem_map.2 ⟨s, hs, e⟩
  simpa using hn.length_le_of_subset hs
theorem normL'_len (l : List Stk) : (normL' l).length ≤ l.length := by
  unfold normL'
  split
  · rename_i h; exact sn_len h.choose_spec
  · simp
theorem expR_len {c : Cat} {kind n level : Int} {have' : List Stk} (hc : c.Rg) : (expR c kind n level have').1.1.length ≤ 1000000 ∧ (expR c kind n level have').1.2.1.length ≤ 1000000 ∧ (expR c kind n level have').1.2.2.length ≤ 1000000 := by
  unfold expR
  split
  · simp
  rename_i hm
  split
  rotate_left
  · simp
  rename_i hn
  have hn := inn_iff.1 hn
  have hM : MaxQ = 1125899906842624 := rfl
  obtain ⟨hcat, hk, hlv, hchk⟩ := mayE_zero (by simpa using hm)
  obtain ⟨out, co⟩ := cat_ok hcat
  have hty := inn_iff.1 co.sz.types
  have hhe := errN_zero.1 (chkE_iff.1 hchk).sn.1
  split
  · simp
  rename_i s hs
  have ok := expL_ok co.sz hlv (fun u => tot_nonneg hhe.1 u) (es0_ok (c := c) (kind := kind) (by omega)) hs
  have ht : (topR c).length ≤ 32 := by
    unfold topR
    rw [co.r]
    have := nodup_len co.g.nodup co.g.mem (by omega)
    simp; omega
  have h1 := ok.raw.length_le
  have h2 := ok.left.length_le
  have h3 := normL'_len s.raw
  have h4 := normL'_len s.left
  have h5 := ok.rl
  have h6 := hc.nb
  simp at h1 h2
  refine ⟨?_, ?_, ?_⟩ <;> simp only <;> omega

/- ## The laws -/
theorem expands_S {c : Cat} {kind n level : Int} {have' : List Stk} (hb : ∀ b ∈ c.blues, rng b.needs) (hr : rng have') (k : Q (.u (.b true)) []) : PRun Tryz.prog 3 [] [aC c, .a [.i kind, .i n, .i level], .l 2 (have'.map eS)] Q := by
  refine S3 (few_S fun b hf => ?_)
  rw [post_B]
  refine cNot (cB (fun h => ?_) fun _ => awake_S ?_)
  rotate_left
  · rw [post_B]; exact k
  have hc := (hf h).rg hb
  refine cIf (fun h => awake_S ?_) fun h => pExpand_S hc hr (by simp at h; omega) ?_
  · rw [post_B]; exact k
  rw [post_BE]
  refine rExpand_S hc hr (by simp at h; omega) ?_
  rw [post_BE]
  have hl := expR_len (kind := kind) (n := n) (level := level) (have' := have') hc
  generalize expR c kind n level have' = r at *
  refine sameB_S (a := r.1) (b := r.1) ⟨hl.1, hl.1⟩ hl.2.1 ⟨hl.2.2, hl.2.2⟩ ?_
  rw [decide_eq_true rfl, post_B]
  refine cEq (fun _ => awake_S ?_) fun h => absurd rfl h
  rw [post_B]; exact k
theorem bool_same {a b : Bool} {p : Prop} (ha : a = true ↔ p) (hb : b = true ↔ p) : a = b := by
  cases a <;> cases b <;> simp_all
theorem takes_S {c : Cat} {kind n level : Int} {raw : List Stk} {runs : List Int} (hb : ∀ b ∈ c.blues, rng b.needs) (hr : rng raw) (k : Q (.u (.b true)) []) : PRun Tryz.prog 4 [] [aC c, .a [.i kind, .i n, .i level], .a [.l 1 (runs.map eI), .l 2 (raw.map eS)]] Q := by
  refine S4 (few_S fun b hf => ?_)
  rw [post_B]
  refine cNot (cB (fun h => ?_) fun _ => awake_S ?_)
  rotate_left
  · rw [post_B]; exact k
  have hc := (hf h).rg hb
  refine cIf (fun h => awake_S ?_) fun h1 => cIf (fun h => awake_S ?_) fun h2 => ?_
  · rw [post_B]; exact k
  · rw [post_B]; exact k
  have hl : runs.length ≤ 1000000 := by simp at h1; omega
  have hw : raw.length ≤ 1000 := by simp at h2; omega
  refine pPathR_S hc hl ?_
  rw [post_II]
  refine rPathR_S hc hl ?_
  rw [post_II]
  refine pWhole_S hc hl ?_
  rw [post_II]
  refine rWhole_S hc hl ?_
  rw [post_II]
  refine cEq (fun _ => ?_) fun h => absurd rfl h
  refine cEq (fun _ => ?_) fun h => absurd rfl h
  refine cEq (fun _ => ?_) fun h => absurd rfl h
  refine cEq (fun _ => ?_) fun h => absurd rfl h
  refine pFits_S hc hl hr hw fun b1 hb1 => ?_
  rw [post_B]
  refine rFits_S hc hl hr hw fun b2 hb2 => ?_
  rw [post_B, bool_same hb1 hb2]
  have : (b2 == b2) = true := by cases b2 <;> rfl
  rw [this]
  refine awake_S ?_
  rw [post_B]; exact k
theorem bomExpands_run {us0 us1} (sh0 : ShU dsC us0) (sh1 : ShU (.i .i64 (.i .i64 (.i .i64 .nil))) us1) {rows2} (hl2 : rows2.length ≤ maxLen) (hs2 : ∀ r ∈ rows2, ShU (.i .i64 (.i .i64 .nil)) r) :
    PRun Tryz.prog 3 [] [.a (us0.map .u), .a (us1.map .u), .l 2 rows2] fun v _ => v = .u (.b true) := by
  obtain ⟨c, e, hb⟩ := conv_C us0 sh0
  obtain ⟨a, _, rfl, -, b, _, rfl, -, d, _, rfl, -, rfl⟩ := sh1
  obtain ⟨l, rfl, hl⟩ := rows_of conv_S hs2
  rw [e]
  exact expands_S hb hl rfl
theorem bomTakes_run {us0 us1 us2} (sh0 : ShU dsC us0) (sh1 : ShU (.i .i64 (.i .i64 (.i .i64 .nil))) us1) (sh2 : ShU (.l 1 (.i .i64 .nil) (.l 2 (.i .i64 (.i .i64 .nil)) .nil)) us2) :
    PRun Tryz.prog 4 [] [.a (us0.map .u), .a (us1.map .u), .a (us2.map .u)] fun v _ => v = .u (.b true) := by
  obtain ⟨c, e, hb⟩ := conv_C us0 sh0
  obtain ⟨a, _, rfl, -, b, _, rfl, -, d, _, rfl, -, rfl⟩ := sh1
  obtain ⟨rows, _, rfl, -, hs, rows2, _, rfl, -, hs2, rfl⟩ := sh2
  obtain ⟨l, rfl, -⟩ := rows_of conv_I hs
  obtain ⟨m, rfl, hm⟩ := rows_of conv_S hs2
  rw [e]
  exact takes_S hb hm rfl
end Go.Proofs.YtljgfkiiikcaaaaGreat

/- The row of BomTakes: whatever it is given it returns true, and what it was given reads as it did. -/
namespace Go.Proofs.YtljgfkiiikcaaaaGreat
open Go Go.Proofs Go.ChangeShapes Go.WideShapes Go.ChangeAt Go.RowKit

set_option maxRecDepth 100000 in
theorem bomTakes_lifted (os : Os) (started : os.Started) (H : Type) (enc : TypeId × Value → H) :
    ReturnsInHanded {} Tryz.checked os 4 .any (Rows.bomTakesSpec.pre6 enc Tryz.prog Tryz.f4 Rows.bomTakesRow.domain false) (Rows.bomTakesSpec.post enc Tryz.prog Tryz.f4 false true false false) := by
  refine returnsInHanded_of_change (C := Tryz.checked) Tryz.own started (by kernel_rfl) Tryz.func4
    (ChangeSpec.witness6 (enc := enc) (C := Tryz.checked) false ⟨#[], #[.agg #[.int .i64 0, .slice none 0 0, .int .i64 0, .slice none 0 0, .int .i64 0, .int .i64 0, .int .i64 0, .int .i64 0], .agg #[.int .i64 0, .int .i64 0, .int .i64 0], .agg #[.slice none 0 0, .slice none 0 0]], []⟩ 8 (by kernel_rfl) (by kernel_rfl) (by kernel_rfl) (by kernel_rfl)) ?_
  intro W base args ds gs before hval0 hW hcnd _
  have hval : ∀ (j : Nat) t v, Tryz.f4.params[j]? = some t → args[j]? = some v → Value.okWide Tryz.prog W .any base t v := hval0
  have hW' := hW
  obtain ⟨p, q, hA0, hV, rfl, hfz, hnd⟩ := hW
  have hA : DataW.TrodAll enc Tryz.prog W 0 (fun _ => true) true Tryz.f4.params.toList args.toList ds p := hA0
  rw [Tryz.params4] at hA hval
  obtain ⟨v0, v1, v2, d0, d1, d2, p0, p1, p2, rfl, rfl, rfl, h0, h1, h2⟩ := trodAll_three hA
  obtain ⟨rfl, rfl⟩ := trodVars_none hV
  obtain ⟨us0, hr0, sh0⟩ := open_data (ds := (.i .i64 (.l 7 (.i .i64 (.i .i64 (.i .i64 (.l 2 (.i .i64 (.i .i64 .nil)) (.i .i64 (.i .i64 (.i .i64 .nil))))))) (.i .i64 (.l 4 (.i .i64 (.i .i64 (.i .i64 (.i .i64 .nil)))) (.i .i64 (.i .i64 (.i .i64 (.i .i64 .nil))))))))) (by kernel_rfl) h0
  obtain ⟨cs0, rfl⟩ : ∃ cs, v0 = .agg cs := by
    have hv := hval 0 27 v0 rfl rfl
    unfold Value.okWide at hv
    rw [Tryz.underlying27] at hv
    obtain ⟨cs, rfl, -⟩ := hv
    exact ⟨cs, rfl⟩
  obtain ⟨us1, hr1, sh1⟩ := open_data (ds := (.i .i64 (.i .i64 (.i .i64 .nil)))) (by kernel_rfl) h1
  obtain ⟨cs1, rfl⟩ : ∃ cs, v1 = .agg cs := by
    have hv := hval 1 29 v1 rfl rfl
    unfold Value.okWide at hv
    rw [Tryz.underlying29] at hv
    obtain ⟨cs, rfl, -⟩ := hv
    exact ⟨cs, rfl⟩
  obtain ⟨us2, hr2, sh2⟩ := open_data (ds := (.l 1 (.i .i64 .nil) (.l 2 (.i .i64 (.i .i64 .nil)) .nil))) (by kernel_rfl) h2
  obtain ⟨cs2, rfl⟩ : ∃ cs, v2 = .agg cs := by
    have hv := hval 2 42 v2 rfl rfl
    unfold Value.okWide at hv
    rw [Tryz.underlying42] at hv
    obtain ⟨cs, rfl, -⟩ := hv
    exact ⟨cs, rfl⟩
  clear hA0 hval0
  refine ((bomTakes_run sh0 sh1 sh2 (allD W.heap) [] [] [] W.heap _ (SAt.all W.heap) (.cons (rp_agg hr0) (.cons (rp_agg hr1) (.cons (rp_agg hr2) (.nil))))).2 W rfl).mono ?_
  rintro e W' ⟨v, rfl, ⟨D', ρ', chs', x, m', le, M', hv, rfl⟩, hsm⟩
  obtain rfl : v = .bool true := by cases hv with | u h => cases h; rfl
  have hb := belowOf (St.kept le M'.st) hsm
  have hlt0 : ∀ x ∈ p0, x.block < W.heap.size := fun x hx => by simpa using hW'.lt x (by simp [hx])
  have hlt1 : ∀ x ∈ p1, x.block < W.heap.size := fun x hx => by simpa using hW'.lt x (by simp [hx])
  have hlt2 : ∀ x ∈ p2, x.block < W.heap.size := fun x hx => by simpa using hW'.lt x (by simp [hx])
  exact ⟨_, rfl, _, _, _, [], _, [], hW', trodAll_mk1 (shut_bool Tryz.underlying4 true), trodAll_mk3 (hb.trod Tryz.laidOut (by kernel_rfl) (of_decide_eq_true (by kernel_rfl)) h0 hlt0) (hb.trod Tryz.laidOut (by kernel_rfl) (of_decide_eq_true (by kernel_rfl)) h1 hlt1) (hb.trod Tryz.laidOut (by kernel_rfl) (of_decide_eq_true (by kernel_rfl)) h2 hlt2), rfl, hb.frame _, fun h => by cases h⟩

/-- The statement. -/
theorem bomTakes_holds : Rows.BomTakesSaid :=
  OpenClaim.holds_of_wide 4 Tryz.f4 rfl rfl rfl rfl rfl rfl rfl ⟨rfl, rfl, rfl, rfl, rfl⟩ rfl rfl rfl rfl rfl (by kernel_rfl) Tryz.func4 (by kernel_rfl)
    (of_decide_eq_true (by kernel_rfl)) (by unfold Func.isWrapper; first | (rw [if_pos (by decide +kernel)]; kernel_rfl) | (rw [if_neg (by decide +kernel)]; exact ⟨rfl, rfl⟩))
    (fun os started H enc _ => bomTakes_lifted os started H enc)
end Go.Proofs.YtljgfkiiikcaaaaGreat
