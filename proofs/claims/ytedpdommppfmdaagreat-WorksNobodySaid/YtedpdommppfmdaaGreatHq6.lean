/- The row of WorksNobody: whatever it is given it returns true, and what it was given reads as it did. -/
import Derived.Test.YtedpdommppfmdaaGreatHq5
import Derived.Test.YtedpdommppfmdaaGreatRows
import Derived.ProofKit
import Derived.Deep.SlicePairs
/- May a catalogue be: the code's and the document's Check. -/
set_option linter.unusedVariables false
namespace Go.Proofs.YtedpdommppfmdaaGreat
open Go Go.Proofs
variable {Q : V → Mem → Prop} {c : Cat}
def bayOK (c : Cat) (y : Bay) : Prop := inn y.place 1 c.places = true ∧ inn y.make 0 8 = true ∧ inn y.lab 0 8 = true ∧ inn y.rate 0 10000 = true
structure Cat.Sz (c : Cat) : Prop where
  types : inn c.types 1 32 = true
  places : inn c.places 1 8 = true
  chars : inn c.chars 1 16 = true
  nb : c.blues.length ≤ 16
  ny : c.bays.length ≤ 8
  bl : ∀ b ∈ c.blues, blueE b c.types = 0
  by' : ∀ y ∈ c.bays, bayOK c y
  fee : feeOK c = true
open Classical in
noncomputable def catE (c : Cat) : Int := if c.Sz then (if (deepR c.types (pairsL c.blues)).2 ≠ 0 then (deepR c.types (pairsL c.blues)).2 else if ∃ d ∈ deepL c.types (pairsL c.blues), 8 < d then 5 else 0) else 1
theorem deep_len {n : Int} {L : List Stk} (h : (deepR n L).2 = 0) : gOK n L ∧ ((deepL n L).length : Int) = n ∧ (deepR n L).1 = deepL n L := by
  have h1 : (orderR n L).2 = 0 := by
    unfold deepR at h
    by_cases h2 : (orderR n L).2 = 0
    · exact h2
    · rw [if_neg h2] at h; exact h
  unfold deepR orderR at h
  by_cases hg : gOK n L
  · refine ⟨hg, ?_, ?_⟩
    · unfold deepL
      have : ∀ (l : List Int) (o : List Int), (l.foldl (dnode L) o).length = o.length := by
        intro l
        induction l with
        | nil => intro o; rfl
        | cons a l ih =>
          intro o
          rw [List.foldl_cons, ih]
          unfold dnode
          generalize needsOf L a.toNat = xs
          induction xs generalizing o with
          | nil => rfl
          | cons x xs ih2 => rw [List.foldl_cons, ih2]; simp [dstep]
      rw [this]
      have := hg.n0
      simp; omega
    · unfold deepR
      rw [if_pos h1]
  · rw [if_neg hg] at h
    simp at h
theorem sizes_S (hc : c.Rg) (k : ∀ b : Bool, (b = true ↔ c.Sz) → Q (.u (.b b)) []) : PRun Tryz.prog 136 [] [aC c] Q := by
  refine S136 fun k1 hk1 => ?_
  have hnb := hc.nb
  have hny := hc.ny
  have H : ∀ b1 : Bool, (b1 = true ↔ inn c.types 1 32 = true ∧ inn c.places 1 8 = true ∧ inn c.chars 1 16 = true ∧ c.blues.length ≤ 16 ∧ c.bays.length ≤ 8) → k1 b1 := by
    intro b1 hb1
    refine hk1 b1 fun k2 hk2 => ?_
    have bad : ¬ c.Sz → k2 false := fun h => hk2 false (k false (by simp [h]))
    refine cB (fun h1 => ?_) fun h1 => bad fun z => by rw [hb1.2 ⟨z.types, z.places, z.chars, z.nb, z.ny⟩] at h1; cases h1
    obtain ⟨n1, n2, n3, n4, n5⟩ := hb1.1 h1
    refine ⟨AtI c.blues fun t _ => ∀ b ∈ t, blueE b c.types = 0, SufM c.blues, .zero (by omega) (by simp), ?_⟩
    rintro x ⟨t, _ | ⟨b, l⟩, s, ht⟩
    case cons =>
      have hm : b ∈ c.blues := by rw [s.e]; simp
      simp only [s.d1, s.el, eB, ug0, ugs, dI_n, dL_l, cond_true]
      refine pBlue_S (hc.b b hm) ?_
      rw [post_I, decide_eq_true (show x ≥ 0 from s.suf.lt.1), Bool.not_true, cond_false]
      refine cNe (fun h => bad fun z => h (z.bl b hm)) fun h => s.step fun u hu => ?_
      rcases List.mem_append.1 hu with hu | hu
      · exact ht u hu
      · simp at hu; subst hu; exact h
    rw [s.all] at ht
    rw [s.d0, cond_false]
    refine ⟨AtI c.bays fun t _ => ∀ y ∈ t, bayOK c y, SufM c.bays, .zero (by omega) (by simp), ?_⟩
    rintro x ⟨t2, _ | ⟨y, l⟩, s, ht2⟩
    case cons =>
      have hm : y ∈ c.bays := by rw [s.e]; simp
      simp only [s.d1, s.el, eY, ug0, ugs, dI_n, dL_l, cond_true, decide_eq_true (show x ≥ 0 from s.suf.lt.1), Bool.not_true, cond_false]
      refine in2_S ?_
      rw [post_B]
      refine cNot (cB (fun o1 => in2_S ?_) fun h => bad fun z => by rw [(z.by' y hm).1] at h; cases h)
      rw [post_B]
      refine cNot (cB (fun o2 => in2_S ?_) fun h => bad fun z => by rw [(z.by' y hm).2.1] at h; cases h)
      rw [post_B]
      refine cNot (cB (fun o3 => in2_S ?_) fun h => bad fun z => by rw [(z.by' y hm).2.2.1] at h; cases h)
      rw [post_B]
      refine cNot (cB (fun o4 => s.step fun u hu => ?_) fun h => bad fun z => by rw [(z.by' y hm).2.2.2] at h; cases h)
      rcases List.mem_append.1 hu with hu | hu
      · exact ht2 u hu
      · simp at hu; subst hu; exact ⟨o1, o2, o3, o4⟩
    rw [s.all] at ht2
    rw [s.d0, cond_false]
    refine pFee_S ?_
    rw [post_I]
    by_cases hf : feeOK c = true
    · rw [if_pos hf]; exact hk2 true (k true (by simp; exact ⟨n1, n2, n3, n4, n5, ht, ht2, hf⟩))
    · rw [if_neg hf]; exact bad fun z => hf z.fee
  refine in2_S ?_
  rw [post_B]
  refine cB (fun h1 => in2_S ?_) fun h => H false (by simp [h])
  rw [post_B]
  refine cB (fun h2 => in2_S ?_) fun h => H false (by simp [h])
  rw [post_B]
  refine cB (fun h3 => cIf (fun h4 => H _ ?_) fun h4 => H false ?_) fun h => H false (by simp [h])
  · simp only [List.length_map] at h4 ⊢
    simp [h1, h2, h3]; omega
  · simp only [List.length_map] at h4
    simp; omega
theorem max_S {l : List Int} (h0 : l ≠ []) (hl : l.length ≤ 1000000) (k : ∀ m ∈ l, (∀ y ∈ l, y ≤ m) → Q (.i m) []) : PRun Tryz.prog 139 [] [.l 1 (l.map eI)] Q := by
  rcases l with _ | ⟨a, l⟩
  · exact absurd rfl h0
  refine S139 (cIf (fun h => by simp at h; omega) fun _ => ?_)
  rw [elI (y := a) (by decide) rfl]
  refine ⟨fun m x => AtI (a :: l) (fun t _ => t ≠ [] ∧ m ∈ t ∧ ∀ y ∈ t, y ≤ m) x, fun _ => SufM (a :: l), ⟨[a], l, ⟨rfl, rfl, by simp at hl ⊢; omega⟩, by simp, by simp, by simp⟩, ?_⟩
  rintro m x ⟨t, _ | ⟨b, l2⟩, s, hne, hm, hle⟩
  · rw [s.d0]; rw [s.all] at hm hle
    exact k m hm hle
  · simp only [s.d1, s.el, eI, ug0, dI_n, cond_true]
    refine s.step ⟨by simp, ?_, fun y hy => ?_⟩
    · split <;> simp [hm]
    · rcases List.mem_append.1 hy with hy | hy
      · have := hle y hy; split <;> omega
      · simp at hy; subst hy; split <;> omega
theorem pCat_S (hc : c.Rg) (k : Q (.i (catE c)) []) : PRun Tryz.prog 70 [] [aC c] Q := by
  refine S70 (sizes_S hc fun b hb => ?_)
  rw [post_B]
  unfold catE at k
  refine cNot (cB (fun h => pPairs_S hc ?_) fun h => ?_)
  rotate_left
  · rwa [if_neg (fun z => by rw [hb.2 z] at h; cases h)] at k
  have z := hb.1 h
  rw [if_pos z] at k
  rw [post_L]
  refine pDeep_S ?_
  rw [post_LI]
  refine cNe (fun h => by rwa [if_pos h] at k) fun h => ?_
  rw [if_neg (by simpa using h)] at k
  obtain ⟨hg, hl, e⟩ := deep_len h
  have ht := inn_iff.1 z.types
  rw [e]
  refine max_S (fun h0 => by rw [h0] at hl; simp at hl; omega) (by omega) fun m hm hle => ?_
  rw [post_I]
  refine cIf (fun h => ?_) fun h => ?_
  · rwa [if_pos ⟨m, hm, h⟩] at k
  · rwa [if_neg (fun ⟨d, hd, h8⟩ => by have := hle d hd; omega)] at k
theorem rCat_S (hc : c.Rg) (k : Q (.i (catE c)) []) : PRun Tryz.prog 8 [] [aC c] Q := by
  have hnb := hc.nb
  have hny := hc.ny
  unfold catE at k
  have bad : ¬ c.Sz → Q (.i 1) [] := fun h => by rwa [if_neg h] at k
  refine S8 (in4_S ?_)
  rw [post_B]
  refine cNot (cB (fun n1 => in4_S ?_) fun h => bad fun z => by rw [z.types] at h; cases h)
  rw [post_B]
  refine cNot (cB (fun n2 => in4_S ?_) fun h => bad fun z => by rw [z.places] at h; cases h)
  rw [post_B]
  refine cNot (cB (fun n3 => ?_) fun h => bad fun z => by rw [z.chars] at h; cases h)
  simp only [List.length_map]
  refine cIf (fun h => bad fun z => by have := z.nb; omega) fun n4 => cIf (fun h => bad fun z => by have := z.ny; omega) fun n5 => rFee_S ?_
  rw [post_I]
  refine cNe (fun h => bad fun z => h (by rw [if_pos z.fee])) fun hf => ?_
  refine ⟨AtI c.blues fun t _ => ∀ b ∈ t, blueE b c.types = 0, SufM c.blues, .zero (by omega) (by simp), ?_⟩
  rintro x ⟨t, _ | ⟨b, l⟩, s, ht⟩
  case cons =>
    have hm : b ∈ c.blues := by rw [s.e]; simp
    rw [show (c.blues.length : Int) = ((c.blues.map eB).length : Int) by simp]
    simp only [s.d1, s.el, eB, ug0, ugs, dI_n, dL_l, cond_true]
    refine rBlue_S (hc.b b hm) ?_
    rw [post_I]
    refine cNe (fun h => bad fun z => h (z.bl b hm)) fun h => s.step fun u hu => ?_
    rcases List.mem_append.1 hu with hu | hu
    · exact ht u hu
    · simp at hu; subst hu; exact h
  rw [s.all] at ht
  rw [show (c.blues.length : Int) = ((c.blues.map eB).length : Int) by simp, s.d0, cond_false]
  refine ⟨AtI c.bays fun t _ => ∀ y ∈ t, bayOK c y, SufM c.bays, .zero (by omega) (by simp), ?_⟩
  rintro x ⟨t2, _ | ⟨y, l⟩, s, ht2⟩
  case cons =>
    have hm : y ∈ c.bays := by rw [s.e]; simp
    rw [show (c.bays.length : Int) = ((c.bays.map eY).length : Int) by simp]
    simp only [s.d1, s.el, eY, ug0, ugs, dI_n, dL_l, cond_true]
    refine in4_S ?_
    rw [post_B]
    refine cNot (cB (fun o1 => in4_S ?_) fun h => bad fun z => by rw [(z.by' y hm).1] at h; cases h)
    rw [post_B]
    refine cNot (cB (fun o2 => in4_S ?_) fun h => bad fun z => by rw [(z.by' y hm).2.1] at h; cases h)
    rw [post_B]
    refine cNot (cB (fun o3 => in4_S ?_) fun h => bad fun z => by rw [(z.by' y hm).2.2.1] at h; cases h)
    rw [post_B]
    refine cNot (cB (fun o4 => s.step fun u hu => ?_) fun h => bad fun z => by rw [(z.by' y hm).2.2.2] at h; cases h)
    rcases List.mem_append.1 hu with hu | hu
    · exact ht2 u hu
    · simp at hu; subst hu; exact ⟨o1, o2, o3, o4⟩
  rw [s.all] at ht2
  rw [show (c.bays.length : Int) = ((c.bays.map eY).length : Int) by simp, s.d0, cond_false]
  have z : c.Sz := ⟨n1, n2, n3, by omega, by omega, ht, ht2, by split at hf <;> first | assumption | cases hf⟩
  rw [if_pos z] at k
  refine rPairs_S hc ?_
  rw [post_L]
  refine rDeep_S (by have := pairsL_len c.blues hc.b; omega) ?_
  rw [post_LI]
  refine cNe (fun h => by rwa [if_pos h] at k) fun h => ?_
  rw [if_neg (by simpa using h)] at k
  obtain ⟨hg, hl, e⟩ := deep_len h
  have ht := inn_iff.1 z.types
  rw [e]
  refine ⟨AtI (deepL c.types (pairsL c.blues)) fun t _ => ∀ d ∈ t, ¬ 8 < d, SufM (deepL c.types (pairsL c.blues)), .zero (by omega) (by simp), ?_⟩
  rintro x ⟨t3, _ | ⟨d, l⟩, s, ht3⟩
  · rw [s.all] at ht3
    rw [s.d0]
    rwa [if_neg (fun ⟨d, hd, h8⟩ => ht3 d hd h8)] at k
  · simp only [s.d1, s.el, eI, ug0, dI_n, cond_true]
    refine cIf (fun h => ?_) fun h => s.step fun u hu => ?_
    · rwa [if_pos ⟨d, by rw [s.e]; simp, h⟩] at k
    · rcases List.mem_append.1 hu with hu | hu
      · exact ht3 u hu
      · simp at hu; subst hu; exact h
end Go.Proofs.YtedpdommppfmdaaGreat

/- From the symbolic engine's runs to the rows. -/
set_option linter.unusedVariables false
namespace Go.Proofs.YtedpdommppfmdaaGreat
open Go Go.Proofs Go.ChangeShapes Go.WideShapes Go.ChangeAt Go.RowKit
theorem Tryz.own : ownKnob Tryz.prog.godebug = none := by kernel_rfl
theorem Tryz.laidOut : laidOutB Tryz.prog = true := by kernel_rfl
theorem belowOf {W W' : World} (k : Keep W.heap W'.heap) (s : Same W W') : RowKit.Below W.heap.size W W' :=
  ⟨s.os, s.tape, s.output, k.size, fun b hb => k.blk b hb (by simp)⟩
theorem rp_agg {D : Fz} {cs : Array Value} {us : List U} (h : RdL D (Value.agg cs).cells.toList us) : Rp D [] (.agg cs) (.a (us.map .u)) := by
  obtain ⟨cs⟩ := cs
  exact .a (RpC.ofU h)
theorem SAt.all (h : Heap) : SAt (allD h) [] [] [] [] h := ⟨rfl, rfl, fun i L ab ch h => by simp at h, by simpa using St.all h⟩
end Go.Proofs.YtedpdommppfmdaaGreat

/- Works of any catalogue that may be: new ones are made. -/
set_option linter.unusedVariables false
namespace Go.Proofs.YtedpdommppfmdaaGreat
open Go Go.Proofs
abbrev deadT : Mem := [.x, .x, .x, .x, .x]
def sidesY (l : List Bay) : List (List U) := l.flatMap fun y => [[.n y.make, .l 1 [], .l 1 []], [.n y.lab, .l 1 [], .l 1 []]]
theorem sidesY_snoc (t : List Bay) (y : Bay) : sidesY (t ++ [y]) = sidesY t ++ [[.n y.make, .l 1 [], .l 1 []]] ++ [[.n y.lab, .l 1 [], .l 1 []]] := by simp [sidesY]
theorem sidesY_len : ∀ l : List Bay, (sidesY l).length = 2 * l.length
  | [] => rfl
  | y :: l => by
    have := sidesY_len l
    simp only [sidesY, List.flatMap_cons, List.length_append, List.length_cons, List.length_nil] at this ⊢
    omega
def SideOK (r : List U) : Prop := ∃ s : Int, r = [.n s, .l 1 [], .l 1 []] ∧ 0 ≤ s
theorem sidesY_ok {l : List Bay} (h : ∀ y ∈ l, 0 ≤ y.make ∧ 0 ≤ y.lab) : ∀ r ∈ sidesY l, SideOK r := by
  intro r hr
  obtain ⟨y, hy, hr⟩ := List.mem_flatMap.1 hr
  simp only [List.mem_cons, List.not_mem_nil, or_false] at hr
  rcases hr with rfl | rfl
  · exact ⟨_, rfl, (h y hy).1⟩
  · exact ⟨_, rfl, (h y hy).2⟩
theorem set_same {α : Type} {l : List α} {i : Nat} {r : α} (h : l[i]? = some r) : l.set i r = l := by
  obtain ⟨hi, e⟩ := List.getElem?_eq_some_iff.1 h
  rw [← e]; exact List.set_getElem_self hi
variable {c : Cat} {p b q g : Ob}
theorem catE_sz (h0 : catE c = 0) : c.Sz := by
  by_cases z : c.Sz
  · exact z
  · unfold catE at h0
    rw [if_neg z] at h0
    exact absurd h0 (by decide)
theorem newW_S (hrg : c.Rg) (h0 : catE c = 0) : PRun Tryz.prog 7 [.o p, .o b, .o q, .o g] [aC c, .r 0 0, .r 1 0, .r 2 0, .r 3 0] fun x m => x = .t [.r 4 0, .i 0] ∧ m = [.o p, .o b, .o q, .o g] ++ deadT := by
  have hz := catE_sz h0
  have hn := hz.ny
  have hb : ∀ y ∈ c.bays, 0 ≤ y.make ∧ y.make ≤ 8 ∧ 0 ≤ y.lab ∧ y.lab ≤ 8 := fun y hy => by
    have h := hz.by' y hy
    have h1 := inn_iff.1 h.2.1
    have h2 := inn_iff.1 h.2.2.1
    exact ⟨h1.1, h1.2, h2.1, h2.2⟩
  have e2 : IntKind.wrap .i64 (2 * ((c.bays.map eY).length : Int)) = 2 * (c.bays.length : Int) := by rw [List.length_map]; exact w64 (by omega) (by omega)
  have eN : (2 * (c.bays.length : Int)).toNat = 2 * c.bays.length := by omega
  refine PRun.drop 4 (PRun.drop 5 (PRun.drop 6 (PRun.drop 7 (PRun.drop 8 ?_))))
  refine S7 (dup ?_)
  rw [e2]
  refine ⟨by omega, by omega, rfl, pCat_S hrg ?_⟩
  rw [post_I, h0]
  refine cNe (fun h => absurd rfl h) fun _ => ?_
  refine cIf (fun h => absurd h (by rw [List.length_map]; omega)) fun _ => ?_
  refine ⟨fun x l => AtI c.bays (fun t _ => l = sidesY t) x, fun x _ => SufM c.bays x, .zero (by omega) rfl, ?_⟩
  rintro x l1 ⟨t, _ | ⟨y, l⟩, s, rfl⟩
  · have ht := s.all
    subst ht
    simp only [s.d0, cond_false, List.length_replicate, eN, sidesY_len]
    refine cNe (fun h => absurd rfl h) fun _ => ?_
    refine ⟨fun x m l => m = [] ∧ 0 ≤ x ∧ x ≤ 2 * (c.bays.length : Int) ∧ l.length = 2 * c.bays.length ∧ ∀ r ∈ l, SideOK r, fun x _ _ => (2 * (c.bays.length : Int) - x).toNat, ⟨rfl, by omega, by omega, sidesY_len _, sidesY_ok fun y hy => ⟨(hb y hy).1, (hb y hy).2.2.1⟩⟩, ?_⟩
    rintro x m l ⟨rfl, h1, h2, h3, h4⟩
    refine cIf (fun hlt => ⟨h1, hlt, ?_⟩) fun hge => ⟨⟨by first | trivial | rfl, by first | trivial | rfl⟩, Nat.zero_le _, by first | trivial | rfl, by first | trivial | rfl⟩
    have hlt' : x.toNat < 2 * c.bays.length := by omega
    rw [elL_of (r := [.l 1 [], .l 1 []]) h1 (by rw [List.getElem?_replicate]; exact if_pos hlt')]
    simp only [ug0, ugs, dL_l]
    obtain ⟨s', hs, hs0⟩ := h4 (l[x.toNat]'(by omega)) (List.getElem_mem _)
    have hl : l[x.toNat]? = some [.n s', .l 1 [], .l 1 []] := by rw [List.getElem?_eq_getElem (by omega), hs]
    refine ⟨h1, by omega, ?_⟩
    rw [elL_of h1 hl]
    simp only [ug0, dI_n]
    refine cEq (fun he => ?_) fun he => ?_
    all_goals
      simp only [elL_of h1 hl, ug0, dI_n]
      refine cIf (fun h => absurd h (by simp; omega)) fun _ => ?_
      refine cIf (fun h => absurd h (by simp)) fun _ => ?_
      refine cIf (fun h => absurd h (by simp)) fun _ => ?_
      refine so0_S.mono ?_
      rintro _ _ ⟨rfl, rfl⟩
      rw [post_B]
      simp only [Bool.not_true, cond_false]
      refine ⟨by first | trivial | rfl, Nat.zero_le _, by first | trivial | rfl, by first | trivial | rfl, ?_⟩
      try simp only [elL_of h1 hl]
      have hu : usp [U.n s', .l 1 [], .l 1 []] 1 [.l 1 []] = [.n s', .l 1 [], .l 1 []] := rfl
      have hu2 : usp [U.n s', .l 1 [], .l 1 []] 2 [.l 1 []] = [.n s', .l 1 [], .l 1 []] := rfl
      simp only [hu, set_same hl, elL_of h1 hl, hu2, w64 (show -9223372036854775808 ≤ x + 1 by omega) (show x + 1 ≤ 9223372036854775807 by omega)]
      exact ⟨⟨trivial, by omega, by omega, h3, h4⟩, by omega⟩
  · simp only [s.d1, cond_true, s.el, eY, ug0, ugs, dI_n]
    have hy := hb y (by rw [s.e]; simp)
    have ht : t.length ≤ 8 := by have := congrArg List.length s.e; simp at this; omega
    have hl := sidesY_len t
    refine cIf (fun h => absurd h (by omega)) fun _ => cIf (fun h => absurd h (by omega)) fun _ => ⟨?_, cIf (fun h => absurd h (by omega)) fun _ => cIf (fun h => absurd h (by omega)) fun _ => ⟨?_, ?_⟩⟩
    · show _ ≤ 1000000
      simp only [List.length_cons, List.length_nil]; omega
    · show _ ≤ 1000000
      simp only [List.length_append, List.length_cons, List.length_nil]; omega
    · exact s.step (P := fun t' _ => sidesY t ++ [[.n y.make, .l 1 [], .l 1 []]] ++ [[.n y.lab, .l 1 [], .l 1 []]] = sidesY t') (sidesY_snoc t y).symm
theorem newX_S (hrg : c.Rg) (hl : c.bays.length ≤ 12) (h0 : catE c ≠ 0) : PRun Tryz.prog 7 [.o p, .o b, .o q, .o g] [aC c, .r 0 0, .r 1 0, .r 2 0, .r 3 0] fun x m => x = .t [.u (.p none), .i (catE c)] ∧ m = [.o p, .o b, .o q, .o g] := by
  have e2 : IntKind.wrap .i64 (2 * ((c.bays.map eY).length : Int)) = 2 * (c.bays.length : Int) := by rw [List.length_map]; exact w64 (by omega) (by omega)
  refine S7 (dup ?_)
  rw [e2]
  refine ⟨by omega, by omega, rfl, pCat_S hrg ?_⟩
  rw [post_I]
  exact cNe (fun _ => ⟨rfl, rfl⟩) fun h => absurd h h0
theorem newN_S (hrg : c.Rg) (hl : c.bays.length ≤ 12) : PRun Tryz.prog 7 [.o b, .o q, .o g] [aC c, .u (.p none), .r 0 0, .r 1 0, .r 2 0] fun x m => x = .t [.u (.p none), .i (bif eqF (catE c) 0 then 1 else catE c)] ∧ m = [.o b, .o q, .o g] := by
  have e2 : IntKind.wrap .i64 (2 * ((c.bays.map eY).length : Int)) = 2 * (c.bays.length : Int) := by rw [List.length_map]; exact w64 (by omega) (by omega)
  refine S7N (dup ?_)
  rw [e2]
  refine ⟨by omega, by omega, rfl, pCat_S hrg ?_⟩
  rw [post_I, eqF_eq]
  exact cNe (fun h => ⟨by rw [beq_eq_false_iff_ne.2 h]; rfl, rfl⟩) fun h => ⟨by rw [beq_iff_eq.2 h]; rfl, rfl⟩
theorem knW (hrg : c.Rg) (h0 : catE c = 0) (m1 m2 : Mem) (hm : m1.length = 4) : PRun Tryz.prog 7 (m1 ++ m2) [aC c, .r 0 0, .r 1 0, .r 2 0, .r 3 0] fun x m => x = .t [.r (4 + m2.length) 0, .i 0] ∧ m = m1 ++ m2 ++ deadT := by
  refine PRun.ofO (n := 4) (R := .t [.r 4 0, .i 0]) (fun Is hI => ?_) (by simp) (by simp [refsL, refsV]) hm
  match Is, hI with
  | [p, b, q, g], _ => exact newW_S hrg h0
theorem knX (hrg : c.Rg) (hl : c.bays.length ≤ 12) (h0 : catE c ≠ 0) (m1 m2 : Mem) (hm : m1.length = 4) : PRun Tryz.prog 7 (m1 ++ m2) [aC c, .r 0 0, .r 1 0, .r 2 0, .r 3 0] fun x m => x = .t [.u (.p none), .i (catE c)] ∧ m = m1 ++ m2 := by
  have := PRun.ofO (m1 := m1) (m2 := m2) (n := 4) (T := []) (R := .t [.u (.p none), .i (catE c)]) (P := Tryz.prog) (g := 7) (args := [aC c, .r 0 0, .r 1 0, .r 2 0, .r 3 0]) (fun Is hI => match Is, hI with
    | [p, b, q, g], _ => newX_S hrg hl h0) (fun a ha => by cases ha) (by simp [refsL, refsV]) hm
  rwa [List.append_nil] at this
theorem knN (hrg : c.Rg) (hl : c.bays.length ≤ 12) (m1 m2 : Mem) (hm : m1.length = 3) : PRun Tryz.prog 7 (m1 ++ m2) [aC c, .u (.p none), .r 0 0, .r 1 0, .r 2 0] fun x m => x = .t [.u (.p none), .i (bif eqF (catE c) 0 then 1 else catE c)] ∧ m = m1 ++ m2 := by
  have := PRun.ofO (m1 := m1) (m2 := m2) (n := 3) (T := []) (R := .t [.u (.p none), .i (bif eqF (catE c) 0 then 1 else catE c)]) (P := Tryz.prog) (g := 7) (args := [aC c, .u (.p none), .r 0 0, .r 1 0, .r 2 0]) (fun Is hI => match Is, hI with
    | [b, q, g], _ => newN_S hrg hl) (fun a ha => by cases ha) (by simp [refsL, refsV]) hm
  rwa [List.append_nil] at this
end Go.Proofs.YtedpdommppfmdaaGreat

/- A run, piece by piece: printed by program (ez2.py). -/
set_option linter.unusedVariables false
set_option maxRecDepth 1000000
namespace Go.Proofs.YtedpdommppfmdaaGreat
open Go Go.Proofs
noncomputable section
structure NbV where
  c1 : Int
  c2 : List (List U)
  c3 : Int
  c4 : List (List U)
  c5 : Int
  c6 : Int
  c7 : Int
  c8 : Int
  a9 : Int
  a10 : Int
  a11 : Int
  a12 : Int
  a13 : Int
  a14 : Int
  a15 : Int
  a16 : Int
  a17 : Int
  a18 : Int
  a19 : Int
  e : Int
structure NbH (v : NbV) (b1 b2 : Bool) (e : Int) (z q : Bool) : Prop where
  hF : PRun Tryz.prog 4 [] [.a [.i v.c1, .u (.l 7 v.c2), .i v.c3, .u (.l 4 v.c4), .i v.c5, .i v.c6, .i v.c7, .i v.c8]] fun x m => x = .u (.b b1) ∧ m = []
  hC : bif b1 then PRun Tryz.prog 70 [] [.a [.i v.c1, .u (.l 7 v.c2), .i v.c3, .u (.l 4 v.c4), .i v.c5, .i v.c6, .i v.c7, .i v.c8]] fun x m => x = .i e ∧ m = [] else True
  hK : bif b1 then PRun Tryz.prog 8 [] [.a [.i v.c1, .u (.l 7 v.c2), .i v.c3, .u (.l 4 v.c4), .i v.c5, .i v.c6, .i v.c7, .i v.c8]] fun x m => x = .i e ∧ m = [] else True
  hW : bif b1 && z then ∀ m1 m2 : Mem, m1.length = 4 → PRun Tryz.prog 7 (m1 ++ m2) [.a [.i v.c1, .u (.l 7 v.c2), .i v.c3, .u (.l 4 v.c4), .i v.c5, .i v.c6, .i v.c7, .i v.c8], .r 0 0, .r 1 0, .r 2 0, .r 3 0] fun x m => x = .t [.r (4 + m2.length) 0, .i 0] ∧ m = m1 ++ m2 ++ deadT else True
  hX : bif b1 && !z then ∀ m1 m2 : Mem, m1.length = 4 → PRun Tryz.prog 7 (m1 ++ m2) [.a [.i v.c1, .u (.l 7 v.c2), .i v.c3, .u (.l 4 v.c4), .i v.c5, .i v.c6, .i v.c7, .i v.c8], .r 0 0, .r 1 0, .r 2 0, .r 3 0] fun x m => x = .t [.u (.p none), .i e] ∧ m = m1 ++ m2 else True
  hN : bif b1 then ∀ m1 m2 : Mem, m1.length = 3 → PRun Tryz.prog 7 (m1 ++ m2) [.a [.i v.c1, .u (.l 7 v.c2), .i v.c3, .u (.l 4 v.c4), .i v.c5, .i v.c6, .i v.c7, .i v.c8], .u (.p none), .r 0 0, .r 1 0, .r 2 0] fun x m => x = .t [.u (.p none), .i (bif z then 1 else e)] ∧ m = m1 ++ m2 else True
  he : eqF e 0 = z
noncomputable abbrev eK1 := (speKn (speWhole whp) [9, 14, 19, 20])
noncomputable abbrev awev := Ev Tryz.prog eK1 (List.range 600) 300 60 5
def awM0 (v : NbV) : Mem := []
noncomputable abbrev awC1 : Code := bodyOf Tryz.f5
def awT1 (v : NbV) : Fr := Fr.mk [.u (.b false)] 111 112
def awT2 (v : NbV) : Fr := Fr.mk [.u (.b false)] 111 112
noncomputable abbrev eK2 := (speKn (speWhole whp) [7])
noncomputable abbrev awk1ev := Ev Tryz.prog eK2 (List.range 600) 300 60 19
noncomputable abbrev awk1evL := EvL Tryz.prog eK2 (List.range 600) 300 60 19
def awk1T0 (v : NbV) : Fr := frameF Tryz.prog Tryz.f19 [.i 0]
def awk1M0 (v : NbV) : Mem := []
noncomputable abbrev awk1C1 : Code := bodyOf Tryz.f19
def awk1T1 (v : NbV) : Fr := Fr.mk [.i 0, .z, .r 0 0, .u (.b false), .r 6 0, .w 3, .w 4, .w 5, .r 7 0, .i 0, .r 9 0, .i 0, .r 11 0, .i 0, .r 14 0, .z, .z, .z, .z, .z, .t [.a [.i 4, .w 1, .i 2, .w 2, .i 3, .i 200, .i 1, .i 500], .w 3, .w 4, .w 5], .i 0, .t [.a [.i 4, .w 1, .i 2, .w 2, .i 3, .i 200, .i 1, .i 500], .w 3, .w 4, .w 5], .a [.i 4, .w 1, .i 2, .w 2, .i 3, .i 200, .i 1, .i 500], .w 3, .w 4, .w 5, .t [.r 7 0, .i 0], .w 3, .t [.r 7 0, .i 0], .r 7 0, .i 0, .t [.r 9 0, .i 0], .w 4, .t [.r 9 0, .i 0], .r 9 0, .i 0, .t [.r 11 0, .i 0], .t [.r 11 0, .i 0], .r 11 0, .i 0, .r 7 0, .r 9 0, .r 11 0, .a [.nl 4, .nm], .r 13 0, .a [.u (.p none), .r 7 0, .r 9 0, .r 11 0, .r 13 0], .i 0, .u (.b false), .u (.b false), .i 0, .u (.b false), .u (.b false), .u (.b false), .i 0, .u (.b false), .u (.b false), .u (.b false), .r 7 0, .u (.b false), .u (.b false), .u (.b false), .r 9 0, .u (.b false), .u (.b false), .u (.b false), .r 11 0, .u (.b false), .u (.b false)] 51 120
def awk1M2 (v : NbV) : Mem := [.c [.u (.p none), .u (.p none), .u (.p none), .u (.p none), .u (.p none)],
  .w 78 7 [[.n 3, .n 2, .n 10, .l 2 [[.n 1, .n 3], [.n 2, .n 1]], .n 2, .n 3, .n 5], [.n 4, .n 1, .n 7, .l 2 [[.n 3, .n 2]], .n 0, .n 0, .n 3]],
  .w 101 4 [[.n 1, .n 1, .n 1, .n 1000], [.n 1, .n 1, .n 0, .n 0]],
  .w 205 2 [[.n 0, .n 0], [.n 1, .n 60], [.n 2, .n 500], [.n 3, .n 2]],
  .w 207 5 [[.n 1, .n 0, .n 1, .n 1, .n 60], [.n 1, .n 0, .n 1, .n 2, .n 40], [.n 1, .n 0, .n 1, .n 3, .n 20], [.n 2, .n 0, .n 1, .n 1, .n 60], [.n 2, .n 0, .n 1, .n 2, .n 40], [.n 2, .n 0, .n 1, .n 3, .n 20]],
  .w 109 9 [[.n 0, .n 1, .n 0, .n 1, .n 1, .n 0, .n 0, .n (-1), .n 0], [.n 0, .n 2, .n 0, .n 1, .n 2, .n 0, .n 0, .n (-1), .n 0], [.n 0, .n 1, .n 0, .n 1, .n 2, .n 3, .n 0, .n 4, .n 0], [.n 0, .n 2, .n 0, .n 1, .n 1, .n 0, .n 8, .n (-1), .n 0], [.n 0, .n 1, .n 0, .n 2, .n 1, .n 0, .n 0, .n (-1), .n 0]],
  .c [.i 4, .w 1, .i 2, .w 2, .i 3, .i 200, .i 1, .i 500],
  .c [.w 8, .i 562],
  .w 217 5 [[.n 0, .n 0, .n 0, .n 0, .n 0], [.n 1, .n 0, .n 0, .n 0, .n 60], [.n 2, .n 0, .n 0, .n 0, .n 500], [.n 3, .n 0, .n 0, .n 0, .n 2]],
  .c [.w 10, .n .i64 33 [0, 120, 80, 40, 0, 0, 0, 0, 0, 0, 0, 0, 0, 0, 0, 0, 0, 0, 0, 0, 0, 0, 0, 0, 0, 0, 0, 0, 0, 0, 0, 0, 0]],
  .w 217 5 [[.n 1, .n 0, .n 1, .n 1, .n 60], [.n 1, .n 0, .n 1, .n 2, .n 40], [.n 1, .n 0, .n 1, .n 3, .n 20], [.n 2, .n 0, .n 1, .n 1, .n 60], [.n 2, .n 0, .n 1, .n 2, .n 40], [.n 2, .n 0, .n 1, .n 3, .n 20]],
  .c [.nl 3, .m 12, .i 256, .i 1],
  .p .n 1 false [],
  .c [.nl 4, .nm],
  .c [.u (.p none), .r 7 0, .r 9 0, .r 11 0, .r 13 0]]
noncomputable abbrev awk1C2 : Code := dropK 7 awk1C1
def awk1T3 (v : NbV) : Fr := puF (awk1T1 v) [(71, .a [.i 4, .w 1, .i 2, .w 2, .i 3, .i 200, .i 1, .i 500]), (72, .r 7 0), (73, .r 9 0), (74, .r 11 0), (75, .r 14 4), (76, .r 13 0)]
def awk1k2M0 (v : NbV) : Mem := [.w 78 7 [[.n 3, .n 2, .n 10, .l 2 [[.n 1, .n 3], [.n 2, .n 1]], .n 2, .n 3, .n 5], [.n 4, .n 1, .n 7, .l 2 [[.n 3, .n 2]], .n 0, .n 0, .n 3]],
  .w 101 4 [[.n 1, .n 1, .n 1, .n 1000], [.n 1, .n 1, .n 0, .n 0]],
  .c [.w 6, .i 562],
  .c [.w 7, .n .i64 33 [0, 120, 80, 40, 0, 0, 0, 0, 0, 0, 0, 0, 0, 0, 0, 0, 0, 0, 0, 0, 0, 0, 0, 0, 0, 0, 0, 0, 0, 0, 0, 0, 0]],
  .c [.nl 3, .m 8, .i 256, .i 1],
  .c [.nl 4, .nm],
  .w 217 5 [[.n 0, .n 0, .n 0, .n 0, .n 0], [.n 1, .n 0, .n 0, .n 0, .n 60], [.n 2, .n 0, .n 0, .n 0, .n 500], [.n 3, .n 0, .n 0, .n 0, .n 2]],
  .w 217 5 [[.n 1, .n 0, .n 1, .n 1, .n 60], [.n 1, .n 0, .n 1, .n 2, .n 40], [.n 1, .n 0, .n 1, .n 3, .n 20], [.n 2, .n 0, .n 1, .n 1, .n 60], [.n 2, .n 0, .n 1, .n 2, .n 40], [.n 2, .n 0, .n 1, .n 3, .n 20]],
  .p .n 1 false []]
def awk1k2T1 (v : NbV) : Fr := Fr.mk [.a [.i 4, .w 0, .i 2, .w 1, .i 3, .i 200, .i 1, .i 500], .r 2 0, .r 3 0, .r 4 0, .r 5 0, .r 9 0, .z, .z, .z, .z, .r 10 0, .i 0, .a [.i 4, .w 0, .i 2, .w 1, .i 3, .i 200, .i 1, .i 500], .r 2 0, .r 3 0, .r 4 0, .r 5 0, .a [.nl 13, .i 0], .r 11 0, .r 9 3, .w 1, .i 2, .i 4, .w 15, .t [.r 10 0, .i 0], .r 10 0, .i 0] 0 27
def awk1k2M2 (v : NbV) : Mem := paM (awk1k2M0 v) [] [.c [.i 4, .w 0, .i 2, .w 1, .i 3, .i 200, .i 1, .i 500],
  .c [.i 4, .w 0, .i 2, .w 1, .i 3, .i 200, .i 1, .i 500, .r 2 0, .r 3 0, .r 4 0, .r 5 0, .r 11 0, .r 12 0, .nl 16],
  .c [.nl 13, .i 0],
  .c [.w 13, .m 14],
  .cw 201 3 4 [.i 1, .c 1 [], .c 1 [], .i 1, .c 1 [], .c 1 [], .i 1, .c 1 [], .c 1 [], .i 0, .c 1 [], .c 1 []],
  .p .n 1 false [],
  .w 189 2 [[.l 1 [], .l 1 []], [.l 1 [], .l 1 []], [.l 1 [], .l 1 []], [.l 1 [], .l 1 []]]]
def awk1k2M3 (v : NbV) : Mem := paM (awk1k2M0 v) [] [.c [.i 4, .w 0, .i 2, .w 1, .i 3, .i 200, .i 1, .i 500, .r 2 0, .r 3 0, .r 4 0, .r 5 0, .r 10 0, .r 11 0, .nl 16],
  .c [.nl 13, .i 0],
  .c [.w 12, .m 13],
  .cw 201 3 4 [.i 1, .c 1 [], .c 1 [], .i 1, .c 1 [], .c 1 [], .i 1, .c 1 [], .c 1 [], .i 0, .c 1 [], .c 1 []],
  .p .n 1 false []]
abbrev awk1k2Mm (v : NbV) : Mem := (awk1k2M3 v)
theorem awk1k2_run (v : NbV) : PRun Tryz.prog 7 (awk1k2M0 v) [.a [.i 4, .w 0, .i 2, .w 1, .i 3, .i 200, .i 1, .i 500], .r 2 0, .r 3 0, .r 4 0, .r 5 0] fun x m => x = .t [.r 9 0, .i 0] ∧ m = (awk1k2Mm v) := Ev.runA (speWhole whp) Tryz.func7 (c := (bodyOf Tryz.f7)) (r := (.ret, (awk1k2T1 v), (awk1k2M2 v))) Ev.codeA
def awk1T4 (v : NbV) : Fr := puF (awk1T3 v) [(15, .r 15 0), (16, .i 0), (70, .t [.r 15 0, .i 0]), (77, .t [.r 15 0, .i 0]), (78, .r 15 0), (79, .i 0)]
def awk1M5 (v : NbV) : Mem := paM (awk1M2 v) [] [.c [.i 4, .w 1, .i 2, .w 2, .i 3, .i 200, .i 1, .i 500, .r 7 0, .r 9 0, .r 11 0, .r 13 0, .r 16 0, .r 17 0, .nl 16],
  .c [.nl 13, .i 0],
  .c [.w 18, .m 19],
  .cw 201 3 4 [.i 1, .c 1 [], .c 1 [], .i 1, .c 1 [], .c 1 [], .i 1, .c 1 [], .c 1 [], .i 0, .c 1 [], .c 1 []],
  .p .n 1 false []]
theorem awk1n3 (v : NbV) : awk1ev (cL awk1C2) (awk1T1 v) (awk1M2 v) [(.nrm, (awk1T4 v), (awk1M5 v))] := Ev.regA (EvO.callA (t2 := awk1T3 v) (m1 := awk1M2 v) (ix := [1, 2, 7, 9, 11, 13, 8, 10, 12]) (k := 6) (t1 := (awk1T3 v)) (args := [.a [.i 4, .w 1, .i 2, .w 2, .i 3, .i 200, .i 1, .i 500], .r 7 0, .r 9 0, .r 11 0, .r 13 0]) (a := []) (cc := []) (awk1k2_run v) EvO.opsA)
def awk1T6 (v : NbV) : Fr := puF (awk1T4 v) [(80, .i 0), (81, .u (.b false)), (82, .u (.b false)), (83, .r 15 0), (84, .u (.b false)), (85, .u (.b false)), (86, .u (.b false)), (87, .r 15 0), (88, .r 16 0), (89, .u (.b false)), (90, .u (.b false))]
def awk1T7 (v : NbV) : Fr := puF (awk1T6 v) [(17, .i 0)]
noncomputable abbrev awk1C9 : Code := cLp (cBd (dropK 1 (cL (dropK 1 (cR awk1C2)))))
def awk1T8 (v : NbV) : Fr := puF (awk1T7 v) [(92, .i 0), (93, .w 5), (94, .i 5)]
def awk1T9 (v : NbV) : Fr := puF (awk1T8 v) [(95, .u (.b true))]
def awk1T10 (v : NbV) : Fr := puF (awk1T8 v) [(95, .u (.b true))]
def awk1T11 (v : NbV) : Fr := puF (awk1T8 v) [(17, .i 1), (18, .i 1), (19, .i 0), (95, .u (.b true)), (96, .i 0), (97, .i 1), (98, .t [.i 1, .i 0]), (99, .r 15 0), (100, .r 16 0), (101, .w 5), (102, .i 0), (103, .e 5 9 0 0), (104, .a [.i 0, .i 1, .i 0, .i 1, .i 1, .i 0, .i 0, .i (-1), .i 0]), (105, .t [.i 1, .i 0]), (106, .i 1), (107, .i 0), (108, .i 1), (109, .i 0), (110, .i 1), (111, .u (.b false)), (112, .u (.b false)), (113, .i 0), (114, .u (.b false)), (115, .u (.b false))]
def awk1M12 (v : NbV) : Mem := paM (awk1M5 v) [(16, .c [.w 20, .i 1])] [.w 247 13 [[.n 1, .n 0, .n 0, .n 0, .n 1, .n 1, .n 0, .n 1, .n 1, .n 0, .n 0, .n (-1), .n 0]]]
theorem awk1n9 (v : NbV) : awk1ev awk1C9 (awk1T7 v) (awk1M5 v) [(.nrm, (awk1T11 v), (awk1M12 v))] := Ev.seqPA (t1 := awk1T10 v) (m1 := awk1M5 v) (Ev.seqPA (t1 := awk1T9 v) (m1 := awk1M5 v) (Ev.regA EvO.opsA) Ev.codeA) Ev.codeA
def awk1T14 (v : NbV) : Fr := puF (awk1T8 v) [(17, .i 1), (18, .i 1), (19, .i 0), (92, .i 1), (95, .u (.b true)), (96, .i 0), (97, .i 1), (98, .t [.i 1, .i 0]), (99, .r 15 0), (100, .r 16 0), (101, .w 5), (102, .i 0), (103, .e 5 9 0 0), (104, .a [.i 0, .i 1, .i 0, .i 1, .i 1, .i 0, .i 0, .i (-1), .i 0]), (105, .t [.i 1, .i 0]), (106, .i 1), (107, .i 0), (108, .i 1), (109, .i 0), (110, .i 1), (111, .u (.b false)), (112, .u (.b false)), (113, .i 0), (114, .u (.b false)), (115, .u (.b false))]
def awk1T15 (v : NbV) : Fr := puF (awk1T8 v) [(17, .i 1), (18, .i 1), (19, .i 0), (92, .i 1), (95, .u (.b true)), (96, .i 0), (97, .i 1), (98, .t [.i 1, .i 0]), (99, .r 15 0), (100, .r 16 0), (101, .w 5), (102, .i 0), (103, .e 5 9 0 0), (104, .a [.i 0, .i 1, .i 0, .i 1, .i 1, .i 0, .i 0, .i (-1), .i 0]), (105, .t [.i 1, .i 0]), (106, .i 1), (107, .i 0), (108, .i 1), (109, .i 0), (110, .i 1), (111, .u (.b false)), (112, .u (.b false)), (113, .i 0), (114, .u (.b false)), (115, .u (.b false))]
def awk1T16 (v : NbV) : Fr := puF (awk1T8 v) [(17, .i 2), (18, .i 2), (19, .i 0), (92, .i 1), (95, .u (.b true)), (96, .i 1), (97, .i 2), (98, .t [.i 2, .i 0]), (99, .r 15 0), (100, .r 16 0), (101, .w 5), (102, .i 1), (103, .e 5 9 1 0), (104, .a [.i 0, .i 2, .i 0, .i 1, .i 2, .i 0, .i 0, .i (-1), .i 0]), (105, .t [.i 2, .i 0]), (106, .i 2), (107, .i 0), (108, .i 2), (109, .i 1), (110, .i 2), (111, .u (.b false)), (112, .u (.b false)), (113, .i 0), (114, .u (.b false)), (115, .u (.b false))]
def awk1M17 (v : NbV) : Mem := paM (awk1M12 v) [(16, .c [.w 21, .i 2])] [.w 247 13 [[.n 1, .n 0, .n 0, .n 0, .n 1, .n 1, .n 0, .n 1, .n 1, .n 0, .n 0, .n (-1), .n 0], [.n 2, .n 0, .n 0, .n 0, .n 2, .n 2, .n 0, .n 1, .n 2, .n 0, .n 0, .n (-1), .n 0]]]
theorem awk1n15 (v : NbV) : awk1ev awk1C9 (awk1T11 v) (awk1M12 v) [(.nrm, (awk1T16 v), (awk1M17 v))] := Ev.seqPA (t1 := awk1T15 v) (m1 := awk1M12 v) (Ev.seqPA (t1 := awk1T14 v) (m1 := awk1M12 v) (Ev.regA EvO.opsA) Ev.codeA) Ev.codeA
def awk1M18 (v : NbV) : Mem := paM (awk1M5 v) [(16, .c [.w 20, .i 2])] [.w 247 13 [[.n 1, .n 0, .n 0, .n 0, .n 1, .n 1, .n 0, .n 1, .n 1, .n 0, .n 0, .n (-1), .n 0], [.n 2, .n 0, .n 0, .n 0, .n 2, .n 2, .n 0, .n 1, .n 2, .n 0, .n 0, .n (-1), .n 0]]]
def awk1T20 (v : NbV) : Fr := puF (awk1T8 v) [(17, .i 2), (18, .i 2), (19, .i 0), (92, .i 2), (95, .u (.b true)), (96, .i 1), (97, .i 2), (98, .t [.i 2, .i 0]), (99, .r 15 0), (100, .r 16 0), (101, .w 5), (102, .i 1), (103, .e 5 9 1 0), (104, .a [.i 0, .i 2, .i 0, .i 1, .i 2, .i 0, .i 0, .i (-1), .i 0]), (105, .t [.i 2, .i 0]), (106, .i 2), (107, .i 0), (108, .i 2), (109, .i 1), (110, .i 2), (111, .u (.b false)), (112, .u (.b false)), (113, .i 0), (114, .u (.b false)), (115, .u (.b false))]
def awk1T21 (v : NbV) : Fr := puF (awk1T8 v) [(17, .i 2), (18, .i 2), (19, .i 0), (92, .i 2), (95, .u (.b true)), (96, .i 1), (97, .i 2), (98, .t [.i 2, .i 0]), (99, .r 15 0), (100, .r 16 0), (101, .w 5), (102, .i 1), (103, .e 5 9 1 0), (104, .a [.i 0, .i 2, .i 0, .i 1, .i 2, .i 0, .i 0, .i (-1), .i 0]), (105, .t [.i 2, .i 0]), (106, .i 2), (107, .i 0), (108, .i 2), (109, .i 1), (110, .i 2), (111, .u (.b false)), (112, .u (.b false)), (113, .i 0), (114, .u (.b false)), (115, .u (.b false))]
def awk1T22 (v : NbV) : Fr := puF (awk1T8 v) [(17, .i 3), (18, .i 3), (19, .i 0), (92, .i 2), (95, .u (.b true)), (96, .i 2), (97, .i 3), (98, .t [.i 3, .i 0]), (99, .r 15 0), (100, .r 16 0), (101, .w 5), (102, .i 2), (103, .e 5 9 2 0), (104, .a [.i 0, .i 1, .i 0, .i 1, .i 2, .i 3, .i 0, .i 4, .i 0]), (105, .t [.i 3, .i 0]), (106, .i 3), (107, .i 0), (108, .i 3), (109, .i 2), (110, .i 3), (111, .u (.b false)), (112, .u (.b false)), (113, .i 0), (114, .u (.b false)), (115, .u (.b false))]
def awk1M23 (v : NbV) : Mem := paM (awk1M18 v) [(16, .c [.w 21, .i 3])] [.w 247 13 [[.n 1, .n 0, .n 0, .n 0, .n 1, .n 1, .n 0, .n 1, .n 1, .n 0, .n 0, .n (-1), .n 0], [.n 2, .n 0, .n 0, .n 0, .n 2, .n 2, .n 0, .n 1, .n 2, .n 0, .n 0, .n (-1), .n 0], [.n 3, .n 0, .n 0, .n 0, .n 3, .n 1, .n 0, .n 1, .n 2, .n 3, .n 0, .n 4, .n 0]]]
theorem awk1n21 (v : NbV) : awk1ev awk1C9 (awk1T16 v) (awk1M18 v) [(.nrm, (awk1T22 v), (awk1M23 v))] := Ev.seqPA (t1 := awk1T21 v) (m1 := awk1M18 v) (Ev.seqPA (t1 := awk1T20 v) (m1 := awk1M18 v) (Ev.regA EvO.opsA) Ev.codeA) Ev.codeA
def awk1M24 (v : NbV) : Mem := paM (awk1M5 v) [(16, .c [.w 20, .i 3])] [.w 247 13 [[.n 1, .n 0, .n 0, .n 0, .n 1, .n 1, .n 0, .n 1, .n 1, .n 0, .n 0, .n (-1), .n 0], [.n 2, .n 0, .n 0, .n 0, .n 2, .n 2, .n 0, .n 1, .n 2, .n 0, .n 0, .n (-1), .n 0], [.n 3, .n 0, .n 0, .n 0, .n 3, .n 1, .n 0, .n 1, .n 2, .n 3, .n 0, .n 4, .n 0]]]
def awk1T26 (v : NbV) : Fr := puF (awk1T8 v) [(17, .i 3), (18, .i 3), (19, .i 0), (92, .i 3), (95, .u (.b true)), (96, .i 2), (97, .i 3), (98, .t [.i 3, .i 0]), (99, .r 15 0), (100, .r 16 0), (101, .w 5), (102, .i 2), (103, .e 5 9 2 0), (104, .a [.i 0, .i 1, .i 0, .i 1, .i 2, .i 3, .i 0, .i 4, .i 0]), (105, .t [.i 3, .i 0]), (106, .i 3), (107, .i 0), (108, .i 3), (109, .i 2), (110, .i 3), (111, .u (.b false)), (112, .u (.b false)), (113, .i 0), (114, .u (.b false)), (115, .u (.b false))]
def awk1T27 (v : NbV) : Fr := puF (awk1T8 v) [(17, .i 3), (18, .i 3), (19, .i 0), (92, .i 3), (95, .u (.b true)), (96, .i 2), (97, .i 3), (98, .t [.i 3, .i 0]), (99, .r 15 0), (100, .r 16 0), (101, .w 5), (102, .i 2), (103, .e 5 9 2 0), (104, .a [.i 0, .i 1, .i 0, .i 1, .i 2, .i 3, .i 0, .i 4, .i 0]), (105, .t [.i 3, .i 0]), (106, .i 3), (107, .i 0), (108, .i 3), (109, .i 2), (110, .i 3), (111, .u (.b false)), (112, .u (.b false)), (113, .i 0), (114, .u (.b false)), (115, .u (.b false))]
def awk1T28 (v : NbV) : Fr := Fr.mk [.i 0, .z, .r 0 0, .u (.b false), .r 6 0, .w 3, .w 4, .w 5, .r 7 0, .i 0, .r 9 0, .i 0, .r 11 0, .i 0, .r 14 0, .r 15 0, .i 0, .i 4, .i 4, .i 0, .t [.a [.i 4, .w 1, .i 2, .w 2, .i 3, .i 200, .i 1, .i 500], .w 3, .w 4, .w 5], .i 0, .t [.a [.i 4, .w 1, .i 2, .w 2, .i 3, .i 200, .i 1, .i 500], .w 3, .w 4, .w 5], .a [.i 4, .w 1, .i 2, .w 2, .i 3, .i 200, .i 1, .i 500], .w 3, .w 4, .w 5, .t [.r 7 0, .i 0], .w 3, .t [.r 7 0, .i 0], .r 7 0, .i 0, .t [.r 9 0, .i 0], .w 4, .t [.r 9 0, .i 0], .r 9 0, .i 0, .t [.r 11 0, .i 0], .t [.r 11 0, .i 0], .r 11 0, .i 0, .r 7 0, .r 9 0, .r 11 0, .a [.nl 4, .nm], .r 13 0, .a [.u (.p none), .r 7 0, .r 9 0, .r 11 0, .r 13 0], .i 0, .u (.b false), .u (.b false), .i 0, .u (.b false), .u (.b false), .u (.b false), .i 0, .u (.b false), .u (.b false), .u (.b false), .r 7 0, .u (.b false), .u (.b false), .u (.b false), .r 9 0, .u (.b false), .u (.b false), .u (.b false), .r 11 0, .u (.b false), .u (.b false), .z, .t [.r 15 0, .i 0], .a [.i 4, .w 1, .i 2, .w 2, .i 3, .i 200, .i 1, .i 500], .r 7 0, .r 9 0, .r 11 0, .r 14 4, .r 13 0, .t [.r 15 0, .i 0], .r 15 0, .i 0, .i 0, .u (.b false), .u (.b false), .r 15 0, .u (.b false), .u (.b false), .u (.b false), .r 15 0, .r 16 0, .u (.b false), .u (.b false), .z, .i 3, .w 5, .i 5, .u (.b true), .i 3, .i 4, .t [.i 4, .i 0], .r 15 0, .r 16 0, .w 5, .i 3, .e 5 9 3 0, .a [.i 0, .i 2, .i 0, .i 1, .i 1, .i 0, .i 8, .i (-1), .i 0], .t [.i 4, .i 0], .i 4, .i 0, .i 4, .i 3, .i 4, .u (.b false), .u (.b false), .i 0, .u (.b false), .u (.b false)] 4 120
def awk1M29 (v : NbV) : Mem := paM (awk1M24 v) [(16, .c [.w 21, .i 4])] [.w 247 13 [[.n 1, .n 0, .n 0, .n 0, .n 1, .n 1, .n 0, .n 1, .n 1, .n 0, .n 0, .n (-1), .n 0], [.n 2, .n 0, .n 0, .n 0, .n 2, .n 2, .n 0, .n 1, .n 2, .n 0, .n 0, .n (-1), .n 0], [.n 3, .n 0, .n 0, .n 0, .n 3, .n 1, .n 0, .n 1, .n 2, .n 3, .n 0, .n 4, .n 0], [.n 4, .n 0, .n 0, .n 0, .n 4, .n 2, .n 0, .n 1, .n 1, .n 0, .n 8, .n (-1), .n 0]]]
theorem awk1n27 (v : NbV) : awk1ev awk1C9 (awk1T22 v) (awk1M24 v) [(.nrm, (awk1T28 v), (awk1M29 v))] := Ev.seqPA (t1 := awk1T27 v) (m1 := awk1M24 v) (Ev.seqPA (t1 := awk1T26 v) (m1 := awk1M24 v) (Ev.regA EvO.opsA) Ev.codeA) Ev.codeA
def awk1M30 (v : NbV) : Mem := paM (awk1M5 v) [(16, .c [.w 20, .i 4])] [.w 247 13 [[.n 1, .n 0, .n 0, .n 0, .n 1, .n 1, .n 0, .n 1, .n 1, .n 0, .n 0, .n (-1), .n 0], [.n 2, .n 0, .n 0, .n 0, .n 2, .n 2, .n 0, .n 1, .n 2, .n 0, .n 0, .n (-1), .n 0], [.n 3, .n 0, .n 0, .n 0, .n 3, .n 1, .n 0, .n 1, .n 2, .n 3, .n 0, .n 4, .n 0], [.n 4, .n 0, .n 0, .n 0, .n 4, .n 2, .n 0, .n 1, .n 1, .n 0, .n 8, .n (-1), .n 0]]]
def awk1T31 (v : NbV) : Fr := puF (awk1T28 v) [(92, .i 4)]
def awk1T34 (v : NbV) : Fr := puF (awk1T31 v) [(17, .i 5), (18, .i 5), (96, .i 4), (97, .i 5), (98, .t [.i 5, .i 0]), (102, .i 4), (103, .e 5 9 4 0), (104, .a [.i 0, .i 1, .i 0, .i 2, .i 1, .i 0, .i 0, .i (-1), .i 0]), (105, .t [.i 5, .i 0]), (106, .i 5), (108, .i 5), (109, .i 4), (110, .i 5)]
def awk1M35 (v : NbV) : Mem := paM (awk1M30 v) [(16, .c [.w 21, .i 5])] [.w 247 13 [[.n 1, .n 0, .n 0, .n 0, .n 1, .n 1, .n 0, .n 1, .n 1, .n 0, .n 0, .n (-1), .n 0], [.n 2, .n 0, .n 0, .n 0, .n 2, .n 2, .n 0, .n 1, .n 2, .n 0, .n 0, .n (-1), .n 0], [.n 3, .n 0, .n 0, .n 0, .n 3, .n 1, .n 0, .n 1, .n 2, .n 3, .n 0, .n 4, .n 0], [.n 4, .n 0, .n 0, .n 0, .n 4, .n 2, .n 0, .n 1, .n 1, .n 0, .n 8, .n (-1), .n 0], [.n 5, .n 0, .n 0, .n 0, .n 5, .n 1, .n 0, .n 2, .n 1, .n 0, .n 0, .n (-1), .n 0]]]
theorem awk1n33 (v : NbV) : awk1ev awk1C9 (awk1T28 v) (awk1M30 v) [(.nrm, (awk1T34 v), (awk1M35 v))] := Ev.seqPA (t1 := awk1T31 v) (m1 := awk1M30 v) (Ev.seqPA (t1 := awk1T31 v) (m1 := awk1M30 v) (Ev.regA EvO.opsA) Ev.codeA) Ev.codeA
def awk1M36 (v : NbV) : Mem := paM (awk1M5 v) [(16, .c [.w 20, .i 5])] [.w 247 13 [[.n 1, .n 0, .n 0, .n 0, .n 1, .n 1, .n 0, .n 1, .n 1, .n 0, .n 0, .n (-1), .n 0], [.n 2, .n 0, .n 0, .n 0, .n 2, .n 2, .n 0, .n 1, .n 2, .n 0, .n 0, .n (-1), .n 0], [.n 3, .n 0, .n 0, .n 0, .n 3, .n 1, .n 0, .n 1, .n 2, .n 3, .n 0, .n 4, .n 0], [.n 4, .n 0, .n 0, .n 0, .n 4, .n 2, .n 0, .n 1, .n 1, .n 0, .n 8, .n (-1), .n 0], [.n 5, .n 0, .n 0, .n 0, .n 5, .n 1, .n 0, .n 2, .n 1, .n 0, .n 0, .n (-1), .n 0]]]
def awk1T37 (v : NbV) : Fr := puF (awk1T34 v) [(92, .i 5)]
def awk1T38 (v : NbV) : Fr := puF (awk1T37 v) [(95, .u (.b false))]
theorem awk1n38 (v : NbV) : awk1ev awk1C9 (awk1T34 v) (awk1M36 v) [((.ext 0), (awk1T38 v), (awk1M36 v))] := Ev.seqE (by intro h; cases h) (by kernel_rfl) (Ev.seqPA (t1 := awk1T38 v) (m1 := awk1M36 v) (Ev.regA EvO.opsA) Ev.codeA)
theorem awk1n39 (v : NbV) : awk1evL 20 awk1C9 295 (awk1T34 v) (awk1M36 v) [((.ext 0), (awk1T38 v), (awk1M36 v))] := EvL.last (by intro h; cases h) (awk1n38 v)
theorem awk1n40 (v : NbV) : awk1evL 20 awk1C9 296 (awk1T28 v) (awk1M30 v) [((.ext 0), (awk1T38 v), (awk1M36 v))] := EvL.round (t2 := (awk1T34 v)) (m2 := (awk1M36 v)) (awk1n33 v) (by kernel_rfl) (awk1n39 v)
theorem awk1n41 (v : NbV) : awk1evL 20 awk1C9 297 (awk1T22 v) (awk1M24 v) [((.ext 0), (awk1T38 v), (awk1M36 v))] := EvL.round (t2 := (awk1T28 v)) (m2 := (awk1M30 v)) (awk1n27 v) (by kernel_rfl) (awk1n40 v)
theorem awk1n42 (v : NbV) : awk1evL 20 awk1C9 298 (awk1T16 v) (awk1M18 v) [((.ext 0), (awk1T38 v), (awk1M36 v))] := EvL.round (t2 := (awk1T22 v)) (m2 := (awk1M24 v)) (awk1n21 v) (by kernel_rfl) (awk1n41 v)
theorem awk1n43 (v : NbV) : awk1evL 20 awk1C9 299 (awk1T11 v) (awk1M12 v) [((.ext 0), (awk1T38 v), (awk1M36 v))] := EvL.round (t2 := (awk1T16 v)) (m2 := (awk1M18 v)) (awk1n15 v) (by kernel_rfl) (awk1n42 v)
theorem awk1n44 (v : NbV) : awk1evL 20 awk1C9 300 (awk1T7 v) (awk1M5 v) [((.ext 0), (awk1T38 v), (awk1M36 v))] := EvL.round (t2 := (awk1T11 v)) (m2 := (awk1M12 v)) (awk1n9 v) (by kernel_rfl) (awk1n43 v)
def awk1T40 (v : NbV) : Fr := puF (awk1T38 v) [(3, .u (.b true)), (117, .r 15 0), (118, .r 14 0), (119, .a [.r 15 0, .r 7 0, .r 9 0, .r 11 0, .r 13 0])]
def awk1M41 (v : NbV) : Mem := paM (awk1M36 v) [(0, .c [.r 15 0, .r 7 0, .r 9 0, .r 11 0, .r 13 0]), (14, .c [.r 15 0, .r 7 0, .r 9 0, .r 11 0, .r 13 0])] []
theorem awk1n52 (v : NbV) : awk1ev awk1C1 (awk1T0 v) (awk1M0 v) [(.ret, (awk1T40 v), (awk1M41 v))] := Ev.piecesA (k := 7) (t1 := awk1T1 v) (m1 := awk1M2 v) (Ev.seqPA (awk1n3 v) (Ev.piecesA (k := 1) (t1 := awk1T6 v) (m1 := awk1M5 v) (Ev.seqPA (t1 := awk1T38 v) (m1 := awk1M36 v) (Ev.piecesA (k := 1) (t1 := awk1T7 v) (m1 := awk1M5 v) (Ev.blockP (e := .ext 0) (by kernel_rfl) (by kernel_rfl) (Ev.loopP (n0 := 20) (by kernel_rfl) (by kernel_rfl) (awk1n44 v)))) Ev.codeA)))
def awk1M42 (v : NbV) : Mem := [.c [.i 4, .w 1, .i 2, .w 2, .i 3, .i 200, .i 1, .i 500, .r 3 0, .r 5 0, .r 7 0, .r 9 0, .r 10 0, .r 12 0, .nl 16],
  .w 78 7 [[.n 3, .n 2, .n 10, .l 2 [[.n 1, .n 3], [.n 2, .n 1]], .n 2, .n 3, .n 5], [.n 4, .n 1, .n 7, .l 2 [[.n 3, .n 2]], .n 0, .n 0, .n 3]],
  .w 101 4 [[.n 1, .n 1, .n 1, .n 1000], [.n 1, .n 1, .n 0, .n 0]],
  .c [.w 4, .i 562],
  .w 217 5 [[.n 0, .n 0, .n 0, .n 0, .n 0], [.n 1, .n 0, .n 0, .n 0, .n 60], [.n 2, .n 0, .n 0, .n 0, .n 500], [.n 3, .n 0, .n 0, .n 0, .n 2]],
  .c [.w 6, .n .i64 33 [0, 120, 80, 40, 0, 0, 0, 0, 0, 0, 0, 0, 0, 0, 0, 0, 0, 0, 0, 0, 0, 0, 0, 0, 0, 0, 0, 0, 0, 0, 0, 0, 0]],
  .w 217 5 [[.n 1, .n 0, .n 1, .n 1, .n 60], [.n 1, .n 0, .n 1, .n 2, .n 40], [.n 1, .n 0, .n 1, .n 3, .n 20], [.n 2, .n 0, .n 1, .n 1, .n 60], [.n 2, .n 0, .n 1, .n 2, .n 40], [.n 2, .n 0, .n 1, .n 3, .n 20]],
  .c [.nl 3, .m 8, .i 256, .i 1],
  .p .n 1 false [],
  .c [.nl 4, .nm],
  .c [.w 11, .i 5],
  .w 247 13 [[.n 1, .n 0, .n 0, .n 0, .n 1, .n 1, .n 0, .n 1, .n 1, .n 0, .n 0, .n (-1), .n 0], [.n 2, .n 0, .n 0, .n 0, .n 2, .n 2, .n 0, .n 1, .n 2, .n 0, .n 0, .n (-1), .n 0], [.n 3, .n 0, .n 0, .n 0, .n 3, .n 1, .n 0, .n 1, .n 2, .n 3, .n 0, .n 4, .n 0], [.n 4, .n 0, .n 0, .n 0, .n 4, .n 2, .n 0, .n 1, .n 1, .n 0, .n 8, .n (-1), .n 0], [.n 5, .n 0, .n 0, .n 0, .n 5, .n 1, .n 0, .n 2, .n 1, .n 0, .n 0, .n (-1), .n 0]],
  .c [.w 13, .m 14],
  .cw 201 3 4 [.i 1, .c 1 [], .c 1 [], .i 1, .c 1 [], .c 1 [], .i 1, .c 1 [], .c 1 [], .i 0, .c 1 [], .c 1 []],
  .p .n 1 false []]
abbrev awk1Mm (v : NbV) : Mem := (awk1M42 v)
theorem awk1_run (v : NbV) : PRun Tryz.prog 19 (awk1M0 v) [.i 0] fun x m => x = .t [.a [.r 0 0, .r 3 0, .r 5 0, .r 7 0, .r 9 0], .u (.b true)] ∧ m = (awk1Mm v) := Ev.runA eK2 Tryz.func19 (c := awk1C1) (r := (.ret, (awk1T40 v), (awk1M41 v))) (awk1n52 v)
def awT3 (v : NbV) : Fr := Fr.mk [.u (.b false), .r 15 0, .u (.b true), .z, .z, .z, .z, .z, .z, .z, .z, .z, .t [.a [.r 0 0, .r 3 0, .r 5 0, .r 7 0, .r 9 0], .u (.b true)], .t [.a [.r 0 0, .r 3 0, .r 5 0, .r 7 0, .r 9 0], .u (.b true)], .a [.r 0 0, .r 3 0, .r 5 0, .r 7 0, .r 9 0], .u (.b true)] 96 112
def awM4 (v : NbV) : Mem := [.c [.i 4, .w 1, .i 2, .w 2, .i 3, .i 200, .i 1, .i 500, .r 3 0, .r 5 0, .r 7 0, .r 9 0, .r 10 0, .r 12 0, .nl 16],
  .w 78 7 [[.n 3, .n 2, .n 10, .l 2 [[.n 1, .n 3], [.n 2, .n 1]], .n 2, .n 3, .n 5], [.n 4, .n 1, .n 7, .l 2 [[.n 3, .n 2]], .n 0, .n 0, .n 3]],
  .w 101 4 [[.n 1, .n 1, .n 1, .n 1000], [.n 1, .n 1, .n 0, .n 0]],
  .c [.w 4, .i 562],
  .w 217 5 [[.n 0, .n 0, .n 0, .n 0, .n 0], [.n 1, .n 0, .n 0, .n 0, .n 60], [.n 2, .n 0, .n 0, .n 0, .n 500], [.n 3, .n 0, .n 0, .n 0, .n 2]],
  .c [.w 6, .n .i64 33 [0, 120, 80, 40, 0, 0, 0, 0, 0, 0, 0, 0, 0, 0, 0, 0, 0, 0, 0, 0, 0, 0, 0, 0, 0, 0, 0, 0, 0, 0, 0, 0, 0]],
  .w 217 5 [[.n 1, .n 0, .n 1, .n 1, .n 60], [.n 1, .n 0, .n 1, .n 2, .n 40], [.n 1, .n 0, .n 1, .n 3, .n 20], [.n 2, .n 0, .n 1, .n 1, .n 60], [.n 2, .n 0, .n 1, .n 2, .n 40], [.n 2, .n 0, .n 1, .n 3, .n 20]],
  .c [.nl 3, .m 8, .i 256, .i 1],
  .p .n 1 false [],
  .c [.nl 4, .nm],
  .c [.w 11, .i 5],
  .w 247 13 [[.n 1, .n 0, .n 0, .n 0, .n 1, .n 1, .n 0, .n 1, .n 1, .n 0, .n 0, .n (-1), .n 0], [.n 2, .n 0, .n 0, .n 0, .n 2, .n 2, .n 0, .n 1, .n 2, .n 0, .n 0, .n (-1), .n 0], [.n 3, .n 0, .n 0, .n 0, .n 3, .n 1, .n 0, .n 1, .n 2, .n 3, .n 0, .n 4, .n 0], [.n 4, .n 0, .n 0, .n 0, .n 4, .n 2, .n 0, .n 1, .n 1, .n 0, .n 8, .n (-1), .n 0], [.n 5, .n 0, .n 0, .n 0, .n 5, .n 1, .n 0, .n 2, .n 1, .n 0, .n 0, .n (-1), .n 0]],
  .c [.w 13, .m 14],
  .cw 201 3 4 [.i 1, .c 1 [], .c 1 [], .i 1, .c 1 [], .c 1 [], .i 1, .c 1 [], .c 1 [], .i 0, .c 1 [], .c 1 []],
  .p .n 1 false [],
  .c [.r 0 0, .r 3 0, .r 5 0, .r 7 0, .r 9 0]]
noncomputable abbrev awC4 : Code := cR (dropK 1 awC1)
def awT5 (v : NbV) : Fr := puF (awT3 v) [(3, .r 16 0), (16, .u (.b true)), (17, .u (.b false)), (18, .a [.i 1, .i 1, .i 0, .i 1, .i 1, .i 1, .i 2, .i 0])]
def awM6 (v : NbV) : Mem := paM (awM4 v) [] [.c [.i 1, .i 1, .i 0, .i 1, .i 1, .i 1, .i 2, .i 0]]
noncomputable abbrev awC5 : Code := dropK 2 awC4
def awT7 (v : NbV) : Fr := puF (awT5 v) [(20, .r 15 0), (21, .r 0 0), (22, .a [.i 1, .i 1, .i 0, .i 1, .i 1, .i 1, .i 2, .i 0])]
def awk3M0 (v : NbV) : Mem := [.c [.i 4, .w 1, .i 2, .w 2, .i 3, .i 200, .i 1, .i 500, .r 3 0, .r 4 0, .r 5 0, .r 6 0, .r 7 0, .r 8 0, .nl 16],
  .w 78 7 [[.n 3, .n 2, .n 10, .l 2 [[.n 1, .n 3], [.n 2, .n 1]], .n 2, .n 3, .n 5], [.n 4, .n 1, .n 7, .l 2 [[.n 3, .n 2]], .n 0, .n 0, .n 3]],
  .w 101 4 [[.n 1, .n 1, .n 1, .n 1000], [.n 1, .n 1, .n 0, .n 0]],
  .c [.w 9, .i 562],
  .c [.w 10, .n .i64 33 [0, 120, 80, 40, 0, 0, 0, 0, 0, 0, 0, 0, 0, 0, 0, 0, 0, 0, 0, 0, 0, 0, 0, 0, 0, 0, 0, 0, 0, 0, 0, 0, 0]],
  .c [.nl 3, .m 11, .i 256, .i 1],
  .c [.nl 4, .nm],
  .c [.w 12, .i 5],
  .c [.w 13, .m 14],
  .w 217 5 [[.n 0, .n 0, .n 0, .n 0, .n 0], [.n 1, .n 0, .n 0, .n 0, .n 60], [.n 2, .n 0, .n 0, .n 0, .n 500], [.n 3, .n 0, .n 0, .n 0, .n 2]],
  .w 217 5 [[.n 1, .n 0, .n 1, .n 1, .n 60], [.n 1, .n 0, .n 1, .n 2, .n 40], [.n 1, .n 0, .n 1, .n 3, .n 20], [.n 2, .n 0, .n 1, .n 1, .n 60], [.n 2, .n 0, .n 1, .n 2, .n 40], [.n 2, .n 0, .n 1, .n 3, .n 20]],
  .p .n 1 false [],
  .w 247 13 [[.n 1, .n 0, .n 0, .n 0, .n 1, .n 1, .n 0, .n 1, .n 1, .n 0, .n 0, .n (-1), .n 0], [.n 2, .n 0, .n 0, .n 0, .n 2, .n 2, .n 0, .n 1, .n 2, .n 0, .n 0, .n (-1), .n 0], [.n 3, .n 0, .n 0, .n 0, .n 3, .n 1, .n 0, .n 1, .n 2, .n 3, .n 0, .n 4, .n 0], [.n 4, .n 0, .n 0, .n 0, .n 4, .n 2, .n 0, .n 1, .n 1, .n 0, .n 8, .n (-1), .n 0], [.n 5, .n 0, .n 0, .n 0, .n 5, .n 1, .n 0, .n 2, .n 1, .n 0, .n 0, .n (-1), .n 0]],
  .cw 201 3 4 [.i 1, .c 1 [], .c 1 [], .i 1, .c 1 [], .c 1 [], .i 1, .c 1 [], .c 1 [], .i 0, .c 1 [], .c 1 []],
  .p .n 1 false []]
def awk3T1 (v : NbV) : Fr := Fr.mk [.r 0 0, .i 5, .a [.i 1, .i 1, .i 0, .i 1, .i 1, .i 1, .i 2, .i 0], .z, .z, .r 15 0, .i 1, .i 0, .i 1, .r 16 0, .i 0, .r 0 0, .u (.b true), .u (.b false), .r 0 0, .r 0 0, .r 0 14, .nl 16, .i 0, .i 1, .a [.i 1, .i 1, .i 0, .i 1, .i 1, .i 1, .i 2, .i 0], .a [.i 1, .i 1, .i 0, .i 1, .i 1, .i 1, .i 2, .i 0, .i 0, .i 0, .i 0, .i 0, .i 0, .i 0, .i 0, .i 0, .i 0, .i 0, .i 0, .i 0, .i 0, .i 0, .i 0, .i 0, .nl 2, .i 0, .i 0, .i 0, .i 0, .i 0, .i 0, .i 0, .i 0, .i 0, .i 0, .i 0, .i 0, .i 0, .i 0, .nl 2, .i 0, .i 0, .i 0, .i 0, .i 0], .r 16 0, .r 16 0, .i 1, .r 16 0, .r 16 0, .r 16 0, .r 16 5, .i 1, .r 16 0, .r 16 0, .r 16 0, .r 16 1, .i 1, .r 16 0, .r 16 0, .r 16 0, .r 16 2, .i 0, .r 16 0, .r 16 0, .r 16 0, .r 16 0, .i 1, .r 16 0, .r 16 0, .r 16 0, .r 16 3, .i 1, .r 16 0, .r 16 0, .r 16 0, .r 16 4, .i 1, .r 16 0, .r 16 0, .r 16 0, .r 16 6, .i 2, .r 16 0, .r 16 0, .r 16 0, .r 16 7, .i 0, .a [.i 1, .i 1, .i 1, .i 0, .i 1, .i 1, .i 1, .i 2, .i 0, .i 0, .i 0, .nl 2, .i 1, .i 0, .i 0, .i 0], .r 16 0, .r 16 28, .r 0 0, .i 5, .r 16 0, .i 0, .i 0, .u (.b true), .r 0 0, .r 16 0, .i 0, .i 0, .u (.b true), .r 16 0, .i 0, .i 0, .u (.b true), .u (.b true), .r 16 0, .r 16 0, .r 16 44, .i 60, .r 16 0, .r 16 0, .r 16 28, .r 16 38, .i 2, .u (.b false), .u (.b false), .i 0, .u (.b true), .r 0 0, .r 0 0, .r 0 9, .r 4 0, .r 0 0, .r 16 0, .r 16 0, .r 16 28, .a [.i 1, .i 1, .i 1, .i 0, .i 1, .i 1, .i 1, .i 2, .i 0, .i 20, .i 2, .w 17, .i 1, .i 0, .i 0, .i 20], .a [.i 1, .i 0, .i 1, .i 1], .i 1, .r 16 0, .r 16 0, .r 16 28, .r 16 39, .w 17, .i 0, .i 0, .u (.b false), .z, .r 0 0, .r 0 0, .r 0 8, .r 3 0, .r 16 0, .r 16 0, .r 16 0, .r 16 0, .i 1, .r 16 0, .r 16 0, .r 16 28, .r 16 38, .i 2, .i 0, .r 0 0, .r 0 0, .r 0 12, .r 7 0, .r 16 0, .r 16 0, .r 16 0, .r 16 4, .i 1, .i 1, .r 16 0, .r 16 0, .r 16 28, .a [.i 1, .i 1, .i 1, .i 0, .i 1, .i 1, .i 1, .i 2, .i 0, .i 20, .i 2, .w 17, .i 1, .i 0, .i 0, .i 20], .i 2, .i 0, .r 0 0, .r 0 0, .r 0 0, .r 0 14, .nl 16, .r 16 0, .r 16 0, .r 16 28, .a [.i 1, .i 1, .i 1, .i 0, .i 1, .i 1, .i 1, .i 2, .i 0, .i 20, .i 2, .w 17, .i 1, .i 0, .i 0, .i 20], .w 21, .w 22, .r 0 0, .r 0 14, .r 0 0, .r 16 0, .r 16 0, .r 16 28, .a [.i 1, .i 1, .i 1, .i 0, .i 1, .i 1, .i 1, .i 2, .i 0, .i 20, .i 2, .w 17, .i 1, .i 0, .i 0, .i 20], .i 5, .t [], .i 1] 0 169
def awk3M2 (v : NbV) : Mem := [.c [.i 4, .w 1, .i 2, .w 2, .i 3, .i 200, .i 1, .i 500, .r 3 0, .r 4 0, .r 5 0, .r 6 0, .r 7 0, .r 8 0, .w 22],
  .w 78 7 [[.n 3, .n 2, .n 10, .l 2 [[.n 1, .n 3], [.n 2, .n 1]], .n 2, .n 3, .n 5], [.n 4, .n 1, .n 7, .l 2 [[.n 3, .n 2]], .n 0, .n 0, .n 3]],
  .w 101 4 [[.n 1, .n 1, .n 1, .n 1000], [.n 1, .n 1, .n 0, .n 0]],
  .c [.w 19, .i 562],
  .c [.w 18, .n .i64 33 [0, 120, 80, 40, 0, 0, 0, 0, 0, 0, 0, 0, 0, 0, 0, 0, 0, 0, 0, 0, 0, 0, 0, 0, 0, 0, 0, 0, 0, 0, 0, 0, 0]],
  .c [.w 23, .m 11, .i 256, .i 2],
  .c [.nl 4, .nm],
  .c [.w 20, .i 5],
  .c [.w 13, .m 14],
  .w 217 5 [[.n 0, .n 0, .n 0, .n 0, .n 0], [.n 1, .n 0, .n 0, .n 0, .n 60], [.n 2, .n 0, .n 0, .n 0, .n 500], [.n 3, .n 0, .n 0, .n 0, .n 2]],
  .w 217 5 [[.n 1, .n 0, .n 1, .n 1, .n 60], [.n 1, .n 0, .n 1, .n 2, .n 40], [.n 1, .n 0, .n 1, .n 3, .n 20], [.n 2, .n 0, .n 1, .n 1, .n 60], [.n 2, .n 0, .n 1, .n 2, .n 40], [.n 2, .n 0, .n 1, .n 3, .n 20]],
  .p .n 1 false [(.n 1, [.n 0])],
  .w 247 13 [[.n 1, .n 0, .n 0, .n 0, .n 1, .n 1, .n 0, .n 1, .n 1, .n 0, .n 0, .n (-1), .n 0], [.n 2, .n 0, .n 0, .n 0, .n 2, .n 2, .n 0, .n 1, .n 2, .n 0, .n 0, .n (-1), .n 0], [.n 3, .n 0, .n 0, .n 0, .n 3, .n 1, .n 0, .n 1, .n 2, .n 3, .n 0, .n 4, .n 0], [.n 4, .n 0, .n 0, .n 0, .n 4, .n 2, .n 0, .n 1, .n 1, .n 0, .n 8, .n (-1), .n 0], [.n 5, .n 0, .n 0, .n 0, .n 5, .n 1, .n 0, .n 2, .n 1, .n 0, .n 0, .n (-1), .n 0]],
  .cw 201 3 4 [.i 1, .w 24, .c 1 [], .i 1, .c 1 [], .c 1 [], .i 1, .c 1 [], .c 1 [], .i 0, .c 1 [], .c 1 []],
  .p .n 1 false [(.n 1, [.n 0])],
  .c [.i 1, .i 1, .i 0, .i 1, .i 1, .i 1, .i 2, .i 0],
  .c [.i 1, .i 1, .i 0, .i 1, .i 1, .i 1, .i 2, .i 0, .i 1, .i 1, .i 1, .i 1000, .i 1, .i 1, .i 0, .i 1, .i 1, .i 0, .i 0, .i (-1), .i 0, .i 3, .i 2, .i 10, .u (.l 2 [[.n 1, .n 3], [.n 2, .n 1]]), .i 2, .i 3, .i 5, .i 1, .i 1, .i 1, .i 0, .i 1, .i 1, .i 1, .i 2, .i 0, .i 20, .i 2, .w 17, .i 1, .i 0, .i 0, .i 20, .i 60],
  .x,
  .w 217 5 [[.n 1, .n 0, .n 1, .n 1, .n 54], [.n 1, .n 0, .n 1, .n 2, .n 38], [.n 1, .n 0, .n 1, .n 3, .n 20], [.n 2, .n 0, .n 1, .n 1, .n 60], [.n 2, .n 0, .n 1, .n 2, .n 40], [.n 2, .n 0, .n 1, .n 3, .n 20], [.n 1048577, .n 0, .n 1, .n 1, .n 6], [.n 1048577, .n 0, .n 1, .n 2, .n 2]],
  .w 217 5 [[.n 0, .n 0, .n 0, .n 0, .n 2], [.n 1, .n 0, .n 0, .n 0, .n 58], [.n 2, .n 0, .n 0, .n 0, .n 500], [.n 3, .n 0, .n 0, .n 0, .n 2]],
  .w 247 13 [[.n 1, .n 0, .n 0, .n 0, .n 1, .n 1, .n 0, .n 1, .n 1, .n 0, .n 0, .n (-1), .n 1], [.n 2, .n 0, .n 0, .n 0, .n 2, .n 2, .n 0, .n 1, .n 2, .n 0, .n 0, .n (-1), .n 0], [.n 3, .n 0, .n 0, .n 0, .n 3, .n 1, .n 0, .n 1, .n 2, .n 3, .n 0, .n 4, .n 0], [.n 4, .n 0, .n 0, .n 0, .n 4, .n 2, .n 0, .n 1, .n 1, .n 0, .n 8, .n (-1), .n 0], [.n 5, .n 0, .n 0, .n 0, .n 5, .n 1, .n 0, .n 2, .n 1, .n 0, .n 0, .n (-1), .n 0]],
  .w 67 16 [[.n 1, .n 1, .n 1, .n 0, .n 1, .n 1, .n 1, .n 2, .n 0, .n 20, .n 2, .l 2 [[.n 1, .n 6], [.n 2, .n 2]], .n 1, .n 0, .n 0, .n 20]],
  .w 67 16 [[.n 1, .n 1, .n 1, .n 0, .n 1, .n 1, .n 1, .n 2, .n 0, .n 20, .n 2, .l 2 [[.n 1, .n 6], [.n 2, .n 2]], .n 2, .n 5, .n 25, .n 20]],
  .w 142 3 [[.n 25, .n 1, .n 2]],
  .w 3 1 [[.n 1]]]
def awk3M3 (v : NbV) : Mem := [.c [.i 4, .w 1, .i 2, .w 2, .i 3, .i 200, .i 1, .i 500, .r 3 0, .r 4 0, .r 5 0, .r 6 0, .r 7 0, .r 8 0, .w 15],
  .w 78 7 [[.n 3, .n 2, .n 10, .l 2 [[.n 1, .n 3], [.n 2, .n 1]], .n 2, .n 3, .n 5], [.n 4, .n 1, .n 7, .l 2 [[.n 3, .n 2]], .n 0, .n 0, .n 3]],
  .w 101 4 [[.n 1, .n 1, .n 1, .n 1000], [.n 1, .n 1, .n 0, .n 0]],
  .c [.w 16, .i 562],
  .c [.w 17, .n .i64 33 [0, 120, 80, 40, 0, 0, 0, 0, 0, 0, 0, 0, 0, 0, 0, 0, 0, 0, 0, 0, 0, 0, 0, 0, 0, 0, 0, 0, 0, 0, 0, 0, 0]],
  .c [.w 18, .m 11, .i 256, .i 2],
  .c [.nl 4, .nm],
  .c [.w 19, .i 5],
  .c [.w 13, .m 14],
  .w 217 5 [[.n 0, .n 0, .n 0, .n 0, .n 0], [.n 1, .n 0, .n 0, .n 0, .n 60], [.n 2, .n 0, .n 0, .n 0, .n 500], [.n 3, .n 0, .n 0, .n 0, .n 2]],
  .w 217 5 [[.n 1, .n 0, .n 1, .n 1, .n 60], [.n 1, .n 0, .n 1, .n 2, .n 40], [.n 1, .n 0, .n 1, .n 3, .n 20], [.n 2, .n 0, .n 1, .n 1, .n 60], [.n 2, .n 0, .n 1, .n 2, .n 40], [.n 2, .n 0, .n 1, .n 3, .n 20]],
  .p .n 1 false [(.n 1, [.n 0])],
  .w 247 13 [[.n 1, .n 0, .n 0, .n 0, .n 1, .n 1, .n 0, .n 1, .n 1, .n 0, .n 0, .n (-1), .n 0], [.n 2, .n 0, .n 0, .n 0, .n 2, .n 2, .n 0, .n 1, .n 2, .n 0, .n 0, .n (-1), .n 0], [.n 3, .n 0, .n 0, .n 0, .n 3, .n 1, .n 0, .n 1, .n 2, .n 3, .n 0, .n 4, .n 0], [.n 4, .n 0, .n 0, .n 0, .n 4, .n 2, .n 0, .n 1, .n 1, .n 0, .n 8, .n (-1), .n 0], [.n 5, .n 0, .n 0, .n 0, .n 5, .n 1, .n 0, .n 2, .n 1, .n 0, .n 0, .n (-1), .n 0]],
  .cw 201 3 4 [.i 1, .w 20, .c 1 [], .i 1, .c 1 [], .c 1 [], .i 1, .c 1 [], .c 1 [], .i 0, .c 1 [], .c 1 []],
  .p .n 1 false [(.n 1, [.n 0])],
  .w 67 16 [[.n 1, .n 1, .n 1, .n 0, .n 1, .n 1, .n 1, .n 2, .n 0, .n 20, .n 2, .l 2 [[.n 1, .n 6], [.n 2, .n 2]], .n 2, .n 5, .n 25, .n 20]],
  .w 217 5 [[.n 0, .n 0, .n 0, .n 0, .n 2], [.n 1, .n 0, .n 0, .n 0, .n 58], [.n 2, .n 0, .n 0, .n 0, .n 500], [.n 3, .n 0, .n 0, .n 0, .n 2]],
  .w 217 5 [[.n 1, .n 0, .n 1, .n 1, .n 54], [.n 1, .n 0, .n 1, .n 2, .n 38], [.n 1, .n 0, .n 1, .n 3, .n 20], [.n 2, .n 0, .n 1, .n 1, .n 60], [.n 2, .n 0, .n 1, .n 2, .n 40], [.n 2, .n 0, .n 1, .n 3, .n 20], [.n 1048577, .n 0, .n 1, .n 1, .n 6], [.n 1048577, .n 0, .n 1, .n 2, .n 2]],
  .w 142 3 [[.n 25, .n 1, .n 2]],
  .w 247 13 [[.n 1, .n 0, .n 0, .n 0, .n 1, .n 1, .n 0, .n 1, .n 1, .n 0, .n 0, .n (-1), .n 1], [.n 2, .n 0, .n 0, .n 0, .n 2, .n 2, .n 0, .n 1, .n 2, .n 0, .n 0, .n (-1), .n 0], [.n 3, .n 0, .n 0, .n 0, .n 3, .n 1, .n 0, .n 1, .n 2, .n 3, .n 0, .n 4, .n 0], [.n 4, .n 0, .n 0, .n 0, .n 4, .n 2, .n 0, .n 1, .n 1, .n 0, .n 8, .n (-1), .n 0], [.n 5, .n 0, .n 0, .n 0, .n 5, .n 1, .n 0, .n 2, .n 1, .n 0, .n 0, .n (-1), .n 0]],
  .w 3 1 [[.n 1]]]
abbrev awk3Mm (v : NbV) : Mem := (awk3M3 v)
theorem awk3_run (v : NbV) : PRun Tryz.prog 9 (awk3M0 v) [.r 0 0, .i 5, .a [.i 1, .i 1, .i 0, .i 1, .i 1, .i 1, .i 2, .i 0]] fun x m => x = .t [.i 1, .i 0] ∧ m = (awk3Mm v) := Ev.runA (speWhole whp) Tryz.func9 (c := (bodyOf Tryz.f9)) (r := (.ret, (awk3T1 v), (awk3M2 v))) Ev.codeA
def awT8 (v : NbV) : Fr := puF (awT7 v) [(4, .i 1), (5, .i 0), (19, .t [.i 1, .i 0]), (23, .t [.i 1, .i 0]), (24, .i 1), (25, .i 0)]
def awM9 (v : NbV) : Mem := [.c [.i 4, .w 1, .i 2, .w 2, .i 3, .i 200, .i 1, .i 500, .r 3 0, .r 5 0, .r 7 0, .r 9 0, .r 10 0, .r 12 0, .w 17],
  .w 78 7 [[.n 3, .n 2, .n 10, .l 2 [[.n 1, .n 3], [.n 2, .n 1]], .n 2, .n 3, .n 5], [.n 4, .n 1, .n 7, .l 2 [[.n 3, .n 2]], .n 0, .n 0, .n 3]],
  .w 101 4 [[.n 1, .n 1, .n 1, .n 1000], [.n 1, .n 1, .n 0, .n 0]],
  .c [.w 18, .i 562],
  .w 217 5 [[.n 0, .n 0, .n 0, .n 0, .n 0], [.n 1, .n 0, .n 0, .n 0, .n 60], [.n 2, .n 0, .n 0, .n 0, .n 500], [.n 3, .n 0, .n 0, .n 0, .n 2]],
  .c [.w 19, .n .i64 33 [0, 120, 80, 40, 0, 0, 0, 0, 0, 0, 0, 0, 0, 0, 0, 0, 0, 0, 0, 0, 0, 0, 0, 0, 0, 0, 0, 0, 0, 0, 0, 0, 0]],
  .w 217 5 [[.n 1, .n 0, .n 1, .n 1, .n 60], [.n 1, .n 0, .n 1, .n 2, .n 40], [.n 1, .n 0, .n 1, .n 3, .n 20], [.n 2, .n 0, .n 1, .n 1, .n 60], [.n 2, .n 0, .n 1, .n 2, .n 40], [.n 2, .n 0, .n 1, .n 3, .n 20]],
  .c [.w 20, .m 8, .i 256, .i 2],
  .p .n 1 false [(.n 1, [.n 0])],
  .c [.nl 4, .nm],
  .c [.w 21, .i 5],
  .w 247 13 [[.n 1, .n 0, .n 0, .n 0, .n 1, .n 1, .n 0, .n 1, .n 1, .n 0, .n 0, .n (-1), .n 0], [.n 2, .n 0, .n 0, .n 0, .n 2, .n 2, .n 0, .n 1, .n 2, .n 0, .n 0, .n (-1), .n 0], [.n 3, .n 0, .n 0, .n 0, .n 3, .n 1, .n 0, .n 1, .n 2, .n 3, .n 0, .n 4, .n 0], [.n 4, .n 0, .n 0, .n 0, .n 4, .n 2, .n 0, .n 1, .n 1, .n 0, .n 8, .n (-1), .n 0], [.n 5, .n 0, .n 0, .n 0, .n 5, .n 1, .n 0, .n 2, .n 1, .n 0, .n 0, .n (-1), .n 0]],
  .c [.w 13, .m 14],
  .cw 201 3 4 [.i 1, .w 22, .c 1 [], .i 1, .c 1 [], .c 1 [], .i 1, .c 1 [], .c 1 [], .i 0, .c 1 [], .c 1 []],
  .p .n 1 false [(.n 1, [.n 0])],
  .c [.r 0 0, .r 3 0, .r 5 0, .r 7 0, .r 9 0],
  .c [.i 1, .i 1, .i 0, .i 1, .i 1, .i 1, .i 2, .i 0],
  .w 67 16 [[.n 1, .n 1, .n 1, .n 0, .n 1, .n 1, .n 1, .n 2, .n 0, .n 20, .n 2, .l 2 [[.n 1, .n 6], [.n 2, .n 2]], .n 2, .n 5, .n 25, .n 20]],
  .w 217 5 [[.n 0, .n 0, .n 0, .n 0, .n 2], [.n 1, .n 0, .n 0, .n 0, .n 58], [.n 2, .n 0, .n 0, .n 0, .n 500], [.n 3, .n 0, .n 0, .n 0, .n 2]],
  .w 217 5 [[.n 1, .n 0, .n 1, .n 1, .n 54], [.n 1, .n 0, .n 1, .n 2, .n 38], [.n 1, .n 0, .n 1, .n 3, .n 20], [.n 2, .n 0, .n 1, .n 1, .n 60], [.n 2, .n 0, .n 1, .n 2, .n 40], [.n 2, .n 0, .n 1, .n 3, .n 20], [.n 1048577, .n 0, .n 1, .n 1, .n 6], [.n 1048577, .n 0, .n 1, .n 2, .n 2]],
  .w 142 3 [[.n 25, .n 1, .n 2]],
  .w 247 13 [[.n 1, .n 0, .n 0, .n 0, .n 1, .n 1, .n 0, .n 1, .n 1, .n 0, .n 0, .n (-1), .n 1], [.n 2, .n 0, .n 0, .n 0, .n 2, .n 2, .n 0, .n 1, .n 2, .n 0, .n 0, .n (-1), .n 0], [.n 3, .n 0, .n 0, .n 0, .n 3, .n 1, .n 0, .n 1, .n 2, .n 3, .n 0, .n 4, .n 0], [.n 4, .n 0, .n 0, .n 0, .n 4, .n 2, .n 0, .n 1, .n 1, .n 0, .n 8, .n (-1), .n 0], [.n 5, .n 0, .n 0, .n 0, .n 5, .n 1, .n 0, .n 2, .n 1, .n 0, .n 0, .n (-1), .n 0]],
  .w 3 1 [[.n 1]]]
theorem awn6 (v : NbV) : awev (cL awC5) (awT5 v) (awM6 v) [(.nrm, (awT8 v), (awM9 v))] := Ev.regA (EvO.callA (t2 := awT7 v) (m1 := awM6 v) (ix := [0, 1, 2, 3, 5, 7, 9, 10, 12, 4, 6, 8, 11, 13, 14]) (k := 3) (t1 := (awT7 v)) (args := [.r 0 0, .i 5, .a [.i 1, .i 1, .i 0, .i 1, .i 1, .i 1, .i 2, .i 0]]) (a := []) (cc := []) (awk3_run v) EvO.opsA)
noncomputable abbrev awC7 : Code := cR awC5
def awT10 (v : NbV) : Fr := puF (awT8 v) [(27, .r 15 0), (28, .r 0 0), (29, .a [.i 1, .i 1, .i 0, .i 1, .i 1, .i 1, .i 2, .i 0])]
def awk4M0 (v : NbV) : Mem := [.c [.i 4, .w 1, .i 2, .w 2, .i 3, .i 200, .i 1, .i 500, .r 3 0, .r 4 0, .r 5 0, .r 6 0, .r 7 0, .r 8 0, .w 9],
  .w 78 7 [[.n 3, .n 2, .n 10, .l 2 [[.n 1, .n 3], [.n 2, .n 1]], .n 2, .n 3, .n 5], [.n 4, .n 1, .n 7, .l 2 [[.n 3, .n 2]], .n 0, .n 0, .n 3]],
  .w 101 4 [[.n 1, .n 1, .n 1, .n 1000], [.n 1, .n 1, .n 0, .n 0]],
  .c [.w 10, .i 562],
  .c [.w 11, .n .i64 33 [0, 120, 80, 40, 0, 0, 0, 0, 0, 0, 0, 0, 0, 0, 0, 0, 0, 0, 0, 0, 0, 0, 0, 0, 0, 0, 0, 0, 0, 0, 0, 0, 0]],
  .c [.w 12, .m 13, .i 256, .i 2],
  .c [.nl 4, .nm],
  .c [.w 14, .i 5],
  .c [.w 15, .m 16],
  .w 67 16 [[.n 1, .n 1, .n 1, .n 0, .n 1, .n 1, .n 1, .n 2, .n 0, .n 20, .n 2, .l 2 [[.n 1, .n 6], [.n 2, .n 2]], .n 2, .n 5, .n 25, .n 20]],
  .w 217 5 [[.n 0, .n 0, .n 0, .n 0, .n 2], [.n 1, .n 0, .n 0, .n 0, .n 58], [.n 2, .n 0, .n 0, .n 0, .n 500], [.n 3, .n 0, .n 0, .n 0, .n 2]],
  .w 217 5 [[.n 1, .n 0, .n 1, .n 1, .n 54], [.n 1, .n 0, .n 1, .n 2, .n 38], [.n 1, .n 0, .n 1, .n 3, .n 20], [.n 2, .n 0, .n 1, .n 1, .n 60], [.n 2, .n 0, .n 1, .n 2, .n 40], [.n 2, .n 0, .n 1, .n 3, .n 20], [.n 1048577, .n 0, .n 1, .n 1, .n 6], [.n 1048577, .n 0, .n 1, .n 2, .n 2]],
  .w 142 3 [[.n 25, .n 1, .n 2]],
  .p .n 1 false [(.n 1, [.n 0])],
  .w 247 13 [[.n 1, .n 0, .n 0, .n 0, .n 1, .n 1, .n 0, .n 1, .n 1, .n 0, .n 0, .n (-1), .n 1], [.n 2, .n 0, .n 0, .n 0, .n 2, .n 2, .n 0, .n 1, .n 2, .n 0, .n 0, .n (-1), .n 0], [.n 3, .n 0, .n 0, .n 0, .n 3, .n 1, .n 0, .n 1, .n 2, .n 3, .n 0, .n 4, .n 0], [.n 4, .n 0, .n 0, .n 0, .n 4, .n 2, .n 0, .n 1, .n 1, .n 0, .n 8, .n (-1), .n 0], [.n 5, .n 0, .n 0, .n 0, .n 5, .n 1, .n 0, .n 2, .n 1, .n 0, .n 0, .n (-1), .n 0]],
  .cw 201 3 4 [.i 1, .w 17, .c 1 [], .i 1, .c 1 [], .c 1 [], .i 1, .c 1 [], .c 1 [], .i 0, .c 1 [], .c 1 []],
  .p .n 1 false [(.n 1, [.n 0])],
  .w 3 1 [[.n 1]]]
def awk4T1 (v : NbV) : Fr := Fr.mk [.r 0 0, .i 5, .a [.i 1, .i 1, .i 0, .i 1, .i 1, .i 1, .i 2, .i 0], .z, .z, .r 18 0, .i 0, .i 12, .i 2, .r 19 0, .i 12, .r 0 0, .u (.b true), .u (.b false), .r 0 0, .r 0 0, .r 0 14, .w 9, .i 1, .i 2, .a [.i 1, .i 1, .i 0, .i 1, .i 1, .i 1, .i 2, .i 0], .a [.i 1, .i 1, .i 0, .i 1, .i 1, .i 1, .i 2, .i 0, .i 0, .i 0, .i 0, .i 0, .i 0, .i 0, .i 0, .i 0, .i 0, .i 0, .i 0, .i 0, .i 0, .i 0, .i 0, .i 0, .nl 2, .i 0, .i 0, .i 0, .i 0, .i 0, .i 0, .i 0, .i 0, .i 0, .i 0, .i 0, .i 0, .i 0, .i 0, .nl 2, .i 0, .i 0, .i 0, .i 0, .i 0], .r 19 0, .r 19 0, .i 2, .r 19 0, .r 19 0, .r 19 0, .r 19 5, .i 1, .r 19 0, .r 19 0, .r 19 0, .r 19 1, .i 1, .r 19 0, .r 19 0, .r 19 0, .r 19 2, .i 0, .r 19 0, .r 19 0, .r 19 0, .r 19 0, .i 1, .r 19 0, .r 19 0, .r 19 0, .r 19 3, .i 1, .r 19 0, .r 19 0, .r 19 0, .r 19 4, .i 1, .r 19 0, .r 19 0, .r 19 0, .r 19 6, .i 2, .r 19 0, .r 19 0, .r 19 0, .r 19 7, .i 0, .a [.i 2, .i 1, .i 1, .i 0, .i 1, .i 1, .i 1, .i 2, .i 0, .i 0, .i 0, .nl 2, .i 1, .i 0, .i 0, .i 0], .r 19 0, .r 19 28, .r 0 0, .i 5, .r 19 0, .i 0, .i 0, .u (.b true), .r 0 0, .r 19 0, .i 12, .i 12, .u (.b false), .z, .z, .i 12, .u (.b false), .u (.b false), .t [], .t [], .t [], .t [], .t [], .t [], .t [], .t [], .t [], .t [], .u (.b false), .i 12, .u (.b false), .z, .z, .z, .z, .z, .z, .z, .z, .z, .z, .z, .z, .z, .z, .z, .z, .z, .i 12, .u (.b true), .i 12] 52 169
def awk4M2 (v : NbV) : Mem := paM (awk4M0 v) [] [.c [.i 1, .i 1, .i 0, .i 1, .i 1, .i 1, .i 2, .i 0],
  .c [.i 1, .i 1, .i 0, .i 1, .i 1, .i 1, .i 2, .i 0, .i 1, .i 1, .i 1, .i 1000, .i 1, .i 1, .i 0, .i 1, .i 1, .i 0, .i 0, .i (-1), .i 1, .i 3, .i 2, .i 10, .u (.l 2 [[.n 1, .n 3], [.n 2, .n 1]]), .i 2, .i 3, .i 5, .i 2, .i 1, .i 1, .i 0, .i 1, .i 1, .i 1, .i 2, .i 0, .i 0, .i 0, .nl 2, .i 1, .i 0, .i 0, .i 0, .i 58],
  .c [.i 1, .i 1, .i 1, .i 0, .i 1, .i 1, .i 1, .i 2, .i 0, .i 20, .i 2, .u (.l 2 [[.n 1, .n 6], [.n 2, .n 2]]), .i 2, .i 5, .i 25, .i 20]]
abbrev awk4Mm (v : NbV) : Mem := (awk4M0 v)
theorem awk4_run (v : NbV) : PRun Tryz.prog 9 (awk4M0 v) [.r 0 0, .i 5, .a [.i 1, .i 1, .i 0, .i 1, .i 1, .i 1, .i 2, .i 0]] fun x m => x = .t [.i 0, .i 12] ∧ m = (awk4Mm v) := Ev.runA (speWhole whp) Tryz.func9 (c := (bodyOf Tryz.f9)) (r := (.ret, (awk4T1 v), (awk4M2 v))) Ev.codeA
def awT11 (v : NbV) : Fr := puF (awT10 v) [(6, .i 0), (7, .i 12), (26, .t [.i 0, .i 12]), (30, .t [.i 0, .i 12]), (31, .i 0), (32, .i 12)]
theorem awn9 (v : NbV) : awev (cL awC7) (awT8 v) (awM9 v) [(.nrm, (awT11 v), (awM9 v))] := Ev.regA (EvO.callA (t2 := awT10 v) (m1 := awM9 v) (ix := [0, 1, 2, 3, 5, 7, 9, 10, 12, 17, 18, 19, 20, 8, 21, 13, 14, 22]) (k := 3) (t1 := (awT10 v)) (args := [.r 0 0, .i 5, .a [.i 1, .i 1, .i 0, .i 1, .i 1, .i 1, .i 2, .i 0]]) (a := []) (cc := []) (awk4_run v) EvO.opsA)
def awT12 (v : NbV) : Fr := puF (awT11 v) [(33, .r 16 4)]
def awM13 (v : NbV) : Mem := paM (awM9 v) [(16, .c [.i 1, .i 1, .i 0, .i 1, .i 3, .i 1, .i 2, .i 0])] []
def awT14 (v : NbV) : Fr := puF (awT11 v) [(33, .r 16 4), (35, .r 15 0), (36, .r 0 0), (37, .a [.i 1, .i 1, .i 0, .i 1, .i 3, .i 1, .i 2, .i 0])]
def awk5M0 (v : NbV) : Mem := [.c [.i 4, .w 1, .i 2, .w 2, .i 3, .i 200, .i 1, .i 500, .r 3 0, .r 4 0, .r 5 0, .r 6 0, .r 7 0, .r 8 0, .w 9],
  .w 78 7 [[.n 3, .n 2, .n 10, .l 2 [[.n 1, .n 3], [.n 2, .n 1]], .n 2, .n 3, .n 5], [.n 4, .n 1, .n 7, .l 2 [[.n 3, .n 2]], .n 0, .n 0, .n 3]],
  .w 101 4 [[.n 1, .n 1, .n 1, .n 1000], [.n 1, .n 1, .n 0, .n 0]],
  .c [.w 10, .i 562],
  .c [.w 11, .n .i64 33 [0, 120, 80, 40, 0, 0, 0, 0, 0, 0, 0, 0, 0, 0, 0, 0, 0, 0, 0, 0, 0, 0, 0, 0, 0, 0, 0, 0, 0, 0, 0, 0, 0]],
  .c [.w 12, .m 13, .i 256, .i 2],
  .c [.nl 4, .nm],
  .c [.w 14, .i 5],
  .c [.w 15, .m 16],
  .w 67 16 [[.n 1, .n 1, .n 1, .n 0, .n 1, .n 1, .n 1, .n 2, .n 0, .n 20, .n 2, .l 2 [[.n 1, .n 6], [.n 2, .n 2]], .n 2, .n 5, .n 25, .n 20]],
  .w 217 5 [[.n 0, .n 0, .n 0, .n 0, .n 2], [.n 1, .n 0, .n 0, .n 0, .n 58], [.n 2, .n 0, .n 0, .n 0, .n 500], [.n 3, .n 0, .n 0, .n 0, .n 2]],
  .w 217 5 [[.n 1, .n 0, .n 1, .n 1, .n 54], [.n 1, .n 0, .n 1, .n 2, .n 38], [.n 1, .n 0, .n 1, .n 3, .n 20], [.n 2, .n 0, .n 1, .n 1, .n 60], [.n 2, .n 0, .n 1, .n 2, .n 40], [.n 2, .n 0, .n 1, .n 3, .n 20], [.n 1048577, .n 0, .n 1, .n 1, .n 6], [.n 1048577, .n 0, .n 1, .n 2, .n 2]],
  .w 142 3 [[.n 25, .n 1, .n 2]],
  .p .n 1 false [(.n 1, [.n 0])],
  .w 247 13 [[.n 1, .n 0, .n 0, .n 0, .n 1, .n 1, .n 0, .n 1, .n 1, .n 0, .n 0, .n (-1), .n 1], [.n 2, .n 0, .n 0, .n 0, .n 2, .n 2, .n 0, .n 1, .n 2, .n 0, .n 0, .n (-1), .n 0], [.n 3, .n 0, .n 0, .n 0, .n 3, .n 1, .n 0, .n 1, .n 2, .n 3, .n 0, .n 4, .n 0], [.n 4, .n 0, .n 0, .n 0, .n 4, .n 2, .n 0, .n 1, .n 1, .n 0, .n 8, .n (-1), .n 0], [.n 5, .n 0, .n 0, .n 0, .n 5, .n 1, .n 0, .n 2, .n 1, .n 0, .n 0, .n (-1), .n 0]],
  .cw 201 3 4 [.i 1, .w 17, .c 1 [], .i 1, .c 1 [], .c 1 [], .i 1, .c 1 [], .c 1 [], .i 0, .c 1 [], .c 1 []],
  .p .n 1 false [(.n 1, [.n 0])],
  .w 3 1 [[.n 1]]]
def awk5T1 (v : NbV) : Fr := Fr.mk [.r 0 0, .i 6, .a [.i 1, .i 1, .i 0, .i 1, .i 3, .i 1, .i 2, .i 0], .z, .z, .r 18 0, .i 2, .i 0, .i 2, .r 19 0, .i 0, .r 0 0, .u (.b true), .u (.b false), .r 0 0, .r 0 0, .r 0 14, .w 9, .i 1, .i 2, .a [.i 1, .i 1, .i 0, .i 1, .i 3, .i 1, .i 2, .i 0], .a [.i 1, .i 1, .i 0, .i 1, .i 3, .i 1, .i 2, .i 0, .i 0, .i 0, .i 0, .i 0, .i 0, .i 0, .i 0, .i 0, .i 0, .i 0, .i 0, .i 0, .i 0, .i 0, .i 0, .i 0, .nl 2, .i 0, .i 0, .i 0, .i 0, .i 0, .i 0, .i 0, .i 0, .i 0, .i 0, .i 0, .i 0, .i 0, .i 0, .nl 2, .i 0, .i 0, .i 0, .i 0, .i 0], .r 19 0, .r 19 0, .i 2, .r 19 0, .r 19 0, .r 19 0, .r 19 5, .i 1, .r 19 0, .r 19 0, .r 19 0, .r 19 1, .i 1, .r 19 0, .r 19 0, .r 19 0, .r 19 2, .i 0, .r 19 0, .r 19 0, .r 19 0, .r 19 0, .i 1, .r 19 0, .r 19 0, .r 19 0, .r 19 3, .i 1, .r 19 0, .r 19 0, .r 19 0, .r 19 4, .i 3, .r 19 0, .r 19 0, .r 19 0, .r 19 6, .i 2, .r 19 0, .r 19 0, .r 19 0, .r 19 7, .i 0, .a [.i 2, .i 1, .i 1, .i 0, .i 1, .i 1, .i 3, .i 2, .i 0, .i 0, .i 0, .nl 2, .i 1, .i 0, .i 0, .i 0], .r 19 0, .r 19 28, .r 0 0, .i 6, .r 19 0, .i 0, .i 0, .u (.b true), .r 0 0, .r 19 0, .i 0, .i 0, .u (.b true), .r 19 0, .i 0, .i 0, .u (.b true), .u (.b true), .r 19 0, .r 19 0, .r 19 44, .i 58, .r 19 0, .r 19 0, .r 19 28, .r 19 38, .i 2, .u (.b false), .u (.b false), .i 0, .u (.b true), .r 0 0, .r 0 0, .r 0 9, .r 4 0, .r 0 0, .r 19 0, .r 19 0, .r 19 28, .a [.i 2, .i 1, .i 1, .i 0, .i 1, .i 1, .i 3, .i 2, .i 0, .i 14, .i 2, .w 21, .i 1, .i 0, .i 0, .i 14], .a [.i 1, .i 0, .i 1, .i 1], .i 2, .r 19 0, .r 19 0, .r 19 28, .r 19 39, .w 21, .i 0, .i 0, .u (.b false), .z, .r 0 0, .r 0 0, .r 0 8, .r 3 0, .r 19 0, .r 19 0, .r 19 0, .r 19 0, .i 1, .r 19 0, .r 19 0, .r 19 28, .r 19 38, .i 2, .i 0, .r 0 0, .r 0 0, .r 0 12, .r 7 0, .r 19 0, .r 19 0, .r 19 0, .r 19 4, .i 3, .i 2, .r 19 0, .r 19 0, .r 19 28, .a [.i 2, .i 1, .i 1, .i 0, .i 1, .i 1, .i 3, .i 2, .i 0, .i 14, .i 2, .w 21, .i 1, .i 0, .i 0, .i 14], .i 2, .i 0, .r 0 0, .r 0 0, .r 0 0, .r 0 14, .w 9, .r 19 0, .r 19 0, .r 19 28, .a [.i 2, .i 1, .i 1, .i 0, .i 1, .i 1, .i 3, .i 2, .i 0, .i 14, .i 2, .w 21, .i 1, .i 0, .i 0, .i 14], .w 25, .w 26, .r 0 0, .r 0 14, .r 0 0, .r 19 0, .r 19 0, .r 19 28, .a [.i 2, .i 1, .i 1, .i 0, .i 1, .i 1, .i 3, .i 2, .i 0, .i 14, .i 2, .w 21, .i 1, .i 0, .i 0, .i 14], .i 6, .t [], .i 2] 0 169
def awk5M2 (v : NbV) : Mem := [.c [.i 4, .w 1, .i 2, .w 2, .i 3, .i 200, .i 1, .i 500, .r 3 0, .r 4 0, .r 5 0, .r 6 0, .r 7 0, .r 8 0, .w 26],
  .w 78 7 [[.n 3, .n 2, .n 10, .l 2 [[.n 1, .n 3], [.n 2, .n 1]], .n 2, .n 3, .n 5], [.n 4, .n 1, .n 7, .l 2 [[.n 3, .n 2]], .n 0, .n 0, .n 3]],
  .w 101 4 [[.n 1, .n 1, .n 1, .n 1000], [.n 1, .n 1, .n 0, .n 0]],
  .c [.w 23, .i 562],
  .c [.w 22, .n .i64 33 [0, 120, 80, 40, 0, 0, 0, 0, 0, 0, 0, 0, 0, 0, 0, 0, 0, 0, 0, 0, 0, 0, 0, 0, 0, 0, 0, 0, 0, 0, 0, 0, 0]],
  .c [.w 12, .m 13, .i 256, .i 2],
  .c [.nl 4, .nm],
  .c [.w 24, .i 5],
  .c [.w 15, .m 16],
  .x,
  .w 217 5 [[.n 0, .n 0, .n 0, .n 0, .n 2], [.n 1, .n 0, .n 0, .n 0, .n 58], [.n 2, .n 0, .n 0, .n 0, .n 500], [.n 3, .n 0, .n 0, .n 0, .n 2]],
  .w 217 5 [[.n 1, .n 0, .n 1, .n 1, .n 54], [.n 1, .n 0, .n 1, .n 2, .n 38], [.n 1, .n 0, .n 1, .n 3, .n 20], [.n 2, .n 0, .n 1, .n 1, .n 60], [.n 2, .n 0, .n 1, .n 2, .n 40], [.n 2, .n 0, .n 1, .n 3, .n 20], [.n 1048577, .n 0, .n 1, .n 1, .n 6], [.n 1048577, .n 0, .n 1, .n 2, .n 2]],
  .w 142 3 [[.n 25, .n 1, .n 2]],
  .p .n 1 false [(.n 1, [.n 0])],
  .w 247 13 [[.n 1, .n 0, .n 0, .n 0, .n 1, .n 1, .n 0, .n 1, .n 1, .n 0, .n 0, .n (-1), .n 1], [.n 2, .n 0, .n 0, .n 0, .n 2, .n 2, .n 0, .n 1, .n 2, .n 0, .n 0, .n (-1), .n 0], [.n 3, .n 0, .n 0, .n 0, .n 3, .n 1, .n 0, .n 1, .n 2, .n 3, .n 0, .n 4, .n 0], [.n 4, .n 0, .n 0, .n 0, .n 4, .n 2, .n 0, .n 1, .n 1, .n 0, .n 8, .n (-1), .n 0], [.n 5, .n 0, .n 0, .n 0, .n 5, .n 1, .n 0, .n 2, .n 1, .n 0, .n 0, .n (-1), .n 0]],
  .cw 201 3 4 [.i 1, .w 17, .w 27, .i 1, .c 1 [], .c 1 [], .i 1, .c 1 [], .c 1 [], .i 0, .c 1 [], .c 1 []],
  .p .n 1 false [(.n 1, [.n 0]), (.n 2, [.n 0])],
  .w 3 1 [[.n 1]],
  .c [.i 1, .i 1, .i 0, .i 1, .i 3, .i 1, .i 2, .i 0],
  .c [.i 1, .i 1, .i 0, .i 1, .i 3, .i 1, .i 2, .i 0, .i 1, .i 1, .i 1, .i 1000, .i 3, .i 1, .i 0, .i 1, .i 2, .i 3, .i 0, .i 4, .i 0, .i 4, .i 1, .i 7, .u (.l 2 [[.n 3, .n 2]]), .i 0, .i 0, .i 3, .i 2, .i 1, .i 1, .i 0, .i 1, .i 1, .i 3, .i 2, .i 0, .i 14, .i 2, .w 21, .i 1, .i 0, .i 0, .i 14, .i 58],
  .c [.i 1, .i 1, .i 1, .i 0, .i 1, .i 1, .i 1, .i 2, .i 0, .i 20, .i 2, .u (.l 2 [[.n 1, .n 6], [.n 2, .n 2]]), .i 2, .i 5, .i 25, .i 20],
  .x,
  .w 217 5 [[.n 1, .n 0, .n 1, .n 1, .n 54], [.n 1, .n 0, .n 1, .n 2, .n 38], [.n 1, .n 0, .n 1, .n 3, .n 16], [.n 2, .n 0, .n 1, .n 1, .n 60], [.n 2, .n 0, .n 1, .n 2, .n 40], [.n 2, .n 0, .n 1, .n 3, .n 20], [.n 1048577, .n 0, .n 1, .n 1, .n 6], [.n 1048577, .n 0, .n 1, .n 2, .n 2], [.n 1048578, .n 0, .n 1, .n 3, .n 4]],
  .w 217 5 [[.n 0, .n 0, .n 0, .n 0, .n 4], [.n 1, .n 0, .n 0, .n 0, .n 56], [.n 2, .n 0, .n 0, .n 0, .n 500], [.n 3, .n 0, .n 0, .n 0, .n 2]],
  .w 247 13 [[.n 1, .n 0, .n 0, .n 0, .n 1, .n 1, .n 0, .n 1, .n 1, .n 0, .n 0, .n (-1), .n 1], [.n 2, .n 0, .n 0, .n 0, .n 2, .n 2, .n 0, .n 1, .n 2, .n 0, .n 0, .n (-1), .n 0], [.n 3, .n 0, .n 0, .n 0, .n 3, .n 1, .n 0, .n 1, .n 2, .n 3, .n 0, .n 2, .n 2], [.n 4, .n 0, .n 0, .n 0, .n 4, .n 2, .n 0, .n 1, .n 1, .n 0, .n 8, .n (-1), .n 0], [.n 5, .n 0, .n 0, .n 0, .n 5, .n 1, .n 0, .n 2, .n 1, .n 0, .n 0, .n (-1), .n 0]],
  .w 67 16 [[.n 2, .n 1, .n 1, .n 0, .n 1, .n 1, .n 3, .n 2, .n 0, .n 14, .n 2, .l 2 [[.n 3, .n 4]], .n 1, .n 0, .n 0, .n 14]],
  .w 67 16 [[.n 1, .n 1, .n 1, .n 0, .n 1, .n 1, .n 1, .n 2, .n 0, .n 20, .n 2, .l 2 [[.n 1, .n 6], [.n 2, .n 2]], .n 2, .n 5, .n 25, .n 20], [.n 2, .n 1, .n 1, .n 0, .n 1, .n 1, .n 3, .n 2, .n 0, .n 14, .n 2, .l 2 [[.n 3, .n 4]], .n 1, .n 0, .n 0, .n 14]],
  .w 3 1 [[.n 2]]]
def awk5M3 (v : NbV) : Mem := [.c [.i 4, .w 1, .i 2, .w 2, .i 3, .i 200, .i 1, .i 500, .r 3 0, .r 4 0, .r 5 0, .r 6 0, .r 7 0, .r 8 0, .w 18],
  .w 78 7 [[.n 3, .n 2, .n 10, .l 2 [[.n 1, .n 3], [.n 2, .n 1]], .n 2, .n 3, .n 5], [.n 4, .n 1, .n 7, .l 2 [[.n 3, .n 2]], .n 0, .n 0, .n 3]],
  .w 101 4 [[.n 1, .n 1, .n 1, .n 1000], [.n 1, .n 1, .n 0, .n 0]],
  .c [.w 19, .i 562],
  .c [.w 20, .n .i64 33 [0, 120, 80, 40, 0, 0, 0, 0, 0, 0, 0, 0, 0, 0, 0, 0, 0, 0, 0, 0, 0, 0, 0, 0, 0, 0, 0, 0, 0, 0, 0, 0, 0]],
  .c [.w 12, .m 13, .i 256, .i 2],
  .c [.nl 4, .nm],
  .c [.w 21, .i 5],
  .c [.w 15, .m 16],
  .x,
  .w 217 5 [[.n 0, .n 0, .n 0, .n 0, .n 2], [.n 1, .n 0, .n 0, .n 0, .n 58], [.n 2, .n 0, .n 0, .n 0, .n 500], [.n 3, .n 0, .n 0, .n 0, .n 2]],
  .w 217 5 [[.n 1, .n 0, .n 1, .n 1, .n 54], [.n 1, .n 0, .n 1, .n 2, .n 38], [.n 1, .n 0, .n 1, .n 3, .n 20], [.n 2, .n 0, .n 1, .n 1, .n 60], [.n 2, .n 0, .n 1, .n 2, .n 40], [.n 2, .n 0, .n 1, .n 3, .n 20], [.n 1048577, .n 0, .n 1, .n 1, .n 6], [.n 1048577, .n 0, .n 1, .n 2, .n 2]],
  .w 142 3 [[.n 25, .n 1, .n 2]],
  .p .n 1 false [(.n 1, [.n 0])],
  .w 247 13 [[.n 1, .n 0, .n 0, .n 0, .n 1, .n 1, .n 0, .n 1, .n 1, .n 0, .n 0, .n (-1), .n 1], [.n 2, .n 0, .n 0, .n 0, .n 2, .n 2, .n 0, .n 1, .n 2, .n 0, .n 0, .n (-1), .n 0], [.n 3, .n 0, .n 0, .n 0, .n 3, .n 1, .n 0, .n 1, .n 2, .n 3, .n 0, .n 4, .n 0], [.n 4, .n 0, .n 0, .n 0, .n 4, .n 2, .n 0, .n 1, .n 1, .n 0, .n 8, .n (-1), .n 0], [.n 5, .n 0, .n 0, .n 0, .n 5, .n 1, .n 0, .n 2, .n 1, .n 0, .n 0, .n (-1), .n 0]],
  .cw 201 3 4 [.i 1, .w 17, .w 22, .i 1, .c 1 [], .c 1 [], .i 1, .c 1 [], .c 1 [], .i 0, .c 1 [], .c 1 []],
  .p .n 1 false [(.n 1, [.n 0]), (.n 2, [.n 0])],
  .w 3 1 [[.n 1]],
  .w 67 16 [[.n 1, .n 1, .n 1, .n 0, .n 1, .n 1, .n 1, .n 2, .n 0, .n 20, .n 2, .l 2 [[.n 1, .n 6], [.n 2, .n 2]], .n 2, .n 5, .n 25, .n 20], [.n 2, .n 1, .n 1, .n 0, .n 1, .n 1, .n 3, .n 2, .n 0, .n 14, .n 2, .l 2 [[.n 3, .n 4]], .n 1, .n 0, .n 0, .n 14]],
  .w 217 5 [[.n 0, .n 0, .n 0, .n 0, .n 4], [.n 1, .n 0, .n 0, .n 0, .n 56], [.n 2, .n 0, .n 0, .n 0, .n 500], [.n 3, .n 0, .n 0, .n 0, .n 2]],
  .w 217 5 [[.n 1, .n 0, .n 1, .n 1, .n 54], [.n 1, .n 0, .n 1, .n 2, .n 38], [.n 1, .n 0, .n 1, .n 3, .n 16], [.n 2, .n 0, .n 1, .n 1, .n 60], [.n 2, .n 0, .n 1, .n 2, .n 40], [.n 2, .n 0, .n 1, .n 3, .n 20], [.n 1048577, .n 0, .n 1, .n 1, .n 6], [.n 1048577, .n 0, .n 1, .n 2, .n 2], [.n 1048578, .n 0, .n 1, .n 3, .n 4]],
  .w 247 13 [[.n 1, .n 0, .n 0, .n 0, .n 1, .n 1, .n 0, .n 1, .n 1, .n 0, .n 0, .n (-1), .n 1], [.n 2, .n 0, .n 0, .n 0, .n 2, .n 2, .n 0, .n 1, .n 2, .n 0, .n 0, .n (-1), .n 0], [.n 3, .n 0, .n 0, .n 0, .n 3, .n 1, .n 0, .n 1, .n 2, .n 3, .n 0, .n 2, .n 2], [.n 4, .n 0, .n 0, .n 0, .n 4, .n 2, .n 0, .n 1, .n 1, .n 0, .n 8, .n (-1), .n 0], [.n 5, .n 0, .n 0, .n 0, .n 5, .n 1, .n 0, .n 2, .n 1, .n 0, .n 0, .n (-1), .n 0]],
  .w 3 1 [[.n 2]]]
abbrev awk5Mm (v : NbV) : Mem := (awk5M3 v)
theorem awk5_run (v : NbV) : PRun Tryz.prog 9 (awk5M0 v) [.r 0 0, .i 6, .a [.i 1, .i 1, .i 0, .i 1, .i 3, .i 1, .i 2, .i 0]] fun x m => x = .t [.i 2, .i 0] ∧ m = (awk5Mm v) := Ev.runA (speWhole whp) Tryz.func9 (c := (bodyOf Tryz.f9)) (r := (.ret, (awk5T1 v), (awk5M2 v))) Ev.codeA
def awT15 (v : NbV) : Fr := puF (awT11 v) [(8, .i 2), (9, .i 0), (33, .r 16 4), (34, .t [.i 2, .i 0]), (35, .r 15 0), (36, .r 0 0), (37, .a [.i 1, .i 1, .i 0, .i 1, .i 3, .i 1, .i 2, .i 0]), (38, .t [.i 2, .i 0]), (39, .i 2), (40, .i 0)]
def awM16 (v : NbV) : Mem := paM (awM13 v) [(0, .c [.i 4, .w 1, .i 2, .w 2, .i 3, .i 200, .i 1, .i 500, .r 3 0, .r 5 0, .r 7 0, .r 9 0, .r 10 0, .r 12 0, .w 23]), (3, .c [.w 24, .i 562]), (5, .c [.w 25, .n .i64 33 [0, 120, 80, 40, 0, 0, 0, 0, 0, 0, 0, 0, 0, 0, 0, 0, 0, 0, 0, 0, 0, 0, 0, 0, 0, 0, 0, 0, 0, 0, 0, 0, 0]]), (10, .c [.w 26, .i 5]), (13, .cw 201 3 4 [.i 1, .w 22, .w 27, .i 1, .c 1 [], .c 1 [], .i 1, .c 1 [], .c 1 [], .i 0, .c 1 [], .c 1 []]), (14, .p .n 1 false [(.n 1, [.n 0]), (.n 2, [.n 0])]), (17, .x)] [.w 67 16 [[.n 1, .n 1, .n 1, .n 0, .n 1, .n 1, .n 1, .n 2, .n 0, .n 20, .n 2, .l 2 [[.n 1, .n 6], [.n 2, .n 2]], .n 2, .n 5, .n 25, .n 20], [.n 2, .n 1, .n 1, .n 0, .n 1, .n 1, .n 3, .n 2, .n 0, .n 14, .n 2, .l 2 [[.n 3, .n 4]], .n 1, .n 0, .n 0, .n 14]],
  .w 217 5 [[.n 0, .n 0, .n 0, .n 0, .n 4], [.n 1, .n 0, .n 0, .n 0, .n 56], [.n 2, .n 0, .n 0, .n 0, .n 500], [.n 3, .n 0, .n 0, .n 0, .n 2]],
  .w 217 5 [[.n 1, .n 0, .n 1, .n 1, .n 54], [.n 1, .n 0, .n 1, .n 2, .n 38], [.n 1, .n 0, .n 1, .n 3, .n 16], [.n 2, .n 0, .n 1, .n 1, .n 60], [.n 2, .n 0, .n 1, .n 2, .n 40], [.n 2, .n 0, .n 1, .n 3, .n 20], [.n 1048577, .n 0, .n 1, .n 1, .n 6], [.n 1048577, .n 0, .n 1, .n 2, .n 2], [.n 1048578, .n 0, .n 1, .n 3, .n 4]],
  .w 247 13 [[.n 1, .n 0, .n 0, .n 0, .n 1, .n 1, .n 0, .n 1, .n 1, .n 0, .n 0, .n (-1), .n 1], [.n 2, .n 0, .n 0, .n 0, .n 2, .n 2, .n 0, .n 1, .n 2, .n 0, .n 0, .n (-1), .n 0], [.n 3, .n 0, .n 0, .n 0, .n 3, .n 1, .n 0, .n 1, .n 2, .n 3, .n 0, .n 2, .n 2], [.n 4, .n 0, .n 0, .n 0, .n 4, .n 2, .n 0, .n 1, .n 1, .n 0, .n 8, .n (-1), .n 0], [.n 5, .n 0, .n 0, .n 0, .n 5, .n 1, .n 0, .n 2, .n 1, .n 0, .n 0, .n (-1), .n 0]],
  .w 3 1 [[.n 2]]]
noncomputable abbrev awC12 : Code := cR (dropK 1 (cR awC7))
def awT17 (v : NbV) : Fr := Fr.mk [.u (.b false), .r 15 0, .u (.b true), .r 16 0, .i 1, .i 0, .i 0, .i 12, .i 2, .i 0, .r 29 0, .i 0, .t [.a [.r 0 0, .r 3 0, .r 5 0, .r 7 0, .r 9 0], .u (.b true)], .t [.a [.r 0 0, .r 3 0, .r 5 0, .r 7 0, .r 9 0], .u (.b true)], .a [.r 0 0, .r 3 0, .r 5 0, .r 7 0, .r 9 0], .u (.b true), .u (.b true), .u (.b false), .a [.i 1, .i 1, .i 0, .i 1, .i 1, .i 1, .i 2, .i 0], .t [.i 1, .i 0], .r 15 0, .r 0 0, .a [.i 1, .i 1, .i 0, .i 1, .i 1, .i 1, .i 2, .i 0], .t [.i 1, .i 0], .i 1, .i 0, .t [.i 0, .i 12], .r 15 0, .r 0 0, .a [.i 1, .i 1, .i 0, .i 1, .i 1, .i 1, .i 2, .i 0], .t [.i 0, .i 12], .i 0, .i 12, .r 16 4, .t [.i 2, .i 0], .r 15 0, .r 0 0, .a [.i 1, .i 1, .i 0, .i 1, .i 3, .i 1, .i 2, .i 0], .t [.i 2, .i 0], .i 2, .i 0, .t [.a [.i 1, .i 1, .i 1, .i 0, .i 1, .i 1, .i 1, .i 2, .i 0, .i 20, .i 2, .w 28, .i 2, .i 5, .i 25, .i 20], .i 0], .r 15 0, .r 0 0, .t [.a [.i 1, .i 1, .i 1, .i 0, .i 1, .i 1, .i 1, .i 2, .i 0, .i 20, .i 2, .w 28, .i 2, .i 5, .i 25, .i 20], .i 0], .a [.i 1, .i 1, .i 1, .i 0, .i 1, .i 1, .i 1, .i 2, .i 0, .i 20, .i 2, .w 28, .i 2, .i 5, .i 25, .i 20], .i 0] 65 112
def awM18 (v : NbV) : Mem := paM (awM16 v) [] [.w 122 2 [[.n 1, .n 6], [.n 2, .n 2]],
  .c [.i 1, .i 1, .i 1, .i 0, .i 1, .i 1, .i 1, .i 2, .i 0, .i 20, .i 2, .w 28, .i 2, .i 5, .i 25, .i 20]]
def awT19 (v : NbV) : Fr := puF (awT17 v) [(47, .a [.r 0 0, .r 3 0, .r 5 0, .r 7 0, .r 9 0]), (48, .a [.i 0, .i 0, .i 100, .i 0, .i 0, .i 0, .i 0, .i 0, .i 0, .i 0, .i 0])]
def awk6M0 (v : NbV) : Mem := [.c [.i 4, .w 5, .i 2, .w 6, .i 3, .i 200, .i 1, .i 500, .r 1 0, .r 2 0, .r 3 0, .r 4 0, .r 7 0, .r 8 0, .w 9],
  .c [.w 10, .i 562],
  .c [.w 11, .n .i64 33 [0, 120, 80, 40, 0, 0, 0, 0, 0, 0, 0, 0, 0, 0, 0, 0, 0, 0, 0, 0, 0, 0, 0, 0, 0, 0, 0, 0, 0, 0, 0, 0, 0]],
  .c [.w 12, .m 13, .i 256, .i 2],
  .c [.nl 4, .nm],
  .w 78 7 [[.n 3, .n 2, .n 10, .l 2 [[.n 1, .n 3], [.n 2, .n 1]], .n 2, .n 3, .n 5], [.n 4, .n 1, .n 7, .l 2 [[.n 3, .n 2]], .n 0, .n 0, .n 3]],
  .w 101 4 [[.n 1, .n 1, .n 1, .n 1000], [.n 1, .n 1, .n 0, .n 0]],
  .c [.w 14, .i 5],
  .c [.w 15, .m 16],
  .w 67 16 [[.n 1, .n 1, .n 1, .n 0, .n 1, .n 1, .n 1, .n 2, .n 0, .n 20, .n 2, .l 2 [[.n 1, .n 6], [.n 2, .n 2]], .n 2, .n 5, .n 25, .n 20], [.n 2, .n 1, .n 1, .n 0, .n 1, .n 1, .n 3, .n 2, .n 0, .n 14, .n 2, .l 2 [[.n 3, .n 4]], .n 1, .n 0, .n 0, .n 14]],
  .w 217 5 [[.n 0, .n 0, .n 0, .n 0, .n 4], [.n 1, .n 0, .n 0, .n 0, .n 56], [.n 2, .n 0, .n 0, .n 0, .n 500], [.n 3, .n 0, .n 0, .n 0, .n 2]],
  .w 217 5 [[.n 1, .n 0, .n 1, .n 1, .n 54], [.n 1, .n 0, .n 1, .n 2, .n 38], [.n 1, .n 0, .n 1, .n 3, .n 16], [.n 2, .n 0, .n 1, .n 1, .n 60], [.n 2, .n 0, .n 1, .n 2, .n 40], [.n 2, .n 0, .n 1, .n 3, .n 20], [.n 1048577, .n 0, .n 1, .n 1, .n 6], [.n 1048577, .n 0, .n 1, .n 2, .n 2], [.n 1048578, .n 0, .n 1, .n 3, .n 4]],
  .w 142 3 [[.n 25, .n 1, .n 2]],
  .p .n 1 false [(.n 1, [.n 0])],
  .w 247 13 [[.n 1, .n 0, .n 0, .n 0, .n 1, .n 1, .n 0, .n 1, .n 1, .n 0, .n 0, .n (-1), .n 1], [.n 2, .n 0, .n 0, .n 0, .n 2, .n 2, .n 0, .n 1, .n 2, .n 0, .n 0, .n (-1), .n 0], [.n 3, .n 0, .n 0, .n 0, .n 3, .n 1, .n 0, .n 1, .n 2, .n 3, .n 0, .n 2, .n 2], [.n 4, .n 0, .n 0, .n 0, .n 4, .n 2, .n 0, .n 1, .n 1, .n 0, .n 8, .n (-1), .n 0], [.n 5, .n 0, .n 0, .n 0, .n 5, .n 1, .n 0, .n 2, .n 1, .n 0, .n 0, .n (-1), .n 0]],
  .cw 201 3 4 [.i 1, .w 17, .w 18, .i 1, .c 1 [], .c 1 [], .i 1, .c 1 [], .c 1 [], .i 0, .c 1 [], .c 1 []],
  .p .n 1 false [(.n 1, [.n 0]), (.n 2, [.n 0])],
  .w 3 1 [[.n 1]],
  .w 3 1 [[.n 2]]]
def awk6T1 (v : NbV) : Fr := Fr.mk [.a [.r 0 0, .r 1 0, .r 2 0, .r 3 0, .r 4 0], .i 6, .a [.i 0, .i 0, .i 100, .i 0, .i 0, .i 0, .i 0, .i 0, .i 0, .i 0, .i 0], .r 19 0, .z, .r 20 0, .i 106, .i 0, .i 0, .z, .z, .i 106, .i 2, .r 26 0, .u (.b false), .r 20 0, .i 0, .u (.b false), .u (.b false), .z, .z, .z, .z, .z, .z, .z, .z, .z, .z, .z, .z, .u (.b false), .u (.b false), .z, .z, .z, .z, .z, .z, .z, .u (.b false), .u (.b false), .z, .z, .z, .z, .z, .z, .z, .u (.b false), .u (.b false), .z, .z, .z, .z, .z, .z, .z, .u (.b false), .u (.b false), .z, .z, .z, .z, .z, .z, .i 6, .r 20 2, .i 100, .i 100, .i 106, .i 2, .u (.b true), .i 1, .i 2, .t [.a [.i 0, .i 0, .i 0], .u (.b false)], .r 19 3, .r 3 0, .i 106, .t [.a [.i 0, .i 0, .i 0], .u (.b false)], .a [.i 0, .i 0, .i 0], .u (.b false), .u (.b false), .u (.b true), .r 19 0, .r 0 0, .r 21 0, .i 39, .r 21 2, .i 4, .i 2, .i 0, .i 106] 0 93
def awk6M2 (v : NbV) : Mem := paM (awk6M0 v) [(3, .c [.v 22 3 0 0 false, .m 13, .i 256, .i 3]), (4, .c [.w 23, .m 24]), (9, .w 67 16 [[.n 1, .n 1, .n 1, .n 0, .n 1, .n 1, .n 1, .n 2, .n 0, .n 20, .n 2, .l 2 [[.n 1, .n 6], [.n 2, .n 2]], .n 4, .n 5, .n 25, .n 0], [.n 2, .n 1, .n 1, .n 0, .n 1, .n 1, .n 3, .n 2, .n 0, .n 14, .n 2, .l 2 [[.n 3, .n 4]], .n 4, .n 25, .n 39, .n 0]]), (12, .x), (13, .p .n 1 false []), (15, .cw 201 3 4 [.i 1, .v 25 1 0 0 false, .c 1 [], .i 1, .c 1 [], .c 1 [], .i 1, .c 1 [], .c 1 [], .i 0, .c 1 [], .c 1 []]), (16, .p .n 1 false []), (17, .x)] [.c [.r 0 0, .r 1 0, .r 2 0, .r 3 0, .r 4 0],
  .c [.i 0, .i 0, .i 100, .i 0, .i 0, .i 0, .i 0, .i 0, .i 0, .i 0, .i 0],
  .c [.i 39, .i 2, .i 4],
  .w 142 3 [[.n 39, .n 2, .n 4]],
  .w 152 4 [[.n 25, .n 1, .n 1, .n 4], [.n 39, .n 1, .n 2, .n 4]],
  .p (.a 2) 1 false [(.a [1, 1], [.n 0]), (.a [1, 2], [.n 1])],
  .w 3 1 [[.n 0]],
  .c [.i 0, .i 0, .i 0]]
def awk6M3 (v : NbV) : Mem := paM (awk6M0 v) [(3, .c [.v 19 3 0 0 false, .m 13, .i 256, .i 3]), (4, .c [.w 20, .m 21]), (9, .w 67 16 [[.n 1, .n 1, .n 1, .n 0, .n 1, .n 1, .n 1, .n 2, .n 0, .n 20, .n 2, .l 2 [[.n 1, .n 6], [.n 2, .n 2]], .n 4, .n 5, .n 25, .n 0], [.n 2, .n 1, .n 1, .n 0, .n 1, .n 1, .n 3, .n 2, .n 0, .n 14, .n 2, .l 2 [[.n 3, .n 4]], .n 4, .n 25, .n 39, .n 0]]), (12, .x), (13, .p .n 1 false []), (15, .cw 201 3 4 [.i 1, .v 22 1 0 0 false, .c 1 [], .i 1, .c 1 [], .c 1 [], .i 1, .c 1 [], .c 1 [], .i 0, .c 1 [], .c 1 []]), (16, .p .n 1 false []), (17, .x)] [.w 142 3 [[.n 39, .n 2, .n 4]],
  .w 152 4 [[.n 25, .n 1, .n 1, .n 4], [.n 39, .n 1, .n 2, .n 4]],
  .p (.a 2) 1 false [(.a [1, 1], [.n 0]), (.a [1, 2], [.n 1])],
  .w 3 1 [[.n 0]]]
abbrev awk6Mm (v : NbV) : Mem := (awk6M3 v)
theorem awk6_run (v : NbV) : PRun Tryz.prog 20 (awk6M0 v) [.a [.r 0 0, .r 1 0, .r 2 0, .r 3 0, .r 4 0], .i 6, .a [.i 0, .i 0, .i 100, .i 0, .i 0, .i 0, .i 0, .i 0, .i 0, .i 0, .i 0]] fun x m => x = .t [.i 106, .i 0, .i 0] ∧ m = (awk6Mm v) := Ev.runA (speWhole whp) Tryz.func20 (c := (bodyOf Tryz.f20)) (r := (.ret, (awk6T1 v), (awk6M2 v))) Ev.codeA
def awT20 (v : NbV) : Fr := puF (awT19 v) [(49, .t [.i 106, .i 0, .i 0])]
def awM21 (v : NbV) : Mem := paM (awM18 v) [(7, .c [.v 30 3 0 0 false, .m 8, .i 256, .i 3]), (8, .p .n 1 false []), (9, .c [.w 31, .m 32]), (13, .cw 201 3 4 [.i 1, .v 33 1 0 0 false, .c 1 [], .i 1, .c 1 [], .c 1 [], .i 1, .c 1 [], .c 1 [], .i 0, .c 1 [], .c 1 []]), (14, .p .n 1 false []), (20, .x), (22, .x), (23, .w 67 16 [[.n 1, .n 1, .n 1, .n 0, .n 1, .n 1, .n 1, .n 2, .n 0, .n 20, .n 2, .l 2 [[.n 1, .n 6], [.n 2, .n 2]], .n 4, .n 5, .n 25, .n 0], [.n 2, .n 1, .n 1, .n 0, .n 1, .n 1, .n 3, .n 2, .n 0, .n 14, .n 2, .l 2 [[.n 3, .n 4]], .n 4, .n 25, .n 39, .n 0]])] [.w 142 3 [[.n 39, .n 2, .n 4]],
  .w 152 4 [[.n 25, .n 1, .n 1, .n 4], [.n 39, .n 1, .n 2, .n 4]],
  .p (.a 2) 1 false [(.a [1, 1], [.n 0]), (.a [1, 2], [.n 1])],
  .w 3 1 [[.n 0]]]
theorem awn15 (v : NbV) : awev (cL (dropK 1 awC12)) (awT17 v) (awM18 v) [(.nrm, (awT20 v), (awM21 v))] := Ev.regA (EvO.callA (t2 := awT19 v) (m1 := awM18 v) (ix := [0, 3, 5, 7, 9, 1, 2, 10, 12, 23, 24, 25, 20, 8, 26, 13, 14, 22, 27]) (k := 2) (t1 := (awT19 v)) (args := [.a [.r 0 0, .r 3 0, .r 5 0, .r 7 0, .r 9 0], .i 6, .a [.i 0, .i 0, .i 100, .i 0, .i 0, .i 0, .i 0, .i 0, .i 0, .i 0, .i 0]]) (a := []) (cc := []) (awk6_run v) EvO.opsA)
def awT22 (v : NbV) : Fr := puF (awT20 v) [(50, .i 1), (51, .u (.b true)), (52, .u (.b true)), (53, .i 0), (54, .u (.b true)), (55, .u (.b true)), (56, .u (.b true)), (57, .i 12), (58, .u (.b true)), (59, .u (.b true)), (60, .u (.b true)), (61, .i 2), (62, .u (.b true)), (63, .u (.b true)), (64, .u (.b true)), (65, .i 0), (66, .u (.b true)), (67, .u (.b true)), (68, .u (.b true)), (69, .i 0), (70, .u (.b true)), (71, .u (.b true)), (72, .u (.b true)), (73, .r 29 14), (74, .i 25), (75, .u (.b true)), (76, .u (.b true)), (77, .u (.b true)), (78, .r 29 10), (79, .i 2), (80, .u (.b true)), (81, .u (.b true)), (82, .u (.b true)), (83, .r 15 0), (84, .r 0 0)]
def awk7M0 (v : NbV) : Mem := [.c [.i 4, .w 1, .i 2, .w 2, .i 3, .i 200, .i 1, .i 500, .r 3 0, .r 4 0, .r 5 0, .r 6 0, .r 7 0, .r 8 0, .w 9],
  .w 78 7 [[.n 3, .n 2, .n 10, .l 2 [[.n 1, .n 3], [.n 2, .n 1]], .n 2, .n 3, .n 5], [.n 4, .n 1, .n 7, .l 2 [[.n 3, .n 2]], .n 0, .n 0, .n 3]],
  .w 101 4 [[.n 1, .n 1, .n 1, .n 1000], [.n 1, .n 1, .n 0, .n 0]],
  .c [.w 10, .i 562],
  .c [.w 11, .n .i64 33 [0, 120, 80, 40, 0, 0, 0, 0, 0, 0, 0, 0, 0, 0, 0, 0, 0, 0, 0, 0, 0, 0, 0, 0, 0, 0, 0, 0, 0, 0, 0, 0, 0]],
  .c [.v 12 3 0 0 false, .m 13, .i 256, .i 3],
  .c [.w 14, .m 15],
  .c [.w 16, .i 5],
  .c [.w 17, .m 18],
  .w 67 16 [[.n 1, .n 1, .n 1, .n 0, .n 1, .n 1, .n 1, .n 2, .n 0, .n 20, .n 2, .l 2 [[.n 1, .n 6], [.n 2, .n 2]], .n 4, .n 5, .n 25, .n 0], [.n 2, .n 1, .n 1, .n 0, .n 1, .n 1, .n 3, .n 2, .n 0, .n 14, .n 2, .l 2 [[.n 3, .n 4]], .n 4, .n 25, .n 39, .n 0]],
  .w 217 5 [[.n 0, .n 0, .n 0, .n 0, .n 4], [.n 1, .n 0, .n 0, .n 0, .n 56], [.n 2, .n 0, .n 0, .n 0, .n 500], [.n 3, .n 0, .n 0, .n 0, .n 2]],
  .w 217 5 [[.n 1, .n 0, .n 1, .n 1, .n 54], [.n 1, .n 0, .n 1, .n 2, .n 38], [.n 1, .n 0, .n 1, .n 3, .n 16], [.n 2, .n 0, .n 1, .n 1, .n 60], [.n 2, .n 0, .n 1, .n 2, .n 40], [.n 2, .n 0, .n 1, .n 3, .n 20], [.n 1048577, .n 0, .n 1, .n 1, .n 6], [.n 1048577, .n 0, .n 1, .n 2, .n 2], [.n 1048578, .n 0, .n 1, .n 3, .n 4]],
  .w 142 3 [[.n 39, .n 2, .n 4]],
  .p .n 1 false [],
  .w 152 4 [[.n 25, .n 1, .n 1, .n 4], [.n 39, .n 1, .n 2, .n 4]],
  .p (.a 2) 1 false [(.a [1, 1], [.n 0]), (.a [1, 2], [.n 1])],
  .w 247 13 [[.n 1, .n 0, .n 0, .n 0, .n 1, .n 1, .n 0, .n 1, .n 1, .n 0, .n 0, .n (-1), .n 1], [.n 2, .n 0, .n 0, .n 0, .n 2, .n 2, .n 0, .n 1, .n 2, .n 0, .n 0, .n (-1), .n 0], [.n 3, .n 0, .n 0, .n 0, .n 3, .n 1, .n 0, .n 1, .n 2, .n 3, .n 0, .n 2, .n 2], [.n 4, .n 0, .n 0, .n 0, .n 4, .n 2, .n 0, .n 1, .n 1, .n 0, .n 8, .n (-1), .n 0], [.n 5, .n 0, .n 0, .n 0, .n 5, .n 1, .n 0, .n 2, .n 1, .n 0, .n 0, .n (-1), .n 0]],
  .cw 201 3 4 [.i 1, .v 19 1 0 0 false, .c 1 [], .i 1, .c 1 [], .c 1 [], .i 1, .c 1 [], .c 1 [], .i 0, .c 1 [], .c 1 []],
  .p .n 1 false [],
  .w 3 1 [[.n 0]]]
def awk7T1 (v : NbV) : Fr := Fr.mk [.r 0 0, .i 1, .z, .z, .i 0, .r 21 0, .i 0, .t [.a [.i 1, .i 1, .i 1, .i 0, .i 1, .i 1, .i 1, .i 2, .i 0, .i 20, .i 2, .w 20, .i 5, .i 5, .i 25, .i 0], .i 0], .r 0 0, .i 1, .t [.a [.i 1, .i 1, .i 1, .i 0, .i 1, .i 1, .i 1, .i 2, .i 0, .i 20, .i 2, .w 20, .i 5, .i 5, .i 25, .i 0], .i 0], .a [.i 1, .i 1, .i 1, .i 0, .i 1, .i 1, .i 1, .i 2, .i 0, .i 20, .i 2, .w 20, .i 5, .i 5, .i 25, .i 0], .i 0, .i 0, .u (.b true), .r 0 0, .a [.i 1, .i 1, .i 1, .i 0, .i 1, .i 1, .i 1, .i 2, .i 0, .i 20, .i 2, .w 20, .i 5, .i 5, .i 25, .i 0], .i 0, .i 0, .u (.b true), .r 0 0, .r 0 0, .r 0 12, .r 7 0, .r 21 6, .i 1, .i 1, .i 0, .r 0 0, .r 0 0, .r 0 14, .w 9, .i 1, .i 0, .a [.i 1, .i 1, .i 1, .i 0, .i 1, .i 1, .i 1, .i 2, .i 0, .i 20, .i 2, .w 20, .i 5, .i 5, .i 25, .i 0], .e 9 16 0 0, .i 0] 0 37
def awk7M2 (v : NbV) : Mem := paM (awk7M0 v) [(4, .c [.w 22, .n .i64 33 [0, 114, 78, 44, 0, 0, 0, 0, 0, 0, 0, 0, 0, 0, 0, 0, 0, 0, 0, 0, 0, 0, 0, 0, 0, 0, 0, 0, 0, 0, 0, 0, 0]]), (7, .c [.w 23, .i 5]), (9, .w 67 16 [[.n 1, .n 1, .n 1, .n 0, .n 1, .n 1, .n 1, .n 2, .n 0, .n 20, .n 2, .l 2 [[.n 1, .n 6], [.n 2, .n 2]], .n 5, .n 5, .n 25, .n 0], [.n 2, .n 1, .n 1, .n 0, .n 1, .n 1, .n 3, .n 2, .n 0, .n 14, .n 2, .l 2 [[.n 3, .n 4]], .n 4, .n 25, .n 39, .n 0]])] [.x,
  .c [.i 1, .i 1, .i 1, .i 0, .i 1, .i 1, .i 1, .i 2, .i 0, .i 20, .i 2, .w 20, .i 5, .i 5, .i 25, .i 0],
  .w 217 5 [[.n 1, .n 0, .n 1, .n 1, .n 54], [.n 1, .n 0, .n 1, .n 2, .n 38], [.n 1, .n 0, .n 1, .n 3, .n 20], [.n 2, .n 0, .n 1, .n 1, .n 60], [.n 2, .n 0, .n 1, .n 2, .n 40], [.n 2, .n 0, .n 1, .n 3, .n 20], [.n 1048578, .n 0, .n 1, .n 3, .n 4]],
  .w 247 13 [[.n 1, .n 0, .n 0, .n 0, .n 1, .n 1, .n 0, .n 1, .n 1, .n 0, .n 0, .n (-1), .n 0], [.n 2, .n 0, .n 0, .n 0, .n 2, .n 2, .n 0, .n 1, .n 2, .n 0, .n 0, .n (-1), .n 0], [.n 3, .n 0, .n 0, .n 0, .n 3, .n 1, .n 0, .n 1, .n 2, .n 3, .n 0, .n 2, .n 2], [.n 4, .n 0, .n 0, .n 0, .n 4, .n 2, .n 0, .n 1, .n 1, .n 0, .n 8, .n (-1), .n 0], [.n 5, .n 0, .n 0, .n 0, .n 5, .n 1, .n 0, .n 2, .n 1, .n 0, .n 0, .n (-1), .n 0]]]
def awk7M3 (v : NbV) : Mem := paM (awk7M0 v) [(4, .c [.w 20, .n .i64 33 [0, 114, 78, 44, 0, 0, 0, 0, 0, 0, 0, 0, 0, 0, 0, 0, 0, 0, 0, 0, 0, 0, 0, 0, 0, 0, 0, 0, 0, 0, 0, 0, 0]]), (7, .c [.w 21, .i 5]), (9, .w 67 16 [[.n 1, .n 1, .n 1, .n 0, .n 1, .n 1, .n 1, .n 2, .n 0, .n 20, .n 2, .l 2 [[.n 1, .n 6], [.n 2, .n 2]], .n 5, .n 5, .n 25, .n 0], [.n 2, .n 1, .n 1, .n 0, .n 1, .n 1, .n 3, .n 2, .n 0, .n 14, .n 2, .l 2 [[.n 3, .n 4]], .n 4, .n 25, .n 39, .n 0]])] [.w 217 5 [[.n 1, .n 0, .n 1, .n 1, .n 54], [.n 1, .n 0, .n 1, .n 2, .n 38], [.n 1, .n 0, .n 1, .n 3, .n 20], [.n 2, .n 0, .n 1, .n 1, .n 60], [.n 2, .n 0, .n 1, .n 2, .n 40], [.n 2, .n 0, .n 1, .n 3, .n 20], [.n 1048578, .n 0, .n 1, .n 3, .n 4]],
  .w 247 13 [[.n 1, .n 0, .n 0, .n 0, .n 1, .n 1, .n 0, .n 1, .n 1, .n 0, .n 0, .n (-1), .n 0], [.n 2, .n 0, .n 0, .n 0, .n 2, .n 2, .n 0, .n 1, .n 2, .n 0, .n 0, .n (-1), .n 0], [.n 3, .n 0, .n 0, .n 0, .n 3, .n 1, .n 0, .n 1, .n 2, .n 3, .n 0, .n 2, .n 2], [.n 4, .n 0, .n 0, .n 0, .n 4, .n 2, .n 0, .n 1, .n 1, .n 0, .n 8, .n (-1), .n 0], [.n 5, .n 0, .n 0, .n 0, .n 5, .n 1, .n 0, .n 2, .n 1, .n 0, .n 0, .n (-1), .n 0]]]
abbrev awk7Mm (v : NbV) : Mem := (awk7M3 v)
theorem awk7_run (v : NbV) : PRun Tryz.prog 14 (awk7M0 v) [.r 0 0, .i 1] fun x m => x = .i 0 ∧ m = (awk7Mm v) := Ev.runA (speWhole whp) Tryz.func14 (c := (bodyOf Tryz.f14)) (r := (.ret, (awk7T1 v), (awk7M2 v))) Ev.codeA
def awT23 (v : NbV) : Fr := puF (awT22 v) [(85, .i 0), (86, .u (.b true)), (87, .u (.b true)), (88, .u (.b true)), (89, .r 15 2), (90, .r 5 0), (91, .a [.i 1, .i 0, .i 1, .i 3]), (92, .i 20), (93, .u (.b true)), (94, .u (.b true)), (95, .u (.b true)), (96, .r 15 0), (97, .r 0 0)]
def awM24 (v : NbV) : Mem := paM (awM21 v) [(5, .c [.w 34, .n .i64 33 [0, 114, 78, 44, 0, 0, 0, 0, 0, 0, 0, 0, 0, 0, 0, 0, 0, 0, 0, 0, 0, 0, 0, 0, 0, 0, 0, 0, 0, 0, 0, 0, 0]]), (10, .c [.w 35, .i 5]), (23, .w 67 16 [[.n 1, .n 1, .n 1, .n 0, .n 1, .n 1, .n 1, .n 2, .n 0, .n 20, .n 2, .l 2 [[.n 1, .n 6], [.n 2, .n 2]], .n 5, .n 5, .n 25, .n 0], [.n 2, .n 1, .n 1, .n 0, .n 1, .n 1, .n 3, .n 2, .n 0, .n 14, .n 2, .l 2 [[.n 3, .n 4]], .n 4, .n 25, .n 39, .n 0]])] [.w 217 5 [[.n 1, .n 0, .n 1, .n 1, .n 54], [.n 1, .n 0, .n 1, .n 2, .n 38], [.n 1, .n 0, .n 1, .n 3, .n 20], [.n 2, .n 0, .n 1, .n 1, .n 60], [.n 2, .n 0, .n 1, .n 2, .n 40], [.n 2, .n 0, .n 1, .n 3, .n 20], [.n 1048578, .n 0, .n 1, .n 3, .n 4]],
  .w 247 13 [[.n 1, .n 0, .n 0, .n 0, .n 1, .n 1, .n 0, .n 1, .n 1, .n 0, .n 0, .n (-1), .n 0], [.n 2, .n 0, .n 0, .n 0, .n 2, .n 2, .n 0, .n 1, .n 2, .n 0, .n 0, .n (-1), .n 0], [.n 3, .n 0, .n 0, .n 0, .n 3, .n 1, .n 0, .n 1, .n 2, .n 3, .n 0, .n 2, .n 2], [.n 4, .n 0, .n 0, .n 0, .n 4, .n 2, .n 0, .n 1, .n 1, .n 0, .n 8, .n (-1), .n 0], [.n 5, .n 0, .n 0, .n 0, .n 5, .n 1, .n 0, .n 2, .n 1, .n 0, .n 0, .n (-1), .n 0]]]
def awk8M0 (v : NbV) : Mem := [.c [.i 4, .w 1, .i 2, .w 2, .i 3, .i 200, .i 1, .i 500, .r 3 0, .r 4 0, .r 5 0, .r 6 0, .r 7 0, .r 8 0, .w 9],
  .w 78 7 [[.n 3, .n 2, .n 10, .l 2 [[.n 1, .n 3], [.n 2, .n 1]], .n 2, .n 3, .n 5], [.n 4, .n 1, .n 7, .l 2 [[.n 3, .n 2]], .n 0, .n 0, .n 3]],
  .w 101 4 [[.n 1, .n 1, .n 1, .n 1000], [.n 1, .n 1, .n 0, .n 0]],
  .c [.w 10, .i 562],
  .c [.w 11, .n .i64 33 [0, 114, 78, 44, 0, 0, 0, 0, 0, 0, 0, 0, 0, 0, 0, 0, 0, 0, 0, 0, 0, 0, 0, 0, 0, 0, 0, 0, 0, 0, 0, 0, 0]],
  .c [.v 12 3 0 0 false, .m 13, .i 256, .i 3],
  .c [.w 14, .m 15],
  .c [.w 16, .i 5],
  .c [.w 17, .m 18],
  .w 67 16 [[.n 1, .n 1, .n 1, .n 0, .n 1, .n 1, .n 1, .n 2, .n 0, .n 20, .n 2, .l 2 [[.n 1, .n 6], [.n 2, .n 2]], .n 5, .n 5, .n 25, .n 0], [.n 2, .n 1, .n 1, .n 0, .n 1, .n 1, .n 3, .n 2, .n 0, .n 14, .n 2, .l 2 [[.n 3, .n 4]], .n 4, .n 25, .n 39, .n 0]],
  .w 217 5 [[.n 0, .n 0, .n 0, .n 0, .n 4], [.n 1, .n 0, .n 0, .n 0, .n 56], [.n 2, .n 0, .n 0, .n 0, .n 500], [.n 3, .n 0, .n 0, .n 0, .n 2]],
  .w 217 5 [[.n 1, .n 0, .n 1, .n 1, .n 54], [.n 1, .n 0, .n 1, .n 2, .n 38], [.n 1, .n 0, .n 1, .n 3, .n 20], [.n 2, .n 0, .n 1, .n 1, .n 60], [.n 2, .n 0, .n 1, .n 2, .n 40], [.n 2, .n 0, .n 1, .n 3, .n 20], [.n 1048578, .n 0, .n 1, .n 3, .n 4]],
  .w 142 3 [[.n 39, .n 2, .n 4]],
  .p .n 1 false [],
  .w 152 4 [[.n 25, .n 1, .n 1, .n 4], [.n 39, .n 1, .n 2, .n 4]],
  .p (.a 2) 1 false [(.a [1, 1], [.n 0]), (.a [1, 2], [.n 1])],
  .w 247 13 [[.n 1, .n 0, .n 0, .n 0, .n 1, .n 1, .n 0, .n 1, .n 1, .n 0, .n 0, .n (-1), .n 0], [.n 2, .n 0, .n 0, .n 0, .n 2, .n 2, .n 0, .n 1, .n 2, .n 0, .n 0, .n (-1), .n 0], [.n 3, .n 0, .n 0, .n 0, .n 3, .n 1, .n 0, .n 1, .n 2, .n 3, .n 0, .n 2, .n 2], [.n 4, .n 0, .n 0, .n 0, .n 4, .n 2, .n 0, .n 1, .n 1, .n 0, .n 8, .n (-1), .n 0], [.n 5, .n 0, .n 0, .n 0, .n 5, .n 1, .n 0, .n 2, .n 1, .n 0, .n 0, .n (-1), .n 0]],
  .cw 201 3 4 [.i 1, .v 19 1 0 0 false, .c 1 [], .i 1, .c 1 [], .c 1 [], .i 1, .c 1 [], .c 1 [], .i 0, .c 1 [], .c 1 []],
  .p .n 1 false [],
  .w 3 1 [[.n 0]]]
def awk8T1 (v : NbV) : Fr := Fr.mk [.r 0 0, .i 2, .z, .z, .i 0, .r 21 0, .i 0, .t [.a [.i 2, .i 1, .i 1, .i 0, .i 1, .i 1, .i 3, .i 2, .i 0, .i 14, .i 2, .w 20, .i 5, .i 25, .i 39, .i 0], .i 0], .r 0 0, .i 2, .t [.a [.i 2, .i 1, .i 1, .i 0, .i 1, .i 1, .i 3, .i 2, .i 0, .i 14, .i 2, .w 20, .i 5, .i 25, .i 39, .i 0], .i 0], .a [.i 2, .i 1, .i 1, .i 0, .i 1, .i 1, .i 3, .i 2, .i 0, .i 14, .i 2, .w 20, .i 5, .i 25, .i 39, .i 0], .i 0, .i 0, .u (.b true), .r 0 0, .a [.i 2, .i 1, .i 1, .i 0, .i 1, .i 1, .i 3, .i 2, .i 0, .i 14, .i 2, .w 20, .i 5, .i 25, .i 39, .i 0], .i 0, .i 0, .u (.b true), .r 0 0, .r 0 0, .r 0 12, .r 7 0, .r 21 6, .i 3, .i 2, .i 0, .r 0 0, .r 0 0, .r 0 14, .w 9, .i 2, .i 1, .a [.i 2, .i 1, .i 1, .i 0, .i 1, .i 1, .i 3, .i 2, .i 0, .i 14, .i 2, .w 20, .i 5, .i 25, .i 39, .i 0], .e 9 16 1 0, .i 0] 0 37
def awk8M2 (v : NbV) : Mem := paM (awk8M0 v) [(4, .c [.w 22, .n .i64 33 [0, 114, 78, 40, 2, 0, 0, 0, 0, 0, 0, 0, 0, 0, 0, 0, 0, 0, 0, 0, 0, 0, 0, 0, 0, 0, 0, 0, 0, 0, 0, 0, 0]]), (7, .c [.w 23, .i 5]), (9, .w 67 16 [[.n 1, .n 1, .n 1, .n 0, .n 1, .n 1, .n 1, .n 2, .n 0, .n 20, .n 2, .l 2 [[.n 1, .n 6], [.n 2, .n 2]], .n 5, .n 5, .n 25, .n 0], [.n 2, .n 1, .n 1, .n 0, .n 1, .n 1, .n 3, .n 2, .n 0, .n 14, .n 2, .l 2 [[.n 3, .n 4]], .n 5, .n 25, .n 39, .n 0]])] [.x,
  .c [.i 2, .i 1, .i 1, .i 0, .i 1, .i 1, .i 3, .i 2, .i 0, .i 14, .i 2, .w 20, .i 5, .i 25, .i 39, .i 0],
  .w 217 5 [[.n 1, .n 0, .n 1, .n 1, .n 54], [.n 1, .n 0, .n 1, .n 2, .n 38], [.n 1, .n 0, .n 1, .n 3, .n 20], [.n 1, .n 0, .n 1, .n 4, .n 2], [.n 2, .n 0, .n 1, .n 1, .n 60], [.n 2, .n 0, .n 1, .n 2, .n 40], [.n 2, .n 0, .n 1, .n 3, .n 20]],
  .w 247 13 [[.n 1, .n 0, .n 0, .n 0, .n 1, .n 1, .n 0, .n 1, .n 1, .n 0, .n 0, .n (-1), .n 0], [.n 2, .n 0, .n 0, .n 0, .n 2, .n 2, .n 0, .n 1, .n 2, .n 0, .n 0, .n (-1), .n 0], [.n 3, .n 0, .n 0, .n 0, .n 3, .n 1, .n 0, .n 1, .n 2, .n 3, .n 0, .n 2, .n 0], [.n 4, .n 0, .n 0, .n 0, .n 4, .n 2, .n 0, .n 1, .n 1, .n 0, .n 8, .n (-1), .n 0], [.n 5, .n 0, .n 0, .n 0, .n 5, .n 1, .n 0, .n 2, .n 1, .n 0, .n 0, .n (-1), .n 0]]]
def awk8M3 (v : NbV) : Mem := paM (awk8M0 v) [(4, .c [.w 20, .n .i64 33 [0, 114, 78, 40, 2, 0, 0, 0, 0, 0, 0, 0, 0, 0, 0, 0, 0, 0, 0, 0, 0, 0, 0, 0, 0, 0, 0, 0, 0, 0, 0, 0, 0]]), (7, .c [.w 21, .i 5]), (9, .w 67 16 [[.n 1, .n 1, .n 1, .n 0, .n 1, .n 1, .n 1, .n 2, .n 0, .n 20, .n 2, .l 2 [[.n 1, .n 6], [.n 2, .n 2]], .n 5, .n 5, .n 25, .n 0], [.n 2, .n 1, .n 1, .n 0, .n 1, .n 1, .n 3, .n 2, .n 0, .n 14, .n 2, .l 2 [[.n 3, .n 4]], .n 5, .n 25, .n 39, .n 0]])] [.w 217 5 [[.n 1, .n 0, .n 1, .n 1, .n 54], [.n 1, .n 0, .n 1, .n 2, .n 38], [.n 1, .n 0, .n 1, .n 3, .n 20], [.n 1, .n 0, .n 1, .n 4, .n 2], [.n 2, .n 0, .n 1, .n 1, .n 60], [.n 2, .n 0, .n 1, .n 2, .n 40], [.n 2, .n 0, .n 1, .n 3, .n 20]],
  .w 247 13 [[.n 1, .n 0, .n 0, .n 0, .n 1, .n 1, .n 0, .n 1, .n 1, .n 0, .n 0, .n (-1), .n 0], [.n 2, .n 0, .n 0, .n 0, .n 2, .n 2, .n 0, .n 1, .n 2, .n 0, .n 0, .n (-1), .n 0], [.n 3, .n 0, .n 0, .n 0, .n 3, .n 1, .n 0, .n 1, .n 2, .n 3, .n 0, .n 2, .n 0], [.n 4, .n 0, .n 0, .n 0, .n 4, .n 2, .n 0, .n 1, .n 1, .n 0, .n 8, .n (-1), .n 0], [.n 5, .n 0, .n 0, .n 0, .n 5, .n 1, .n 0, .n 2, .n 1, .n 0, .n 0, .n (-1), .n 0]]]
abbrev awk8Mm (v : NbV) : Mem := (awk8M3 v)
theorem awk8_run (v : NbV) : PRun Tryz.prog 14 (awk8M0 v) [.r 0 0, .i 2] fun x m => x = .i 0 ∧ m = (awk8Mm v) := Ev.runA (speWhole whp) Tryz.func14 (c := (bodyOf Tryz.f14)) (r := (.ret, (awk8T1 v), (awk8M2 v))) Ev.codeA
def awT25 (v : NbV) : Fr := puF (awT23 v) [(0, .u (.b true)), (98, .i 0), (99, .u (.b true)), (100, .u (.b true)), (101, .u (.b true)), (102, .r 15 4), (103, .r 9 0), (104, .w 38), (105, .i 2), (106, .u (.b true)), (107, .u (.b true)), (108, .u (.b true)), (109, .i 6), (110, .u (.b true)), (111, .u (.b true))]
def awM26 (v : NbV) : Mem := paM (awM24 v) [(5, .c [.w 36, .n .i64 33 [0, 114, 78, 40, 2, 0, 0, 0, 0, 0, 0, 0, 0, 0, 0, 0, 0, 0, 0, 0, 0, 0, 0, 0, 0, 0, 0, 0, 0, 0, 0, 0, 0]]), (10, .c [.w 37, .i 5]), (23, .w 67 16 [[.n 1, .n 1, .n 1, .n 0, .n 1, .n 1, .n 1, .n 2, .n 0, .n 20, .n 2, .l 2 [[.n 1, .n 6], [.n 2, .n 2]], .n 5, .n 5, .n 25, .n 0], [.n 2, .n 1, .n 1, .n 0, .n 1, .n 1, .n 3, .n 2, .n 0, .n 14, .n 2, .l 2 [[.n 3, .n 4]], .n 5, .n 25, .n 39, .n 0]])] [.w 217 5 [[.n 1, .n 0, .n 1, .n 1, .n 54], [.n 1, .n 0, .n 1, .n 2, .n 38], [.n 1, .n 0, .n 1, .n 3, .n 20], [.n 1, .n 0, .n 1, .n 4, .n 2], [.n 2, .n 0, .n 1, .n 1, .n 60], [.n 2, .n 0, .n 1, .n 2, .n 40], [.n 2, .n 0, .n 1, .n 3, .n 20]],
  .w 247 13 [[.n 1, .n 0, .n 0, .n 0, .n 1, .n 1, .n 0, .n 1, .n 1, .n 0, .n 0, .n (-1), .n 0], [.n 2, .n 0, .n 0, .n 0, .n 2, .n 2, .n 0, .n 1, .n 2, .n 0, .n 0, .n (-1), .n 0], [.n 3, .n 0, .n 0, .n 0, .n 3, .n 1, .n 0, .n 1, .n 2, .n 3, .n 0, .n 2, .n 0], [.n 4, .n 0, .n 0, .n 0, .n 4, .n 2, .n 0, .n 1, .n 1, .n 0, .n 8, .n (-1), .n 0], [.n 5, .n 0, .n 0, .n 0, .n 5, .n 1, .n 0, .n 2, .n 1, .n 0, .n 0, .n (-1), .n 0]],
  .w 152 4 [[.n 25, .n 1, .n 1, .n 4], [.n 39, .n 1, .n 2, .n 4]]]
theorem awn23 (v : NbV) : awev awC12 (awT15 v) (awM16 v) [(.ret, (awT25 v), (awM26 v))] := Ev.piecesA (k := 1) (t1 := awT17 v) (m1 := awM18 v) (Ev.seqPA (awn15 v) (Ev.seqPA (t1 := awT25 v) (m1 := awM26 v) (Ev.regA (EvO.callA (t2 := awT22 v) (m1 := awM21 v) (ix := [0, 1, 2, 3, 5, 7, 9, 10, 12, 23, 24, 25, 30, 8, 31, 32, 26, 13, 14, 33]) (k := 35) (t1 := (awT22 v)) (args := [.r 0 0, .i 1]) (a := []) (cc := []) (awk7_run v) (EvO.callA (t2 := awT23 v) (m1 := awM24 v) (ix := [0, 1, 2, 3, 5, 7, 9, 10, 12, 23, 24, 34, 30, 8, 31, 32, 35, 13, 14, 33]) (k := 12) (t1 := (awT23 v)) (args := [.r 0 0, .i 2]) (a := []) (cc := []) (awk8_run v) EvO.opsA))) Ev.codeA))
theorem awn28 (v : NbV) : awev awC4 (awT3 v) (awM4 v) [(.ret, (awT25 v), (awM26 v))] := Ev.piecesA (k := 2) (t1 := awT5 v) (m1 := awM6 v) (Ev.seqPA (awn6 v) (Ev.seqPA (awn9 v) (Ev.piecesA (k := 1) (t1 := awT12 v) (m1 := awM13 v) (Ev.seqPA (t1 := awT15 v) (m1 := awM16 v) (Ev.regA (EvO.callA (t2 := awT14 v) (m1 := awM13 v) (ix := [0, 1, 2, 3, 5, 7, 9, 10, 12, 17, 18, 19, 20, 8, 21, 13, 14, 22]) (k := 3) (t1 := (awT14 v)) (args := [.r 0 0, .i 6, .a [.i 1, .i 1, .i 0, .i 1, .i 3, .i 1, .i 2, .i 0]]) (a := []) (cc := []) (awk5_run v) EvO.opsA)) (awn23 v)))))
abbrev aw5Mm (v : NbV) : Mem := (awM0 v)
theorem aw5_run (v : NbV) : PRun Tryz.prog 5 (awM0 v) [] fun x m => x = .u (.b true) ∧ m = (aw5Mm v) := Ev.runA eK1 Tryz.func5 (c := awC1) (r := (.ret, (awT25 v), (awM26 v))) (Ev.piecesA (k := 1) (t1 := awT1 v) (m1 := awM0 v) (Ev.seqPA (t1 := awT3 v) (m1 := awM4 v) (Ev.regA (EvO.callA (t2 := awT2 v) (m1 := awM0 v) (ix := []) (k := 0) (t1 := (awT2 v)) (args := [.i 0]) (a := []) (cc := []) (awk1_run v) EvO.opsA)) (awn28 v)))
end
end Go.Proofs.YtedpdommppfmdaaGreat

/- A run, piece by piece: printed by program (ez2.py). -/
set_option linter.unusedVariables false
set_option maxRecDepth 1000000
namespace Go.Proofs.YtedpdommppfmdaaGreat
open Go Go.Proofs
noncomputable section
noncomputable abbrev eKr1 := (speKn (speWhole whp) [4, 5, 6, 7, 8, 9, 10, 11, 12, 13, 14, 15, 16, 17, 18])
def nbFT0 (v : NbV) : Fr := frameF Tryz.prog Tryz.f3 [.a [.i v.c1, .u (.l 7 v.c2), .i v.c3, .u (.l 4 v.c4), .i v.c5, .i v.c6, .i v.c7, .i v.c8], .a [.i v.a9, .i v.a10, .i v.a11, .i v.a12, .i v.a13, .i v.a14, .i v.a15, .i v.a16, .i v.a17, .i v.a18, .i v.a19]]
def nbFT1 (v : NbV) : Fr := puF (nbFT0 v) [(2, .r 0 0), (3, .r 1 0), (4, .u (.b false))]
def nbFM2 (v : NbV) : Mem := [.c [.i v.c1, .u (.l 7 v.c2), .i v.c3, .u (.l 4 v.c4), .i v.c5, .i v.c6, .i v.c7, .i v.c8],
  .c [.i v.a9, .i v.a10, .i v.a11, .i v.a12, .i v.a13, .i v.a14, .i v.a15, .i v.a16, .i v.a17, .i v.a18, .i v.a19]]
def nbFT3 (v : NbV) : Fr := puF (nbFT1 v) [(17, .a [.i v.c1, .u (.l 7 v.c2), .i v.c3, .u (.l 4 v.c4), .i v.c5, .i v.c6, .i v.c7, .i v.c8])]
def nbFT4 (v : NbV) : Fr := puF (nbFT3 v) [(18, .u (.b false)), (19, .u (.b true))]
def nbFT6 (v : NbV) : Fr := puF (nbFT4 v) [(4, .u (.b true)), (20, .u (.b true))]
theorem nb_F (v : NbV) (H : NbH v false false 0 true false) : PRun Tryz.prog 3 [] [.a [.i v.c1, .u (.l 7 v.c2), .i v.c3, .u (.l 4 v.c4), .i v.c5, .i v.c6, .i v.c7, .i v.c8], .a [.i v.a9, .i v.a10, .i v.a11, .i v.a12, .i v.a13, .i v.a14, .i v.a15, .i v.a16, .i v.a17, .i v.a18, .i v.a19]] fun x m => x = .u (.b true) ∧ m = [] := Ev.runA eKr1 Tryz.func3 (c := (bodyOf Tryz.f3)) (r := (.ret, (nbFT6 v), (nbFM2 v))) (Ev.piecesA (k := 1) (t1 := nbFT1 v) (m1 := nbFM2 v) (Ev.seqE (by intro h; cases h) (by kernel_rfl) (Ev.seqPA (t1 := nbFT4 v) (m1 := nbFM2 v) (Ev.regA (EvO.callA (t2 := nbFT3 v) (m1 := nbFM2 v) (ix := []) (k := 1) (t1 := (nbFT3 v)) (args := [.a [.i v.c1, .u (.l 7 v.c2), .i v.c3, .u (.l 4 v.c4), .i v.c5, .i v.c6, .i v.c7, .i v.c8]]) (a := []) (cc := []) H.hF EvO.opsA)) (Ev.condT (by kernel_rfl) (by kernel_rfl) (Ev.seqPA (t1 := nbFT6 v) (m1 := nbFM2 v) (Ev.regA (EvO.callA (t2 := nbFT4 v) (m1 := nbFM2 v) (ix := []) (k := 0) (t1 := (nbFT4 v)) (args := []) (a := []) (cc := []) (aw5_run v) EvO.opsA)) Ev.codeA)))))
noncomputable abbrev eKr2 := (speKn (speWhole whp) [4, 5, 6, 7, 8, 9, 10, 11, 12, 13, 14, 15, 16, 17, 18, 70])
noncomputable abbrev nbE0ev := Ev Tryz.prog eKr2 (List.range 600) 300 60 3
noncomputable abbrev nbE0evD := EvD Tryz.prog eKr2 (List.range 600) 300 60
noncomputable abbrev nbE0evL := EvL Tryz.prog eKr2 (List.range 600) 300 60 3
noncomputable abbrev nbE0evE := EvE Tryz.prog eKr2 (List.range 600) 300 60
noncomputable abbrev nbE0C1 : Code := bodyOf Tryz.f3
def nbE0M2 (v : NbV) : Mem := [.c [.i v.c1, .u (.l 7 v.c2), .i v.c3, .u (.l 4 v.c4), .i v.c5, .i v.c6, .i v.c7, .i v.c8],
  .c [.i v.a9, .i v.a10, .i v.a11, .i v.a12, .i v.a13, .i v.a14, .i v.a15, .i v.a16, .i v.a17, .i v.a18, .i v.a19]]
def nbE0T4 (v : NbV) : Fr := puF (nbFT3 v) [(18, .u (.b true)), (19, .u (.b false))]
def nbE0k1M0 (v : NbV) : Mem := []
def nbE0k1T1 (v : NbV) : Fr := Fr.mk [.i 4, .z, .r 0 0, .i 0, .i 4, .t [.r 0 0, .i 0], .r 0 0, .i 0] 0 8
def nbE0k1M2 (v : NbV) : Mem := [.c [.nl 3, .m 1, .i 4, .i 1],
  .p .n 1 false []]
abbrev nbE0k1Mm (v : NbV) : Mem := (nbE0k1M2 v)
theorem nbE0k1_run (v : NbV) : PRun Tryz.prog 6 (nbE0k1M0 v) [.i 4] fun x m => x = .t [.r 0 0, .i 0] ∧ m = (nbE0k1Mm v) := Ev.runA (speWhole whp) Tryz.func6 (c := (bodyOf Tryz.f6)) (r := (.ret, (nbE0k1T1 v), (nbE0k1M2 v))) Ev.codeA
def nbE0T7 (v : NbV) : Fr := puF (nbE0T4 v) [(5, .r 2 0), (6, .i 0), (21, .t [.r 2 0, .i 0]), (22, .t [.r 2 0, .i 0]), (23, .r 2 0), (24, .i 0)]
def nbE0M8 (v : NbV) : Mem := paM (nbE0M2 v) [] [.c [.nl 3, .m 3, .i 4, .i 1],
  .p .n 1 false []]
def nbE0T9 (v : NbV) : Fr := puF (nbE0T7 v) [(26, .a [.i v.c1, .u (.l 7 v.c2), .i v.c3, .u (.l 4 v.c4), .i v.c5, .i v.c6, .i v.c7, .i v.c8]), (27, .a [.nl 5, .i 0]), (28, .r 4 0), (29, .a [.nl 5, .n .i64 33 [0, 0, 0, 0, 0, 0, 0, 0, 0, 0, 0, 0, 0, 0, 0, 0, 0, 0, 0, 0, 0, 0, 0, 0, 0, 0, 0, 0, 0, 0, 0, 0, 0]]), (30, .r 5 0), (31, .r 2 0), (32, .a [.nl 4, .nm]), (33, .r 6 0)]
def nbE0M10 (v : NbV) : Mem := paM (nbE0M8 v) [] [.c [.nl 5, .i 0],
  .c [.nl 5, .n .i64 33 [0, 0, 0, 0, 0, 0, 0, 0, 0, 0, 0, 0, 0, 0, 0, 0, 0, 0, 0, 0, 0, 0, 0, 0, 0, 0, 0, 0, 0, 0, 0, 0, 0]],
  .c [.nl 4, .nm]]
def nbE0T11 (v : NbV) : Fr := puF (nbE0T9 v) [(7, .r 7 0), (8, .i 0), (25, .t [.r 7 0, .i 0]), (34, .t [.r 7 0, .i 0]), (35, .r 7 0), (36, .i 0)]
def nbE0M12 (v : NbV) : Mem := paM (nbE0M10 v) [] [.x,
  .x,
  .x,
  .x,
  .x]
noncomputable abbrev nbE0C11 : Code := cR (cR (cR (dropK 1 nbE0C1)))
def nbE0T14 (v : NbV) : Fr := puF (nbE0T9 v) [(7, .r 7 0), (8, .i 0), (25, .t [.r 7 0, .i 0]), (34, .t [.r 7 0, .i 0]), (35, .r 7 0), (36, .i 0), (37, .i 0), (38, .u (.b false)), (39, .u (.b false)), (40, .i 0), (41, .a [.i v.c1, .u (.l 7 v.c2), .i v.c3, .u (.l 4 v.c4), .i v.c5, .i v.c6, .i v.c7, .i v.c8])]
def nbE0T19 (v : NbV) : Fr := puF (nbE0T9 v) [(7, .r 7 0), (8, .i 0), (25, .t [.r 7 0, .i 0]), (34, .t [.r 7 0, .i 0]), (35, .r 7 0), (36, .i 0), (37, .i 0), (38, .u (.b false)), (39, .u (.b false)), (40, .i 0), (41, .a [.i v.c1, .u (.l 7 v.c2), .i v.c3, .u (.l 4 v.c4), .i v.c5, .i v.c6, .i v.c7, .i v.c8]), (42, .i 0), (43, .u (.b false)), (44, .u (.b false)), (45, .u (.b false)), (46, .r 7 0), (47, .u (.b true)), (48, .i 0), (49, .u (.b true)), (50, .u (.b false)), (51, .u (.b false))]
def nbE0T20 (v : NbV) : Fr := puF (nbE0T9 v) [(7, .r 7 0), (8, .i 0), (25, .t [.r 7 0, .i 0]), (34, .t [.r 7 0, .i 0]), (35, .r 7 0), (36, .i 0), (37, .i 0), (38, .u (.b false)), (39, .u (.b false)), (40, .i 0), (41, .a [.i v.c1, .u (.l 7 v.c2), .i v.c3, .u (.l 4 v.c4), .i v.c5, .i v.c6, .i v.c7, .i v.c8]), (42, .i 0), (43, .u (.b false)), (44, .u (.b false)), (45, .u (.b false)), (46, .r 7 0), (47, .u (.b true)), (48, .i 0), (49, .u (.b true)), (50, .u (.b false)), (51, .u (.b false))]
def nbE0T21 (v : NbV) : Fr := Fr.mk [.a [.i v.c1, .u (.l 7 v.c2), .i v.c3, .u (.l 4 v.c4), .i v.c5, .i v.c6, .i v.c7, .i v.c8], .a [.i v.a9, .i v.a10, .i v.a11, .i v.a12, .i v.a13, .i v.a14, .i v.a15, .i v.a16, .i v.a17, .i v.a18, .i v.a19], .r 0 0, .r 1 0, .u (.b false), .r 2 0, .i 0, .r 7 0, .i 0, .z, .z, .z, .z, .z, .z, .z, .z, .a [.i v.c1, .u (.l 7 v.c2), .i v.c3, .u (.l 4 v.c4), .i v.c5, .i v.c6, .i v.c7, .i v.c8], .u (.b true), .u (.b false), .z, .t [.r 2 0, .i 0], .t [.r 2 0, .i 0], .r 2 0, .i 0, .t [.r 7 0, .i 0], .a [.i v.c1, .u (.l 7 v.c2), .i v.c3, .u (.l 4 v.c4), .i v.c5, .i v.c6, .i v.c7, .i v.c8], .a [.nl 5, .i 0], .r 4 0, .a [.nl 5, .n .i64 33 [0, 0, 0, 0, 0, 0, 0, 0, 0, 0, 0, 0, 0, 0, 0, 0, 0, 0, 0, 0, 0, 0, 0, 0, 0, 0, 0, 0, 0, 0, 0, 0, 0]], .r 5 0, .r 2 0, .a [.nl 4, .nm], .r 6 0, .t [.r 7 0, .i 0], .r 7 0, .i 0, .i 0, .u (.b false), .u (.b false), .i 0, .a [.i v.c1, .u (.l 7 v.c2), .i v.c3, .u (.l 4 v.c4), .i v.c5, .i v.c6, .i v.c7, .i v.c8], .i 0, .u (.b false), .u (.b false), .u (.b false), .r 7 0, .u (.b true), .i 0, .u (.b true), .u (.b false), .u (.b false), .z, .a [.i v.c1, .u (.l 7 v.c2), .i v.c3, .u (.l 4 v.c4), .i v.c5, .i v.c6, .i v.c7, .i v.c8], .a [.nl 5, .n .i64 33 [0, 0, 0, 0, 0, 0, 0, 0, 0, 0, 0, 0, 0, 0, 0, 0, 0, 0, 0, 0, 0, 0, 0, 0, 0, 0, 0, 0, 0, 0, 0, 0, 0]], .r 12 0, .r 2 0, .a [.nl 4, .nm], .r 13 0] 142 201
def nbE0M22 (v : NbV) : Mem := paM (nbE0M12 v) [] [.c [.nl 5, .n .i64 33 [0, 0, 0, 0, 0, 0, 0, 0, 0, 0, 0, 0, 0, 0, 0, 0, 0, 0, 0, 0, 0, 0, 0, 0, 0, 0, 0, 0, 0, 0, 0, 0, 0]],
  .c [.nl 4, .nm]]
def nbE0T23 (v : NbV) : Fr := puF (nbE0T21 v) [(9, .u (.p none)), (10, .i 1), (52, .t [.u (.p none), .i 1]), (59, .t [.u (.p none), .i 1]), (60, .u (.p none)), (61, .i 1)]
def nbE0T24 (v : NbV) : Fr := puF (nbE0T23 v) [(62, .i 0)]
def nbE0T25 (v : NbV) : Fr := puF (nbE0T24 v) [(63, .u (.b true)), (64, .u (.b true)), (65, .i 1)]
def nbE0T26 (v : NbV) : Fr := puF (nbE0T25 v) [(66, .u (.b false)), (67, .u (.b false)), (68, .u (.b false)), (69, .i 0)]
def nbE0T27 (v : NbV) : Fr := puF (nbE0T26 v) [(70, .u (.b false)), (71, .u (.b false)), (72, .t []), (73, .t [])]
def nbE0T28 (v : NbV) : Fr := puF (nbE0T27 v) [(74, .t []), (75, .u (.b false)), (76, .u (.b false))]
def nbE0T29 (v : NbV) : Fr := puF (nbE0T27 v) [(74, .t []), (75, .u (.b false)), (76, .u (.b false))]
def nbE0T30 (v : NbV) : Fr := puF (nbE0T27 v) [(11, .sl 15 0 2), (74, .t []), (75, .u (.b false)), (76, .u (.b false)), (77, .a [.i 0, .nl 7, .i 0, .nl 4, .i 0, .i 0, .i 0, .i 0, .u (.p none), .u (.p none), .u (.p none), .u (.p none), .u (.p none), .u (.p none), .nl 16]), (78, .r 14 0), (79, .sl 15 0 2)]
def nbE0M31 (v : NbV) : Mem := paM (nbE0M22 v) [] [.c [.i 0, .nl 7, .i 0, .nl 4, .i 0, .i 0, .i 0, .i 0, .u (.p none), .u (.p none), .u (.p none), .u (.p none), .u (.p none), .u (.p none), .nl 16],
  .c [.u (.p none), .r 14 0]]
def nbE0T32 (v : NbV) : Fr := puF (nbE0T27 v) [(11, .sl 15 0 2), (12, .i 0), (74, .t []), (75, .u (.b false)), (76, .u (.b false)), (77, .a [.i 0, .nl 7, .i 0, .nl 4, .i 0, .i 0, .i 0, .i 0, .u (.p none), .u (.p none), .u (.p none), .u (.p none), .u (.p none), .u (.p none), .nl 16]), (78, .r 14 0), (79, .sl 15 0 2)]
noncomputable abbrev nbE0C26 : Code := cLp (cBd (dropK 1 (cL (dropK 1 (cR (cR (cR nbE0C11)))))))
def nbE0T33 (v : NbV) : Fr := puF (nbE0T27 v) [(11, .sl 15 0 2), (12, .i 0), (74, .t []), (75, .u (.b false)), (76, .u (.b false)), (77, .a [.i 0, .nl 7, .i 0, .nl 4, .i 0, .i 0, .i 0, .i 0, .u (.p none), .u (.p none), .u (.p none), .u (.p none), .u (.p none), .u (.p none), .nl 16]), (78, .r 14 0), (79, .sl 15 0 2), (80, .i 0), (81, .sl 15 0 2), (82, .i 2), (83, .u (.b true))]
noncomputable abbrev nbE0C29 : Code := cBd (cL (dropK 1 nbE0C26))
noncomputable abbrev nbE0C30 : Code := cL nbE0C29
def nbE0T34 (v : NbV) : Fr := puF (nbE0T27 v) [(11, .sl 15 0 2), (12, .i 0), (74, .t []), (75, .u (.b false)), (76, .u (.b false)), (77, .a [.i 0, .nl 7, .i 0, .nl 4, .i 0, .i 0, .i 0, .i 0, .u (.p none), .u (.p none), .u (.p none), .u (.p none), .u (.p none), .u (.p none), .nl 16]), (78, .r 14 0), (79, .sl 15 0 2), (80, .i 0), (81, .sl 15 0 2), (82, .i 2), (83, .u (.b true)), (87, .sl 15 0 2), (88, .i 0), (89, .r 15 0), (90, .u (.p none)), (91, .r 1 2), (92, .i v.a11), (93, .r 1 3), (94, .a [.i v.a12, .i v.a13, .i v.a14, .i v.a15, .i v.a16, .i v.a17, .i v.a18, .i v.a19])]
def nbE0k2M0 (v : NbV) : Mem := []
def nbE0k2T1 (v : NbV) : Fr := Fr.mk [.u (.p none), .i v.a11, .a [.i v.a12, .i v.a13, .i v.a14, .i v.a15, .i v.a16, .i v.a17, .i v.a18, .i v.a19], .z, .z, .r 0 0, .i 0, .i 1, .z, .z, .z, .u (.p none), .u (.b false), .u (.b true)] 155 169
def nbE0k2M2 (v : NbV) : Mem := [.c [.i v.a12, .i v.a13, .i v.a14, .i v.a15, .i v.a16, .i v.a17, .i v.a18, .i v.a19]]
abbrev nbE0k2Mm (v : NbV) : Mem := (nbE0k2M0 v)
theorem nbE0k2_run (v : NbV) : PRun Tryz.prog 9 (nbE0k2M0 v) [.u (.p none), .i v.a11, .a [.i v.a12, .i v.a13, .i v.a14, .i v.a15, .i v.a16, .i v.a17, .i v.a18, .i v.a19]] fun x m => x = .t [.i 0, .i 1] ∧ m = (nbE0k2Mm v) := Ev.runA (speWhole whp) Tryz.func9 (c := (bodyOf Tryz.f9)) (r := (.ret, (nbE0k2T1 v), (nbE0k2M2 v))) Ev.codeA
def nbE0T35 (v : NbV) : Fr := puF (nbE0T27 v) [(11, .sl 15 0 2), (12, .i 0), (13, .i 0), (14, .i 1), (74, .t []), (75, .u (.b false)), (76, .u (.b false)), (77, .a [.i 0, .nl 7, .i 0, .nl 4, .i 0, .i 0, .i 0, .i 0, .u (.p none), .u (.p none), .u (.p none), .u (.p none), .u (.p none), .u (.p none), .nl 16]), (78, .r 14 0), (79, .sl 15 0 2), (80, .i 0), (81, .sl 15 0 2), (82, .i 2), (83, .u (.b true)), (86, .t [.i 0, .i 1]), (87, .sl 15 0 2), (88, .i 0), (89, .r 15 0), (90, .u (.p none)), (91, .r 1 2), (92, .i v.a11), (93, .r 1 3), (94, .a [.i v.a12, .i v.a13, .i v.a14, .i v.a15, .i v.a16, .i v.a17, .i v.a18, .i v.a19]), (95, .t [.i 0, .i 1]), (96, .i 0), (97, .i 1)]
theorem nbE0n25 (v : NbV) (H : NbH v true true 0 true false) : nbE0evD (cOp nbE0C30) (0, [13, 12, 11, 10, 9, 8, 7, 6, 5, 4, 3, 2, 1, 0], [(7, [1]), (5, [1]), (3, [15])], (nbE0T35 v), (nbE0M31 v)) [((nbE0T35 v), (nbE0M31 v))] := EvD.codeA
theorem nbE0n26 (v : NbV) (H : NbH v true true 0 true false) : nbE0evD (cOp nbE0C30) (5, [8, 7, 6, 5, 4, 3, 2, 1, 0], [(7, [1]), (5, [1]), (3, [15])], (cPut (opAt (cOp nbE0C30) 8).dst).p (nbE0T34 v) (renV (fK [] ((nbE0M31 v)).length) (.t [.i 0, .i 1])), backM (nbE0M31 v) [] ((nbE0k2Mm v))) [((nbE0T35 v), (nbE0M31 v))] := EvD.stepsA (j := 5) (nbE0n25 v H)
theorem nbE0n27 (v : NbV) (H : NbH v true true 0 true false) : nbE0evD (cOp nbE0C30) (6, [7, 6, 5, 4, 3, 2, 1, 0], [(7, [1]), (5, [1]), (3, [15])], (nbE0T34 v), (nbE0M31 v)) [((nbE0T35 v), (nbE0M31 v))] := EvD.oneA 8 (EvE.callA (args := [.u (.p none), .i v.a11, .a [.i v.a12, .i v.a13, .i v.a14, .i v.a15, .i v.a16, .i v.a17, .i v.a18, .i v.a19]]) (a := []) (cc := []) 8 (nbE0k2_run v) (nbE0n26 v H))
def nbE0T36 (v : NbV) : Fr := puF (nbE0T27 v) [(11, .sl 15 0 2), (12, .i 0), (13, .i 0), (14, .i 1), (74, .t []), (75, .u (.b false)), (76, .u (.b false)), (77, .a [.i 0, .nl 7, .i 0, .nl 4, .i 0, .i 0, .i 0, .i 0, .u (.p none), .u (.p none), .u (.p none), .u (.p none), .u (.p none), .u (.p none), .nl 16]), (78, .r 14 0), (79, .sl 15 0 2), (80, .i 0), (81, .sl 15 0 2), (82, .i 2), (83, .u (.b true)), (86, .t [.i 0, .i 1]), (87, .sl 15 0 2), (88, .i 0), (89, .r 15 0), (90, .u (.p none)), (91, .r 1 2), (92, .i v.a11), (93, .r 1 3), (94, .a [.i v.a12, .i v.a13, .i v.a14, .i v.a15, .i v.a16, .i v.a17, .i v.a18, .i v.a19]), (95, .t [.i 0, .i 1]), (96, .i 0), (97, .i 1)]
noncomputable abbrev nbE0C31 : Code := cR nbE0C29
noncomputable abbrev nbE0C32 : Code := cL nbE0C31
def nbE0T37 (v : NbV) : Fr := puF (nbE0T27 v) [(11, .sl 15 0 2), (12, .i 0), (13, .i 0), (14, .i 1), (74, .t []), (75, .u (.b false)), (76, .u (.b false)), (77, .a [.i 0, .nl 7, .i 0, .nl 4, .i 0, .i 0, .i 0, .i 0, .u (.p none), .u (.p none), .u (.p none), .u (.p none), .u (.p none), .u (.p none), .nl 16]), (78, .r 14 0), (79, .sl 15 0 2), (80, .i 0), (81, .sl 15 0 2), (82, .i 2), (83, .u (.b true)), (86, .t [.i 0, .i 1]), (87, .sl 15 0 2), (88, .i 0), (89, .r 15 0), (90, .u (.p none)), (91, .r 1 2), (92, .i v.a11), (93, .r 1 3), (94, .a [.i v.a12, .i v.a13, .i v.a14, .i v.a15, .i v.a16, .i v.a17, .i v.a18, .i v.a19]), (95, .t [.i 0, .i 1]), (96, .i 0), (97, .i 1), (99, .sl 15 0 2), (100, .i 0), (101, .r 15 0), (102, .u (.p none)), (103, .r 1 1), (104, .i v.a10)]
def nbE0k3M0 (v : NbV) : Mem := []
def nbE0k3T1 (v : NbV) : Fr := Fr.mk [.u (.p none), .i v.a10, .z, .z, .r 0 0, .i 1, .z, .u (.b true), .u (.p none), .u (.b false), .u (.b true), .a [.i 0, .i 0, .i 0, .i 0, .i 0, .i 0, .i 0, .i 0, .i 0, .i 0, .i 0, .nl 2, .i 0, .i 0, .i 0, .i 0]] 26 38
def nbE0k3M2 (v : NbV) : Mem := [.c [.i 0, .i 0, .i 0, .i 0, .i 0, .i 0, .i 0, .i 0, .i 0, .i 0, .i 0, .nl 2, .i 0, .i 0, .i 0, .i 0]]
abbrev nbE0k3Mm (v : NbV) : Mem := (nbE0k3M0 v)
theorem nbE0k3_run (v : NbV) : PRun Tryz.prog 10 (nbE0k3M0 v) [.u (.p none), .i v.a10] fun x m => x = .t [.a [.i 0, .i 0, .i 0, .i 0, .i 0, .i 0, .i 0, .i 0, .i 0, .i 0, .i 0, .nl 2, .i 0, .i 0, .i 0, .i 0], .i 1] ∧ m = (nbE0k3Mm v) := Ev.runA (speWhole whp) Tryz.func10 (c := (bodyOf Tryz.f10)) (r := (.ret, (nbE0k3T1 v), (nbE0k3M2 v))) Ev.codeA
def nbE0T38 (v : NbV) : Fr := puF (nbE0T27 v) [(11, .sl 15 0 2), (12, .i 0), (13, .i 0), (14, .i 1), (15, .r 16 0), (16, .i 1), (74, .t []), (75, .u (.b false)), (76, .u (.b false)), (77, .a [.i 0, .nl 7, .i 0, .nl 4, .i 0, .i 0, .i 0, .i 0, .u (.p none), .u (.p none), .u (.p none), .u (.p none), .u (.p none), .u (.p none), .nl 16]), (78, .r 14 0), (79, .sl 15 0 2), (80, .i 0), (81, .sl 15 0 2), (82, .i 2), (83, .u (.b true)), (86, .t [.i 0, .i 1]), (87, .sl 15 0 2), (88, .i 0), (89, .r 15 0), (90, .u (.p none)), (91, .r 1 2), (92, .i v.a11), (93, .r 1 3), (94, .a [.i v.a12, .i v.a13, .i v.a14, .i v.a15, .i v.a16, .i v.a17, .i v.a18, .i v.a19]), (95, .t [.i 0, .i 1]), (96, .i 0), (97, .i 1), (98, .t [.a [.i 0, .i 0, .i 0, .i 0, .i 0, .i 0, .i 0, .i 0, .i 0, .i 0, .i 0, .nl 2, .i 0, .i 0, .i 0, .i 0], .i 1]), (99, .sl 15 0 2), (100, .i 0), (101, .r 15 0), (102, .u (.p none)), (103, .r 1 1), (104, .i v.a10), (105, .t [.a [.i 0, .i 0, .i 0, .i 0, .i 0, .i 0, .i 0, .i 0, .i 0, .i 0, .i 0, .nl 2, .i 0, .i 0, .i 0, .i 0], .i 1]), (106, .a [.i 0, .i 0, .i 0, .i 0, .i 0, .i 0, .i 0, .i 0, .i 0, .i 0, .i 0, .nl 2, .i 0, .i 0, .i 0, .i 0]), (107, .i 1)]
def nbE0M39 (v : NbV) : Mem := paM (nbE0M31 v) [] [.c [.i 0, .i 0, .i 0, .i 0, .i 0, .i 0, .i 0, .i 0, .i 0, .i 0, .i 0, .nl 2, .i 0, .i 0, .i 0, .i 0]]
theorem nbE0n30 (v : NbV) (H : NbH v true true 0 true false) : nbE0evD (cOp nbE0C32) (0, [12, 11, 10, 9, 8, 7, 6, 5, 4, 3, 2, 1, 0], [(5, [1]), (3, [15])], (nbE0T38 v), (nbE0M39 v)) [((nbE0T38 v), (nbE0M39 v))] := EvD.codeA
theorem nbE0n31 (v : NbV) (H : NbH v true true 0 true false) : nbE0evD (cOp nbE0C32) (6, [6, 5, 4, 3, 2, 1, 0], [(5, [1]), (3, [15])], (cPut (opAt (cOp nbE0C32) 6).dst).p (nbE0T37 v) (renV (fK [] ((nbE0M31 v)).length) (.t [.a [.i 0, .i 0, .i 0, .i 0, .i 0, .i 0, .i 0, .i 0, .i 0, .i 0, .i 0, .nl 2, .i 0, .i 0, .i 0, .i 0], .i 1])), backM (nbE0M31 v) [] ((nbE0k3Mm v))) [((nbE0T38 v), (nbE0M39 v))] := EvD.stepsA (j := 6) (nbE0n30 v H)
theorem nbE0n32 (v : NbV) (H : NbH v true true 0 true false) : nbE0evE (cOp nbE0C32) 6 6 [5, 4, 3, 2, 1, 0] [(5, [1]), (3, [15])] (nbE0T37 v) (nbE0M31 v) [((nbE0T38 v), (nbE0M39 v))] := EvE.callA (args := [.u (.p none), .i v.a10]) (a := []) (cc := []) 6 (nbE0k3_run v) (nbE0n31 v H)
def nbE0T40 (v : NbV) : Fr := puF (nbE0T27 v) [(11, .sl 15 0 2), (12, .i 0), (13, .i 0), (14, .i 1), (15, .r 16 0), (74, .t []), (75, .u (.b false)), (76, .u (.b false)), (77, .a [.i 0, .nl 7, .i 0, .nl 4, .i 0, .i 0, .i 0, .i 0, .u (.p none), .u (.p none), .u (.p none), .u (.p none), .u (.p none), .u (.p none), .nl 16]), (78, .r 14 0), (79, .sl 15 0 2), (80, .i 0), (81, .sl 15 0 2), (82, .i 2), (83, .u (.b true)), (86, .t [.i 0, .i 1]), (87, .sl 15 0 2), (88, .i 0), (89, .r 15 0), (90, .u (.p none)), (91, .r 1 2), (92, .i v.a11), (93, .r 1 3), (94, .a [.i v.a12, .i v.a13, .i v.a14, .i v.a15, .i v.a16, .i v.a17, .i v.a18, .i v.a19]), (95, .t [.i 0, .i 1]), (96, .i 0), (97, .i 1), (99, .sl 15 0 2), (100, .i 0), (101, .r 15 0), (102, .u (.p none)), (103, .r 1 1), (104, .i v.a10)]
def nbE0T41 (v : NbV) : Fr := puF (nbE0T27 v) [(11, .sl 15 0 2), (12, .i 0), (13, .i 0), (14, .i 1), (15, .r 16 0), (74, .t []), (75, .u (.b false)), (76, .u (.b false)), (77, .a [.i 0, .nl 7, .i 0, .nl 4, .i 0, .i 0, .i 0, .i 0, .u (.p none), .u (.p none), .u (.p none), .u (.p none), .u (.p none), .u (.p none), .nl 16]), (78, .r 14 0), (79, .sl 15 0 2), (80, .i 0), (81, .sl 15 0 2), (82, .i 2), (83, .u (.b true)), (86, .t [.i 0, .i 1]), (87, .sl 15 0 2), (88, .i 0), (89, .r 15 0), (90, .u (.p none)), (91, .r 1 2), (92, .i v.a11), (93, .r 1 3), (94, .a [.i v.a12, .i v.a13, .i v.a14, .i v.a15, .i v.a16, .i v.a17, .i v.a18, .i v.a19]), (95, .t [.i 0, .i 1]), (96, .i 0), (97, .i 1), (99, .sl 15 0 2), (100, .i 0), (101, .r 15 0), (102, .u (.p none)), (103, .r 1 1), (104, .i v.a10)]
def nbE0T42 (v : NbV) : Fr := puF (nbE0T27 v) [(11, .sl 15 0 2), (12, .i 0), (13, .i 0), (14, .i 1), (15, .r 16 0), (16, .i 1), (74, .t []), (75, .u (.b false)), (76, .u (.b false)), (77, .a [.i 0, .nl 7, .i 0, .nl 4, .i 0, .i 0, .i 0, .i 0, .u (.p none), .u (.p none), .u (.p none), .u (.p none), .u (.p none), .u (.p none), .nl 16]), (78, .r 14 0), (79, .sl 15 0 2), (80, .i 0), (81, .sl 15 0 2), (82, .i 2), (83, .u (.b true)), (86, .t [.i 0, .i 1]), (87, .sl 15 0 2), (88, .i 0), (89, .r 15 0), (90, .u (.p none)), (91, .r 1 2), (92, .i v.a11), (93, .r 1 3), (94, .a [.i v.a12, .i v.a13, .i v.a14, .i v.a15, .i v.a16, .i v.a17, .i v.a18, .i v.a19]), (95, .t [.i 0, .i 1]), (96, .i 0), (97, .i 1), (98, .t [.a [.i 0, .i 0, .i 0, .i 0, .i 0, .i 0, .i 0, .i 0, .i 0, .i 0, .i 0, .nl 2, .i 0, .i 0, .i 0, .i 0], .i 1]), (99, .sl 15 0 2), (100, .i 0), (101, .r 15 0), (102, .u (.p none)), (103, .r 1 1), (104, .i v.a10), (105, .t [.a [.i 0, .i 0, .i 0, .i 0, .i 0, .i 0, .i 0, .i 0, .i 0, .i 0, .i 0, .nl 2, .i 0, .i 0, .i 0, .i 0], .i 1]), (106, .a [.i 0, .i 0, .i 0, .i 0, .i 0, .i 0, .i 0, .i 0, .i 0, .i 0, .i 0, .nl 2, .i 0, .i 0, .i 0, .i 0]), (107, .i 1)]
theorem nbE0n33 (v : NbV) (H : NbH v true true 0 true false) : nbE0evD (cOp nbE0C32) (0, [12, 11, 9, 8, 7, 6, 10, 5, 4, 3, 2, 1, 0], [(5, [1]), (3, [15])], (nbE0T42 v), (nbE0M39 v)) [((nbE0T42 v), (nbE0M39 v))] := EvD.codeA
theorem nbE0n34 (v : NbV) (H : NbH v true true 0 true false) : nbE0evD (cOp nbE0C32) (5, [6, 10, 5, 4, 3, 2, 1, 0], [(5, [1]), (3, [15])], (cPut (opAt (cOp nbE0C32) 6).dst).p (nbE0T41 v) (renV (fK [] ((nbE0M39 v)).length) (.t [.a [.i 0, .i 0, .i 0, .i 0, .i 0, .i 0, .i 0, .i 0, .i 0, .i 0, .i 0, .nl 2, .i 0, .i 0, .i 0, .i 0], .i 1])), backM (nbE0M39 v) [] ((nbE0k3Mm v))) [((nbE0T42 v), (nbE0M39 v))] := EvD.stepsA (j := 5) (nbE0n33 v H)
theorem nbE0n35 (v : NbV) (H : NbH v true true 0 true false) : nbE0evD (cOp nbE0C32) (6, [10, 5, 4, 3, 2, 1, 0], [(5, [1]), (3, [15])], (nbE0T41 v), (nbE0M39 v)) [((nbE0T42 v), (nbE0M39 v))] := EvD.oneA 6 (EvE.callA (args := [.u (.p none), .i v.a10]) (a := []) (cc := []) 6 (nbE0k3_run v) (nbE0n34 v H))
theorem nbE0n36 (v : NbV) (H : NbH v true true 0 true false) : nbE0evD (cOp nbE0C32) (6, [10, 5, 4, 3, 2, 1, 0], [(5, [1]), (3, [15])], (nbE0T40 v), (nbE0M39 v)) [((nbE0T42 v), (nbE0M39 v))] := EvD.stepsA (j := 0) (nbE0n35 v H)
theorem nbE0n37 (v : NbV) (H : NbH v true true 0 true false) : nbE0evE (cOp nbE0C32) 10 6 [5, 4, 3, 2, 1, 0] [(5, [1]), (3, [15])] (nbE0T37 v) (nbE0M31 v) [((nbE0T42 v), (nbE0M39 v))] := EvE.step (by kernel_rfl) (nbE0n36 v H)
theorem nbE0n38 (v : NbV) (H : NbH v true true 0 true false) : nbE0evD (cOp nbE0C32) (7, [5, 4, 3, 2, 1, 0], [(5, [1]), (3, [15])], (nbE0T37 v), (nbE0M31 v)) [((nbE0T38 v), (nbE0M39 v)), ((nbE0T42 v), (nbE0M39 v))] := EvD.two (o1 := [((nbE0T38 v), (nbE0M39 v))]) (o2 := [((nbE0T42 v), (nbE0M39 v))]) 6 10 (by kernel_rfl) (by kernel_rfl) (nbE0n32 v H) (nbE0n37 v H)
def nbE0T43 (v : NbV) : Fr := puF (nbE0T27 v) [(11, .sl 15 0 2), (12, .i 0), (13, .i 0), (14, .i 1), (15, .r 16 0), (16, .i 1), (74, .t []), (75, .u (.b false)), (76, .u (.b false)), (77, .a [.i 0, .nl 7, .i 0, .nl 4, .i 0, .i 0, .i 0, .i 0, .u (.p none), .u (.p none), .u (.p none), .u (.p none), .u (.p none), .u (.p none), .nl 16]), (78, .r 14 0), (79, .sl 15 0 2), (80, .i 0), (81, .sl 15 0 2), (82, .i 2), (83, .u (.b true)), (86, .t [.i 0, .i 1]), (87, .sl 15 0 2), (88, .i 0), (89, .r 15 0), (90, .u (.p none)), (91, .r 1 2), (92, .i v.a11), (93, .r 1 3), (94, .a [.i v.a12, .i v.a13, .i v.a14, .i v.a15, .i v.a16, .i v.a17, .i v.a18, .i v.a19]), (95, .t [.i 0, .i 1]), (96, .i 0), (97, .i 1), (98, .t [.a [.i 0, .i 0, .i 0, .i 0, .i 0, .i 0, .i 0, .i 0, .i 0, .i 0, .i 0, .nl 2, .i 0, .i 0, .i 0, .i 0], .i 1]), (99, .sl 15 0 2), (100, .i 0), (101, .r 15 0), (102, .u (.p none)), (103, .r 1 1), (104, .i v.a10), (105, .t [.a [.i 0, .i 0, .i 0, .i 0, .i 0, .i 0, .i 0, .i 0, .i 0, .i 0, .i 0, .nl 2, .i 0, .i 0, .i 0, .i 0], .i 1]), (106, .a [.i 0, .i 0, .i 0, .i 0, .i 0, .i 0, .i 0, .i 0, .i 0, .i 0, .i 0, .nl 2, .i 0, .i 0, .i 0, .i 0]), (107, .i 1)]
noncomputable abbrev nbE0C34 : Code := cL (cR nbE0C31)
def nbE0T44 (v : NbV) : Fr := Fr.mk [.a [.i v.c1, .u (.l 7 v.c2), .i v.c3, .u (.l 4 v.c4), .i v.c5, .i v.c6, .i v.c7, .i v.c8], .a [.i v.a9, .i v.a10, .i v.a11, .i v.a12, .i v.a13, .i v.a14, .i v.a15, .i v.a16, .i v.a17, .i v.a18, .i v.a19], .r 0 0, .r 1 0, .u (.b false), .r 2 0, .i 0, .r 7 0, .i 0, .u (.p none), .i 1, .sl 15 0 2, .i 0, .i 0, .i 1, .r 16 0, .i 1, .a [.i v.c1, .u (.l 7 v.c2), .i v.c3, .u (.l 4 v.c4), .i v.c5, .i v.c6, .i v.c7, .i v.c8], .u (.b true), .u (.b false), .z, .t [.r 2 0, .i 0], .t [.r 2 0, .i 0], .r 2 0, .i 0, .t [.r 7 0, .i 0], .a [.i v.c1, .u (.l 7 v.c2), .i v.c3, .u (.l 4 v.c4), .i v.c5, .i v.c6, .i v.c7, .i v.c8], .a [.nl 5, .i 0], .r 4 0, .a [.nl 5, .n .i64 33 [0, 0, 0, 0, 0, 0, 0, 0, 0, 0, 0, 0, 0, 0, 0, 0, 0, 0, 0, 0, 0, 0, 0, 0, 0, 0, 0, 0, 0, 0, 0, 0, 0]], .r 5 0, .r 2 0, .a [.nl 4, .nm], .r 6 0, .t [.r 7 0, .i 0], .r 7 0, .i 0, .i 0, .u (.b false), .u (.b false), .i 0, .a [.i v.c1, .u (.l 7 v.c2), .i v.c3, .u (.l 4 v.c4), .i v.c5, .i v.c6, .i v.c7, .i v.c8], .i 0, .u (.b false), .u (.b false), .u (.b false), .r 7 0, .u (.b true), .i 0, .u (.b true), .u (.b false), .u (.b false), .t [.u (.p none), .i 1], .a [.i v.c1, .u (.l 7 v.c2), .i v.c3, .u (.l 4 v.c4), .i v.c5, .i v.c6, .i v.c7, .i v.c8], .a [.nl 5, .n .i64 33 [0, 0, 0, 0, 0, 0, 0, 0, 0, 0, 0, 0, 0, 0, 0, 0, 0, 0, 0, 0, 0, 0, 0, 0, 0, 0, 0, 0, 0, 0, 0, 0, 0]], .r 12 0, .r 2 0, .a [.nl 4, .nm], .r 13 0, .t [.u (.p none), .i 1], .u (.p none), .i 1, .i 0, .u (.b true), .u (.b true), .i 1, .u (.b false), .u (.b false), .u (.b false), .i 0, .u (.b false), .u (.b false), .t [], .t [], .t [], .u (.b false), .u (.b false), .a [.i 0, .nl 7, .i 0, .nl 4, .i 0, .i 0, .i 0, .i 0, .u (.p none), .u (.p none), .u (.p none), .u (.p none), .u (.p none), .u (.p none), .nl 16], .r 14 0, .sl 15 0 2, .i 0, .sl 15 0 2, .i 2, .u (.b true), .z, .z, .t [.i 0, .i 1], .sl 15 0 2, .i 0, .r 15 0, .u (.p none), .r 1 2, .i v.a11, .r 1 3, .a [.i v.a12, .i v.a13, .i v.a14, .i v.a15, .i v.a16, .i v.a17, .i v.a18, .i v.a19], .t [.i 0, .i 1], .i 0, .i 1, .t [.a [.i 0, .i 0, .i 0, .i 0, .i 0, .i 0, .i 0, .i 0, .i 0, .i 0, .i 0, .nl 2, .i 0, .i 0, .i 0, .i 0], .i 1], .sl 15 0 2, .i 0, .r 15 0, .u (.p none), .r 1 1, .i v.a10, .t [.a [.i 0, .i 0, .i 0, .i 0, .i 0, .i 0, .i 0, .i 0, .i 0, .i 0, .i 0, .nl 2, .i 0, .i 0, .i 0, .i 0], .i 1], .a [.i 0, .i 0, .i 0, .i 0, .i 0, .i 0, .i 0, .i 0, .i 0, .i 0, .i 0, .nl 2, .i 0, .i 0, .i 0, .i 0], .i 1, .i 0, .u (.b false), .u (.b false), .i 1, .u (.b false), .u (.b false), .u (.b false), .i 1, .u (.b false), .u (.b false), .u (.b false), .sl 15 0 2, .i 0, .r 15 0, .u (.p none), .r 1 2, .i v.a11, .r 1 1, .i v.a10] 74 201
def nbE0k4M0 (v : NbV) : Mem := []
def nbE0k4T1 (v : NbV) : Fr := Fr.mk [.u (.p none), .i v.a11, .i v.a10, .z, .r 0 0, .z, .i 1, .r 1 0, .i 1, .t [.a [.i 0, .i 0, .i 0, .i 0, .i 0, .i 0, .i 0, .i 0, .i 0, .i 0, .i 0, .nl 2, .i 0, .i 0, .i 0, .i 0], .i 1], .u (.p none), .i v.a10, .f 43 [] [.r 0 0], .t [.a [.i 0, .i 0, .i 0, .i 0, .i 0, .i 0, .i 0, .i 0, .i 0, .i 0, .i 0, .nl 2, .i 0, .i 0, .i 0, .i 0], .i 1], .a [.i 0, .i 0, .i 0, .i 0, .i 0, .i 0, .i 0, .i 0, .i 0, .i 0, .i 0, .nl 2, .i 0, .i 0, .i 0, .i 0], .i 1, .i 1, .u (.b false), .z, .z, .z, .z, .z, .z, .z, .z, .z, .z, .z, .z, .i 1] 0 31
def nbE0k4M2 (v : NbV) : Mem := [.c [.i v.a11],
  .c [.i 0, .i 0, .i 0, .i 0, .i 0, .i 0, .i 0, .i 0, .i 0, .i 0, .i 0, .nl 2, .i 0, .i 0, .i 0, .i 0]]
abbrev nbE0k4Mm (v : NbV) : Mem := (nbE0k4M0 v)
theorem nbE0k4_run (v : NbV) : PRun Tryz.prog 11 (nbE0k4M0 v) [.u (.p none), .i v.a11, .i v.a10] fun x m => x = .i 1 ∧ m = (nbE0k4Mm v) := Ev.runA (speWhole whp) Tryz.func11 (c := (bodyOf Tryz.f11)) (r := (.ret, (nbE0k4T1 v), (nbE0k4M2 v))) Ev.codeA
def nbE0T45 (v : NbV) : Fr := puF (nbE0T44 v) [(127, .i 1), (128, .u (.b false)), (129, .u (.b false)), (130, .u (.b false)), (131, .sl 15 0 2), (132, .i 0), (133, .r 15 0), (134, .u (.p none)), (135, .r 1 2), (136, .i v.a11), (137, .r 1 1), (138, .i v.a10)]
def nbE0k5M0 (v : NbV) : Mem := []
def nbE0k5T1 (v : NbV) : Fr := Fr.mk [.u (.p none), .i v.a11, .i v.a10, .z, .z, .z, .i 1, .r 0 0, .i 1, .t [.a [.i 0, .i 0, .i 0, .i 0, .i 0, .i 0, .i 0, .i 0, .i 0, .i 0, .i 0, .nl 2, .i 0, .i 0, .i 0, .i 0], .i 1], .u (.p none), .i v.a10, .t [.a [.i 0, .i 0, .i 0, .i 0, .i 0, .i 0, .i 0, .i 0, .i 0, .i 0, .i 0, .nl 2, .i 0, .i 0, .i 0, .i 0], .i 1], .a [.i 0, .i 0, .i 0, .i 0, .i 0, .i 0, .i 0, .i 0, .i 0, .i 0, .i 0, .nl 2, .i 0, .i 0, .i 0, .i 0], .i 1, .u (.b true), .i 1, .u (.b true), .i 1] 25 44
def nbE0k5M2 (v : NbV) : Mem := [.c [.i 0, .i 0, .i 0, .i 0, .i 0, .i 0, .i 0, .i 0, .i 0, .i 0, .i 0, .nl 2, .i 0, .i 0, .i 0, .i 0]]
abbrev nbE0k5Mm (v : NbV) : Mem := (nbE0k5M0 v)
theorem nbE0k5_run (v : NbV) : PRun Tryz.prog 12 (nbE0k5M0 v) [.u (.p none), .i v.a11, .i v.a10] fun x m => x = .i 1 ∧ m = (nbE0k5Mm v) := Ev.runA (speWhole whp) Tryz.func12 (c := (bodyOf Tryz.f12)) (r := (.ret, (nbE0k5T1 v), (nbE0k5M2 v))) Ev.codeA
def nbE0T46 (v : NbV) : Fr := puF (nbE0T45 v) [(139, .i 1), (140, .u (.b false)), (141, .u (.b false)), (142, .u (.b false)), (143, .sl 15 0 2), (144, .i 0), (145, .r 15 0), (146, .u (.p none)), (147, .r 1 2), (148, .i v.a11), (149, .r 1 1), (150, .i v.a10)]
def nbE0k6M0 (v : NbV) : Mem := []
def nbE0k6T1 (v : NbV) : Fr := Fr.mk [.u (.p none), .i v.a11, .i v.a10, .z, .r 0 0, .z, .i 1, .r 1 0, .i 1, .z, .t [.a [.i 0, .i 0, .i 0, .i 0, .i 0, .i 0, .i 0, .i 0, .i 0, .i 0, .i 0, .nl 2, .i 0, .i 0, .i 0, .i 0], .i 1], .u (.p none), .i v.a10, .f 50 [] [.r 0 0], .t [.a [.i 0, .i 0, .i 0, .i 0, .i 0, .i 0, .i 0, .i 0, .i 0, .i 0, .i 0, .nl 2, .i 0, .i 0, .i 0, .i 0], .i 1], .a [.i 0, .i 0, .i 0, .i 0, .i 0, .i 0, .i 0, .i 0, .i 0, .i 0, .i 0, .nl 2, .i 0, .i 0, .i 0, .i 0], .i 1, .i 1, .u (.b true), .i 1] 26 46
def nbE0k6M2 (v : NbV) : Mem := [.c [.i v.a11],
  .c [.i 0, .i 0, .i 0, .i 0, .i 0, .i 0, .i 0, .i 0, .i 0, .i 0, .i 0, .nl 2, .i 0, .i 0, .i 0, .i 0]]
abbrev nbE0k6Mm (v : NbV) : Mem := (nbE0k6M0 v)
theorem nbE0k6_run (v : NbV) : PRun Tryz.prog 13 (nbE0k6M0 v) [.u (.p none), .i v.a11, .i v.a10] fun x m => x = .i 1 ∧ m = (nbE0k6Mm v) := Ev.runA (speWhole whp) Tryz.func13 (c := (bodyOf Tryz.f13)) (r := (.ret, (nbE0k6T1 v), (nbE0k6M2 v))) Ev.codeA
def nbE0T47 (v : NbV) : Fr := puF (nbE0T46 v) [(151, .i 1), (152, .u (.b false)), (153, .u (.b false)), (154, .u (.b false)), (155, .sl 15 0 2), (156, .i 0), (157, .r 15 0), (158, .u (.p none)), (159, .r 1 1), (160, .i v.a10)]
def nbE0k7M0 (v : NbV) : Mem := []
def nbE0k7T1 (v : NbV) : Fr := Fr.mk [.u (.p none), .i v.a10, .z, .z, .i 1, .r 0 0, .i 1, .t [.a [.i 0, .i 0, .i 0, .i 0, .i 0, .i 0, .i 0, .i 0, .i 0, .i 0, .i 0, .nl 2, .i 0, .i 0, .i 0, .i 0], .i 1], .u (.p none), .i v.a10, .t [.a [.i 0, .i 0, .i 0, .i 0, .i 0, .i 0, .i 0, .i 0, .i 0, .i 0, .i 0, .nl 2, .i 0, .i 0, .i 0, .i 0], .i 1], .a [.i 0, .i 0, .i 0, .i 0, .i 0, .i 0, .i 0, .i 0, .i 0, .i 0, .i 0, .nl 2, .i 0, .i 0, .i 0, .i 0], .i 1, .i 1, .u (.b false), .z, .z, .z, .i 1, .u (.b false), .z, .z, .z, .z, .z, .z, .z, .z, .z, .z, .z, .z, .z, .z, .z, .z, .i 1] 0 37
def nbE0k7M2 (v : NbV) : Mem := [.c [.i 0, .i 0, .i 0, .i 0, .i 0, .i 0, .i 0, .i 0, .i 0, .i 0, .i 0, .nl 2, .i 0, .i 0, .i 0, .i 0]]
abbrev nbE0k7Mm (v : NbV) : Mem := (nbE0k7M0 v)
theorem nbE0k7_run (v : NbV) : PRun Tryz.prog 14 (nbE0k7M0 v) [.u (.p none), .i v.a10] fun x m => x = .i 1 ∧ m = (nbE0k7Mm v) := Ev.runA (speWhole whp) Tryz.func14 (c := (bodyOf Tryz.f14)) (r := (.ret, (nbE0k7T1 v), (nbE0k7M2 v))) Ev.codeA
def nbE0T48 (v : NbV) : Fr := puF (nbE0T47 v) [(161, .i 1), (162, .u (.b false)), (163, .u (.b false)), (164, .u (.b false)), (165, .sl 15 0 2), (166, .i 0), (167, .r 15 0), (168, .u (.p none)), (169, .r 1 2), (170, .i v.a11), (171, .r 1 1), (172, .i v.a10)]
def nbE0k8M0 (v : NbV) : Mem := []
def nbE0k8T1 (v : NbV) : Fr := Fr.mk [.u (.p none), .i v.a11, .i v.a10, .z, .r 0 0, .z, .i 1, .r 1 0, .i 1, .t [.a [.i 0, .i 0, .i 0, .i 0, .i 0, .i 0, .i 0, .i 0, .i 0, .i 0, .i 0, .nl 2, .i 0, .i 0, .i 0, .i 0], .i 1], .u (.p none), .i v.a10, .f 57 [] [.r 0 0], .t [.a [.i 0, .i 0, .i 0, .i 0, .i 0, .i 0, .i 0, .i 0, .i 0, .i 0, .i 0, .nl 2, .i 0, .i 0, .i 0, .i 0], .i 1], .a [.i 0, .i 0, .i 0, .i 0, .i 0, .i 0, .i 0, .i 0, .i 0, .i 0, .i 0, .nl 2, .i 0, .i 0, .i 0, .i 0], .i 1, .i 1, .u (.b false), .z, .z, .z, .z, .i 1] 0 23
def nbE0k8M2 (v : NbV) : Mem := [.c [.i v.a11],
  .c [.i 0, .i 0, .i 0, .i 0, .i 0, .i 0, .i 0, .i 0, .i 0, .i 0, .i 0, .nl 2, .i 0, .i 0, .i 0, .i 0]]
abbrev nbE0k8Mm (v : NbV) : Mem := (nbE0k8M0 v)
theorem nbE0k8_run (v : NbV) : PRun Tryz.prog 15 (nbE0k8M0 v) [.u (.p none), .i v.a11, .i v.a10] fun x m => x = .i 1 ∧ m = (nbE0k8Mm v) := Ev.runA (speWhole whp) Tryz.func15 (c := (bodyOf Tryz.f15)) (r := (.ret, (nbE0k8T1 v), (nbE0k8M2 v))) Ev.codeA
def nbE0T49 (v : NbV) : Fr := puF (nbE0T48 v) [(173, .i 1), (174, .u (.b false)), (175, .u (.b false)), (176, .u (.b false)), (177, .sl 15 0 2), (178, .i 0), (179, .r 15 0), (180, .u (.p none)), (183, .sl 15 0 2), (184, .i 0), (185, .r 15 0), (186, .u (.p none))]
def nbE0k9M0 (v : NbV) : Mem := []
def nbE0k9T1 (v : NbV) : Fr := Fr.mk [.u (.p none), .z, .nl 0, .z, .z, .z, .z, .u (.p none), .u (.b false), .u (.b true)] 21 31
abbrev nbE0k9Mm (v : NbV) : Mem := (nbE0k9M0 v)
theorem nbE0k9_run (v : NbV) : PRun Tryz.prog 16 (nbE0k9M0 v) [.u (.p none)] fun x m => x = .nl 16 ∧ m = (nbE0k9Mm v) := Ev.runA (speWhole whp) Tryz.func16 (c := (bodyOf Tryz.f16)) (r := (.ret, (nbE0k9T1 v), (nbE0k9M0 v))) Ev.codeA
def nbE0T50 (v : NbV) : Fr := puF (nbE0T49 v) [(181, .nl 16), (182, .i 0)]
def nbE0k10M0 (v : NbV) : Mem := []
def nbE0k10T1 (v : NbV) : Fr := Fr.mk [.u (.p none), .z, .nl 0, .u (.p none), .u (.b false), .u (.b true)] 5 11
abbrev nbE0k10Mm (v : NbV) : Mem := (nbE0k10M0 v)
theorem nbE0k10_run (v : NbV) : PRun Tryz.prog 17 (nbE0k10M0 v) [.u (.p none)] fun x m => x = .nl 2 ∧ m = (nbE0k10Mm v) := Ev.runA (speWhole whp) Tryz.func17 (c := (bodyOf Tryz.f17)) (r := (.ret, (nbE0k10T1 v), (nbE0k10M0 v))) Ev.codeA
def nbE0T51 (v : NbV) : Fr := puF (nbE0T49 v) [(181, .nl 16), (182, .i 0), (187, .nl 2), (188, .i 0), (189, .i 0), (190, .u (.b false)), (191, .u (.b false)), (192, .u (.b false)), (193, .sl 15 0 2), (194, .i 0), (195, .r 15 0), (196, .u (.p none))]
def nbE0k11M0 (v : NbV) : Mem := []
def nbE0k11T1 (v : NbV) : Fr := Fr.mk [.u (.p none), .z, .u (.p none), .u (.p none), .u (.b false), .u (.b true)] 4 10
abbrev nbE0k11Mm (v : NbV) : Mem := (nbE0k11M0 v)
theorem nbE0k11_run (v : NbV) : PRun Tryz.prog 18 (nbE0k11M0 v) [.u (.p none)] fun x m => x = .u (.p none) ∧ m = (nbE0k11Mm v) := Ev.runA (speWhole whp) Tryz.func18 (c := (bodyOf Tryz.f18)) (r := (.ret, (nbE0k11T1 v), (nbE0k11M0 v))) Ev.codeA
def nbE0T52 (v : NbV) : Fr := puF (nbE0T49 v) [(181, .nl 16), (182, .i 0), (187, .nl 2), (188, .i 0), (189, .i 0), (190, .u (.b false)), (191, .u (.b false)), (192, .u (.b false)), (193, .sl 15 0 2), (194, .i 0), (195, .r 15 0), (196, .u (.p none)), (197, .u (.p none)), (198, .u (.b false)), (199, .u (.b false))]
theorem nbE0n41 (v : NbV) (H : NbH v true true 0 true false) : nbE0evD (cOp nbE0C34) (0, [91, 90, 89, 88, 87, 86, 85, 84, 83, 82, 81, 80, 79, 74, 73, 78, 77, 76, 75, 72, 71, 70, 69, 68, 67, 66, 65, 64, 63, 62, 61, 60, 59, 58, 57, 56, 55, 54, 53, 52, 51, 50, 49, 48, 47, 46, 45, 44, 43, 42, 41, 40, 39, 38, 37, 36, 35, 34, 33, 32, 31, 30, 29, 28, 27, 26, 25, 24, 23, 22, 21, 20, 19, 18, 17, 16, 15, 14, 13, 12, 11, 10, 9, 8, 7, 6, 5, 4, 3, 2, 1, 0], [(88, [15]), (80, []), (74, []), (78, [15]), (72, [15]), (64, [1]), (62, [1]), (60, [15]), (52, [1]), (50, [15]), (42, [1]), (40, [1]), (38, [15]), (30, [1]), (28, [1]), (26, [15]), (18, [1]), (16, [1]), (14, [15])], (nbE0T52 v), (nbE0M39 v)) [((nbE0T52 v), (nbE0M39 v))] := EvD.codeA
theorem nbE0n42 (v : NbV) (H : NbH v true true 0 true false) : nbE0evD (cOp nbE0C34) (2, [89, 88, 87, 86, 85, 84, 83, 82, 81, 80, 79, 74, 73, 78, 77, 76, 75, 72, 71, 70, 69, 68, 67, 66, 65, 64, 63, 62, 61, 60, 59, 58, 57, 56, 55, 54, 53, 52, 51, 50, 49, 48, 47, 46, 45, 44, 43, 42, 41, 40, 39, 38, 37, 36, 35, 34, 33, 32, 31, 30, 29, 28, 27, 26, 25, 24, 23, 22, 21, 20, 19, 18, 17, 16, 15, 14, 13, 12, 11, 10, 9, 8, 7, 6, 5, 4, 3, 2, 1, 0], [(88, [15]), (80, []), (74, []), (78, [15]), (72, [15]), (64, [1]), (62, [1]), (60, [15]), (52, [1]), (50, [15]), (42, [1]), (40, [1]), (38, [15]), (30, [1]), (28, [1]), (26, [15]), (18, [1]), (16, [1]), (14, [15])], (cPut (opAt (cOp nbE0C34) 89).dst).p (nbE0T51 v) (renV (fK [] ((nbE0M39 v)).length) (.u (.p none))), backM (nbE0M39 v) [] ((nbE0k11Mm v))) [((nbE0T52 v), (nbE0M39 v))] := EvD.stepsA (j := 2) (nbE0n41 v H)
theorem nbE0n43 (v : NbV) (H : NbH v true true 0 true false) : nbE0evD (cOp nbE0C34) (3, [88, 87, 86, 85, 84, 83, 82, 81, 80, 79, 74, 73, 78, 77, 76, 75, 72, 71, 70, 69, 68, 67, 66, 65, 64, 63, 62, 61, 60, 59, 58, 57, 56, 55, 54, 53, 52, 51, 50, 49, 48, 47, 46, 45, 44, 43, 42, 41, 40, 39, 38, 37, 36, 35, 34, 33, 32, 31, 30, 29, 28, 27, 26, 25, 24, 23, 22, 21, 20, 19, 18, 17, 16, 15, 14, 13, 12, 11, 10, 9, 8, 7, 6, 5, 4, 3, 2, 1, 0], [(88, [15]), (80, []), (74, []), (78, [15]), (72, [15]), (64, [1]), (62, [1]), (60, [15]), (52, [1]), (50, [15]), (42, [1]), (40, [1]), (38, [15]), (30, [1]), (28, [1]), (26, [15]), (18, [1]), (16, [1]), (14, [15])], (nbE0T51 v), (nbE0M39 v)) [((nbE0T52 v), (nbE0M39 v))] := EvD.oneA 89 (EvE.callA (args := [.u (.p none)]) (a := []) (cc := []) 89 (nbE0k11_run v) (nbE0n42 v H))
theorem nbE0n44 (v : NbV) (H : NbH v true true 0 true false) : nbE0evD (cOp nbE0C34) (12, [79, 74, 73, 78, 77, 76, 75, 72, 71, 70, 69, 68, 67, 66, 65, 64, 63, 62, 61, 60, 59, 58, 57, 56, 55, 54, 53, 52, 51, 50, 49, 48, 47, 46, 45, 44, 43, 42, 41, 40, 39, 38, 37, 36, 35, 34, 33, 32, 31, 30, 29, 28, 27, 26, 25, 24, 23, 22, 21, 20, 19, 18, 17, 16, 15, 14, 13, 12, 11, 10, 9, 8, 7, 6, 5, 4, 3, 2, 1, 0], [(74, []), (78, [15]), (72, [15]), (64, [1]), (62, [1]), (60, [15]), (52, [1]), (50, [15]), (42, [1]), (40, [1]), (38, [15]), (30, [1]), (28, [1]), (26, [15]), (18, [1]), (16, [1]), (14, [15])], (cPut (opAt (cOp nbE0C34) 79).dst).p (nbE0T50 v) (renV (fK [] ((nbE0M39 v)).length) (.nl 2)), backM (nbE0M39 v) [] ((nbE0k10Mm v))) [((nbE0T52 v), (nbE0M39 v))] := EvD.stepsA (j := 9) (nbE0n43 v H)
theorem nbE0n45 (v : NbV) (H : NbH v true true 0 true false) : nbE0evD (cOp nbE0C34) (13, [74, 73, 78, 77, 76, 75, 72, 71, 70, 69, 68, 67, 66, 65, 64, 63, 62, 61, 60, 59, 58, 57, 56, 55, 54, 53, 52, 51, 50, 49, 48, 47, 46, 45, 44, 43, 42, 41, 40, 39, 38, 37, 36, 35, 34, 33, 32, 31, 30, 29, 28, 27, 26, 25, 24, 23, 22, 21, 20, 19, 18, 17, 16, 15, 14, 13, 12, 11, 10, 9, 8, 7, 6, 5, 4, 3, 2, 1, 0], [(74, []), (78, [15]), (72, [15]), (64, [1]), (62, [1]), (60, [15]), (52, [1]), (50, [15]), (42, [1]), (40, [1]), (38, [15]), (30, [1]), (28, [1]), (26, [15]), (18, [1]), (16, [1]), (14, [15])], (nbE0T50 v), (nbE0M39 v)) [((nbE0T52 v), (nbE0M39 v))] := EvD.oneA 79 (EvE.callA (args := [.u (.p none)]) (a := []) (cc := []) 79 (nbE0k10_run v) (nbE0n44 v H))
theorem nbE0n46 (v : NbV) (H : NbH v true true 0 true false) : nbE0evD (cOp nbE0C34) (14, [73, 78, 77, 76, 75, 72, 71, 70, 69, 68, 67, 66, 65, 64, 63, 62, 61, 60, 59, 58, 57, 56, 55, 54, 53, 52, 51, 50, 49, 48, 47, 46, 45, 44, 43, 42, 41, 40, 39, 38, 37, 36, 35, 34, 33, 32, 31, 30, 29, 28, 27, 26, 25, 24, 23, 22, 21, 20, 19, 18, 17, 16, 15, 14, 13, 12, 11, 10, 9, 8, 7, 6, 5, 4, 3, 2, 1, 0], [(78, [15]), (72, [15]), (64, [1]), (62, [1]), (60, [15]), (52, [1]), (50, [15]), (42, [1]), (40, [1]), (38, [15]), (30, [1]), (28, [1]), (26, [15]), (18, [1]), (16, [1]), (14, [15])], (cPut (opAt (cOp nbE0C34) 73).dst).p (nbE0T49 v) (renV (fK [] ((nbE0M39 v)).length) (.nl 16)), backM (nbE0M39 v) [] ((nbE0k9Mm v))) [((nbE0T52 v), (nbE0M39 v))] := EvD.stepsA (j := 1) (nbE0n45 v H)
theorem nbE0n47 (v : NbV) (H : NbH v true true 0 true false) : nbE0evD (cOp nbE0C34) (15, [78, 77, 76, 75, 72, 71, 70, 69, 68, 67, 66, 65, 64, 63, 62, 61, 60, 59, 58, 57, 56, 55, 54, 53, 52, 51, 50, 49, 48, 47, 46, 45, 44, 43, 42, 41, 40, 39, 38, 37, 36, 35, 34, 33, 32, 31, 30, 29, 28, 27, 26, 25, 24, 23, 22, 21, 20, 19, 18, 17, 16, 15, 14, 13, 12, 11, 10, 9, 8, 7, 6, 5, 4, 3, 2, 1, 0], [(78, [15]), (72, [15]), (64, [1]), (62, [1]), (60, [15]), (52, [1]), (50, [15]), (42, [1]), (40, [1]), (38, [15]), (30, [1]), (28, [1]), (26, [15]), (18, [1]), (16, [1]), (14, [15])], (nbE0T49 v), (nbE0M39 v)) [((nbE0T52 v), (nbE0M39 v))] := EvD.oneA 73 (EvE.callA (args := [.u (.p none)]) (a := []) (cc := []) 73 (nbE0k9_run v) (nbE0n46 v H))
theorem nbE0n48 (v : NbV) (H : NbH v true true 0 true false) : nbE0evD (cOp nbE0C34) (26, [65, 64, 63, 62, 61, 60, 59, 58, 57, 56, 55, 54, 53, 52, 51, 50, 49, 48, 47, 46, 45, 44, 43, 42, 41, 40, 39, 38, 37, 36, 35, 34, 33, 32, 31, 30, 29, 28, 27, 26, 25, 24, 23, 22, 21, 20, 19, 18, 17, 16, 15, 14, 13, 12, 11, 10, 9, 8, 7, 6, 5, 4, 3, 2, 1, 0], [(64, [1]), (62, [1]), (60, [15]), (52, [1]), (50, [15]), (42, [1]), (40, [1]), (38, [15]), (30, [1]), (28, [1]), (26, [15]), (18, [1]), (16, [1]), (14, [15])], (cPut (opAt (cOp nbE0C34) 65).dst).p (nbE0T48 v) (renV (fK [] ((nbE0M39 v)).length) (.i 1)), backM (nbE0M39 v) [] ((nbE0k8Mm v))) [((nbE0T52 v), (nbE0M39 v))] := EvD.stepsA (j := 11) (nbE0n47 v H)
theorem nbE0n49 (v : NbV) (H : NbH v true true 0 true false) : nbE0evD (cOp nbE0C34) (27, [64, 63, 62, 61, 60, 59, 58, 57, 56, 55, 54, 53, 52, 51, 50, 49, 48, 47, 46, 45, 44, 43, 42, 41, 40, 39, 38, 37, 36, 35, 34, 33, 32, 31, 30, 29, 28, 27, 26, 25, 24, 23, 22, 21, 20, 19, 18, 17, 16, 15, 14, 13, 12, 11, 10, 9, 8, 7, 6, 5, 4, 3, 2, 1, 0], [(64, [1]), (62, [1]), (60, [15]), (52, [1]), (50, [15]), (42, [1]), (40, [1]), (38, [15]), (30, [1]), (28, [1]), (26, [15]), (18, [1]), (16, [1]), (14, [15])], (nbE0T48 v), (nbE0M39 v)) [((nbE0T52 v), (nbE0M39 v))] := EvD.oneA 65 (EvE.callA (args := [.u (.p none), .i v.a11, .i v.a10]) (a := []) (cc := []) 65 (nbE0k8_run v) (nbE0n48 v H))
theorem nbE0n50 (v : NbV) (H : NbH v true true 0 true false) : nbE0evD (cOp nbE0C34) (38, [53, 52, 51, 50, 49, 48, 47, 46, 45, 44, 43, 42, 41, 40, 39, 38, 37, 36, 35, 34, 33, 32, 31, 30, 29, 28, 27, 26, 25, 24, 23, 22, 21, 20, 19, 18, 17, 16, 15, 14, 13, 12, 11, 10, 9, 8, 7, 6, 5, 4, 3, 2, 1, 0], [(52, [1]), (50, [15]), (42, [1]), (40, [1]), (38, [15]), (30, [1]), (28, [1]), (26, [15]), (18, [1]), (16, [1]), (14, [15])], (cPut (opAt (cOp nbE0C34) 53).dst).p (nbE0T47 v) (renV (fK [] ((nbE0M39 v)).length) (.i 1)), backM (nbE0M39 v) [] ((nbE0k7Mm v))) [((nbE0T52 v), (nbE0M39 v))] := EvD.stepsA (j := 11) (nbE0n49 v H)
theorem nbE0n51 (v : NbV) (H : NbH v true true 0 true false) : nbE0evD (cOp nbE0C34) (39, [52, 51, 50, 49, 48, 47, 46, 45, 44, 43, 42, 41, 40, 39, 38, 37, 36, 35, 34, 33, 32, 31, 30, 29, 28, 27, 26, 25, 24, 23, 22, 21, 20, 19, 18, 17, 16, 15, 14, 13, 12, 11, 10, 9, 8, 7, 6, 5, 4, 3, 2, 1, 0], [(52, [1]), (50, [15]), (42, [1]), (40, [1]), (38, [15]), (30, [1]), (28, [1]), (26, [15]), (18, [1]), (16, [1]), (14, [15])], (nbE0T47 v), (nbE0M39 v)) [((nbE0T52 v), (nbE0M39 v))] := EvD.oneA 53 (EvE.callA (args := [.u (.p none), .i v.a10]) (a := []) (cc := []) 53 (nbE0k7_run v) (nbE0n50 v H))
theorem nbE0n52 (v : NbV) (H : NbH v true true 0 true false) : nbE0evD (cOp nbE0C34) (48, [43, 42, 41, 40, 39, 38, 37, 36, 35, 34, 33, 32, 31, 30, 29, 28, 27, 26, 25, 24, 23, 22, 21, 20, 19, 18, 17, 16, 15, 14, 13, 12, 11, 10, 9, 8, 7, 6, 5, 4, 3, 2, 1, 0], [(42, [1]), (40, [1]), (38, [15]), (30, [1]), (28, [1]), (26, [15]), (18, [1]), (16, [1]), (14, [15])], (cPut (opAt (cOp nbE0C34) 43).dst).p (nbE0T46 v) (renV (fK [] ((nbE0M39 v)).length) (.i 1)), backM (nbE0M39 v) [] ((nbE0k6Mm v))) [((nbE0T52 v), (nbE0M39 v))] := EvD.stepsA (j := 9) (nbE0n51 v H)
theorem nbE0n53 (v : NbV) (H : NbH v true true 0 true false) : nbE0evD (cOp nbE0C34) (49, [42, 41, 40, 39, 38, 37, 36, 35, 34, 33, 32, 31, 30, 29, 28, 27, 26, 25, 24, 23, 22, 21, 20, 19, 18, 17, 16, 15, 14, 13, 12, 11, 10, 9, 8, 7, 6, 5, 4, 3, 2, 1, 0], [(42, [1]), (40, [1]), (38, [15]), (30, [1]), (28, [1]), (26, [15]), (18, [1]), (16, [1]), (14, [15])], (nbE0T46 v), (nbE0M39 v)) [((nbE0T52 v), (nbE0M39 v))] := EvD.oneA 43 (EvE.callA (args := [.u (.p none), .i v.a11, .i v.a10]) (a := []) (cc := []) 43 (nbE0k6_run v) (nbE0n52 v H))
theorem nbE0n54 (v : NbV) (H : NbH v true true 0 true false) : nbE0evD (cOp nbE0C34) (60, [31, 30, 29, 28, 27, 26, 25, 24, 23, 22, 21, 20, 19, 18, 17, 16, 15, 14, 13, 12, 11, 10, 9, 8, 7, 6, 5, 4, 3, 2, 1, 0], [(30, [1]), (28, [1]), (26, [15]), (18, [1]), (16, [1]), (14, [15])], (cPut (opAt (cOp nbE0C34) 31).dst).p (nbE0T45 v) (renV (fK [] ((nbE0M39 v)).length) (.i 1)), backM (nbE0M39 v) [] ((nbE0k5Mm v))) [((nbE0T52 v), (nbE0M39 v))] := EvD.stepsA (j := 11) (nbE0n53 v H)
theorem nbE0n55 (v : NbV) (H : NbH v true true 0 true false) : nbE0evD (cOp nbE0C34) (61, [30, 29, 28, 27, 26, 25, 24, 23, 22, 21, 20, 19, 18, 17, 16, 15, 14, 13, 12, 11, 10, 9, 8, 7, 6, 5, 4, 3, 2, 1, 0], [(30, [1]), (28, [1]), (26, [15]), (18, [1]), (16, [1]), (14, [15])], (nbE0T45 v), (nbE0M39 v)) [((nbE0T52 v), (nbE0M39 v))] := EvD.oneA 31 (EvE.callA (args := [.u (.p none), .i v.a11, .i v.a10]) (a := []) (cc := []) 31 (nbE0k5_run v) (nbE0n54 v H))
theorem nbE0n56 (v : NbV) (H : NbH v true true 0 true false) : nbE0evD (cOp nbE0C34) (72, [19, 18, 17, 16, 15, 14, 13, 12, 11, 10, 9, 8, 7, 6, 5, 4, 3, 2, 1, 0], [(18, [1]), (16, [1]), (14, [15])], (cPut (opAt (cOp nbE0C34) 19).dst).p (nbE0T44 v) (renV (fK [] ((nbE0M39 v)).length) (.i 1)), backM (nbE0M39 v) [] ((nbE0k4Mm v))) [((nbE0T52 v), (nbE0M39 v))] := EvD.stepsA (j := 11) (nbE0n55 v H)
theorem nbE0n57 (v : NbV) (H : NbH v true true 0 true false) : nbE0evD (cOp nbE0C34) (73, [18, 17, 16, 15, 14, 13, 12, 11, 10, 9, 8, 7, 6, 5, 4, 3, 2, 1, 0], [(18, [1]), (16, [1]), (14, [15])], (nbE0T44 v), (nbE0M39 v)) [((nbE0T52 v), (nbE0M39 v))] := EvD.oneA 19 (EvE.callA (args := [.u (.p none), .i v.a11, .i v.a10]) (a := []) (cc := []) 19 (nbE0k4_run v) (nbE0n56 v H))
def nbE0T53 (v : NbV) : Fr := puF (nbE0T49 v) [(181, .nl 16), (182, .i 0), (187, .nl 2), (188, .i 0), (189, .i 0), (190, .u (.b false)), (191, .u (.b false)), (192, .u (.b false)), (193, .sl 15 0 2), (194, .i 0), (195, .r 15 0), (196, .u (.p none)), (197, .u (.p none)), (198, .u (.b false)), (199, .u (.b false))]
def nbE0T54 (v : NbV) : Fr := puF (nbE0T49 v) [(181, .nl 16), (182, .i 0), (187, .nl 2), (188, .i 0), (189, .i 0), (190, .u (.b false)), (191, .u (.b false)), (192, .u (.b false)), (193, .sl 15 0 2), (194, .i 0), (195, .r 15 0), (196, .u (.p none)), (197, .u (.p none)), (198, .u (.b false)), (199, .u (.b false))]
def nbE0T55 (v : NbV) : Fr := puF (nbE0T49 v) [(12, .i 1), (84, .i 0), (85, .i 1), (181, .nl 16), (182, .i 0), (187, .nl 2), (188, .i 0), (189, .i 0), (190, .u (.b false)), (191, .u (.b false)), (192, .u (.b false)), (193, .sl 15 0 2), (194, .i 0), (195, .r 15 0), (196, .u (.p none)), (197, .u (.p none)), (198, .u (.b false)), (199, .u (.b false))]
theorem nbE0n67 (v : NbV) (H : NbH v true true 0 true false) : nbE0ev nbE0C26 (nbE0T32 v) (nbE0M31 v) [(.nrm, (nbE0T55 v), (nbE0M39 v))] := Ev.piecesA (k := 1) (t1 := nbE0T33 v) (m1 := nbE0M31 v) (Ev.seqPA (t1 := nbE0T54 v) (m1 := nbE0M39 v) (Ev.blockP (e := .nrm) (by kernel_rfl) (by kernel_rfl) (Ev.seqPA (t1 := nbE0T36 v) (m1 := nbE0M31 v) (Ev.regD2 (outs := [((nbE0T35 v), (nbE0M31 v))]) (by kernel_rfl) (by kernel_rfl) (by kernel_rfl) (EvD.stepsA (j := 8) (nbE0n27 v H)) ⟨by kernel_rfl, trivial⟩) (Ev.seqPA (t1 := nbE0T43 v) (m1 := nbE0M39 v) (Ev.regD2 (outs := [((nbE0T38 v), (nbE0M39 v)), ((nbE0T42 v), (nbE0M39 v))]) (by kernel_rfl) (by kernel_rfl) (by kernel_rfl) (EvD.stepsA (j := 6) (nbE0n38 v H)) ⟨by kernel_rfl, by kernel_rfl, trivial⟩) (Ev.seqPA (t1 := nbE0T53 v) (m1 := nbE0M39 v) (Ev.regD2 (outs := [((nbE0T52 v), (nbE0M39 v))]) (by kernel_rfl) (by kernel_rfl) (by kernel_rfl) (EvD.stepsA (j := 19) (nbE0n57 v H)) ⟨by kernel_rfl, trivial⟩) Ev.codeA)))) Ev.codeA)
def nbE0T56 (v : NbV) : Fr := puF (nbE0T49 v) [(12, .i 1), (80, .i 1), (84, .i 0), (85, .i 1), (181, .nl 16), (182, .i 0), (187, .nl 2), (188, .i 0), (189, .i 0), (190, .u (.b false)), (191, .u (.b false)), (192, .u (.b false)), (193, .sl 15 0 2), (194, .i 0), (195, .r 15 0), (196, .u (.p none)), (197, .u (.p none)), (198, .u (.b false)), (199, .u (.b false))]
def nbE0T57 (v : NbV) : Fr := puF (nbE0T49 v) [(12, .i 1), (80, .i 1), (84, .i 0), (85, .i 1), (88, .i 1), (89, .r 15 1), (90, .r 14 0), (181, .nl 16), (182, .i 0), (187, .nl 2), (188, .i 0), (189, .i 0), (190, .u (.b false)), (191, .u (.b false)), (192, .u (.b false)), (193, .sl 15 0 2), (194, .i 0), (195, .r 15 0), (196, .u (.p none)), (197, .u (.p none)), (198, .u (.b false)), (199, .u (.b false))]
def nbE0k12M0 (v : NbV) : Mem := [.c [.i 0, .nl 7, .i 0, .nl 4, .i 0, .i 0, .i 0, .i 0, .u (.p none), .u (.p none), .u (.p none), .u (.p none), .u (.p none), .u (.p none), .nl 16]]
def nbE0k12T1 (v : NbV) : Fr := puF (nbE0k2T1 v) [(0, .r 0 0), (5, .r 1 0), (11, .r 0 0)]
def nbE0k12M2 (v : NbV) : Mem := paM (nbE0k12M0 v) [] [.c [.i v.a12, .i v.a13, .i v.a14, .i v.a15, .i v.a16, .i v.a17, .i v.a18, .i v.a19]]
abbrev nbE0k12Mm (v : NbV) : Mem := (nbE0k12M0 v)
theorem nbE0k12_run (v : NbV) : PRun Tryz.prog 9 (nbE0k12M0 v) [.r 0 0, .i v.a11, .a [.i v.a12, .i v.a13, .i v.a14, .i v.a15, .i v.a16, .i v.a17, .i v.a18, .i v.a19]] fun x m => x = .t [.i 0, .i 1] ∧ m = (nbE0k12Mm v) := Ev.runA (speWhole whp) Tryz.func9 (c := (bodyOf Tryz.f9)) (r := (.ret, (nbE0k12T1 v), (nbE0k12M2 v))) Ev.codeA
def nbE0T58 (v : NbV) : Fr := puF (nbE0T49 v) [(12, .i 1), (80, .i 1), (84, .i 0), (85, .i 1), (88, .i 1), (89, .r 15 1), (90, .r 14 0), (181, .nl 16), (182, .i 0), (187, .nl 2), (188, .i 0), (189, .i 0), (190, .u (.b false)), (191, .u (.b false)), (192, .u (.b false)), (193, .sl 15 0 2), (194, .i 0), (195, .r 15 0), (196, .u (.p none)), (197, .u (.p none)), (198, .u (.b false)), (199, .u (.b false))]
theorem nbE0n68 (v : NbV) (H : NbH v true true 0 true false) : nbE0evD (cOp nbE0C30) (0, [13, 12, 11, 10, 9, 8, 7, 6, 5, 4, 3, 2, 1, 0], [(7, [1]), (5, [1]), (3, [15])], (nbE0T58 v), (nbE0M39 v)) [((nbE0T58 v), (nbE0M39 v))] := EvD.codeA
theorem nbE0n69 (v : NbV) (H : NbH v true true 0 true false) : nbE0evD (cOp nbE0C30) (5, [8, 7, 6, 5, 4, 3, 2, 1, 0], [(7, [1]), (5, [1]), (3, [15])], (cPut (opAt (cOp nbE0C30) 8).dst).p (nbE0T57 v) (renV (fK [14] ((nbE0M39 v)).length) (.t [.i 0, .i 1])), backM (nbE0M39 v) [14] ((nbE0k12Mm v))) [((nbE0T58 v), (nbE0M39 v))] := EvD.stepsA (j := 5) (nbE0n68 v H)
theorem nbE0n70 (v : NbV) (H : NbH v true true 0 true false) : nbE0evD (cOp nbE0C30) (6, [7, 6, 5, 4, 3, 2, 1, 0], [(7, [1]), (5, [1]), (3, [15])], (nbE0T57 v), (nbE0M39 v)) [((nbE0T58 v), (nbE0M39 v))] := EvD.oneA 8 (EvE.callA (args := [.r 14 0, .i v.a11, .a [.i v.a12, .i v.a13, .i v.a14, .i v.a15, .i v.a16, .i v.a17, .i v.a18, .i v.a19]]) (a := []) (cc := []) 8 (nbE0k12_run v) (nbE0n69 v H))
def nbE0T59 (v : NbV) : Fr := puF (nbE0T49 v) [(12, .i 1), (80, .i 1), (84, .i 0), (85, .i 1), (88, .i 1), (89, .r 15 1), (90, .r 14 0), (181, .nl 16), (182, .i 0), (187, .nl 2), (188, .i 0), (189, .i 0), (190, .u (.b false)), (191, .u (.b false)), (192, .u (.b false)), (193, .sl 15 0 2), (194, .i 0), (195, .r 15 0), (196, .u (.p none)), (197, .u (.p none)), (198, .u (.b false)), (199, .u (.b false))]
def nbE0T60 (v : NbV) : Fr := puF (nbE0T49 v) [(12, .i 1), (80, .i 1), (84, .i 0), (85, .i 1), (88, .i 1), (89, .r 15 1), (90, .r 14 0), (100, .i 1), (101, .r 15 1), (102, .r 14 0), (181, .nl 16), (182, .i 0), (187, .nl 2), (188, .i 0), (189, .i 0), (190, .u (.b false)), (191, .u (.b false)), (192, .u (.b false)), (193, .sl 15 0 2), (194, .i 0), (195, .r 15 0), (196, .u (.p none)), (197, .u (.p none)), (198, .u (.b false)), (199, .u (.b false))]
def nbE0k13M0 (v : NbV) : Mem := [.c [.i 0, .nl 7, .i 0, .nl 4, .i 0, .i 0, .i 0, .i 0, .u (.p none), .u (.p none), .u (.p none), .u (.p none), .u (.p none), .u (.p none), .nl 16]]
def nbE0k13T1 (v : NbV) : Fr := puF (nbE0k3T1 v) [(0, .r 0 0), (4, .r 1 0), (8, .r 0 0)]
def nbE0k13M2 (v : NbV) : Mem := paM (nbE0k13M0 v) [] [.c [.i 0, .i 0, .i 0, .i 0, .i 0, .i 0, .i 0, .i 0, .i 0, .i 0, .i 0, .nl 2, .i 0, .i 0, .i 0, .i 0]]
abbrev nbE0k13Mm (v : NbV) : Mem := (nbE0k13M0 v)
theorem nbE0k13_run (v : NbV) : PRun Tryz.prog 10 (nbE0k13M0 v) [.r 0 0, .i v.a10] fun x m => x = .t [.a [.i 0, .i 0, .i 0, .i 0, .i 0, .i 0, .i 0, .i 0, .i 0, .i 0, .i 0, .nl 2, .i 0, .i 0, .i 0, .i 0], .i 1] ∧ m = (nbE0k13Mm v) := Ev.runA (speWhole whp) Tryz.func10 (c := (bodyOf Tryz.f10)) (r := (.ret, (nbE0k13T1 v), (nbE0k13M2 v))) Ev.codeA
def nbE0T61 (v : NbV) : Fr := puF (nbE0T49 v) [(12, .i 1), (15, .r 17 0), (80, .i 1), (84, .i 0), (85, .i 1), (88, .i 1), (89, .r 15 1), (90, .r 14 0), (100, .i 1), (101, .r 15 1), (102, .r 14 0), (181, .nl 16), (182, .i 0), (187, .nl 2), (188, .i 0), (189, .i 0), (190, .u (.b false)), (191, .u (.b false)), (192, .u (.b false)), (193, .sl 15 0 2), (194, .i 0), (195, .r 15 0), (196, .u (.p none)), (197, .u (.p none)), (198, .u (.b false)), (199, .u (.b false))]
def nbE0M62 (v : NbV) : Mem := paM (nbE0M31 v) [] [.c [.i 0, .i 0, .i 0, .i 0, .i 0, .i 0, .i 0, .i 0, .i 0, .i 0, .i 0, .nl 2, .i 0, .i 0, .i 0, .i 0],
  .c [.i 0, .i 0, .i 0, .i 0, .i 0, .i 0, .i 0, .i 0, .i 0, .i 0, .i 0, .nl 2, .i 0, .i 0, .i 0, .i 0]]
theorem nbE0n73 (v : NbV) (H : NbH v true true 0 true false) : nbE0evD (cOp nbE0C32) (0, [12, 11, 10, 9, 8, 7, 6, 5, 4, 3, 2, 1, 0], [(5, [1]), (3, [15])], (nbE0T61 v), (nbE0M62 v)) [((nbE0T61 v), (nbE0M62 v))] := EvD.codeA
theorem nbE0n74 (v : NbV) (H : NbH v true true 0 true false) : nbE0evD (cOp nbE0C32) (6, [6, 5, 4, 3, 2, 1, 0], [(5, [1]), (3, [15])], (cPut (opAt (cOp nbE0C32) 6).dst).p (nbE0T60 v) (renV (fK [14] ((nbE0M39 v)).length) (.t [.a [.i 0, .i 0, .i 0, .i 0, .i 0, .i 0, .i 0, .i 0, .i 0, .i 0, .i 0, .nl 2, .i 0, .i 0, .i 0, .i 0], .i 1])), backM (nbE0M39 v) [14] ((nbE0k13Mm v))) [((nbE0T61 v), (nbE0M62 v))] := EvD.stepsA (j := 6) (nbE0n73 v H)
theorem nbE0n75 (v : NbV) (H : NbH v true true 0 true false) : nbE0evE (cOp nbE0C32) 6 6 [5, 4, 3, 2, 1, 0] [(5, [1]), (3, [15])] (nbE0T60 v) (nbE0M39 v) [((nbE0T61 v), (nbE0M62 v))] := EvE.callA (args := [.r 14 0, .i v.a10]) (a := []) (cc := []) 6 (nbE0k13_run v) (nbE0n74 v H)
def nbE0T63 (v : NbV) : Fr := puF (nbE0T49 v) [(12, .i 1), (15, .r 17 0), (80, .i 1), (84, .i 0), (85, .i 1), (88, .i 1), (89, .r 15 1), (90, .r 14 0), (100, .i 1), (101, .r 15 1), (102, .r 14 0), (181, .nl 16), (182, .i 0), (187, .nl 2), (188, .i 0), (189, .i 0), (190, .u (.b false)), (191, .u (.b false)), (192, .u (.b false)), (193, .sl 15 0 2), (194, .i 0), (195, .r 15 0), (196, .u (.p none)), (197, .u (.p none)), (198, .u (.b false)), (199, .u (.b false))]
def nbE0T64 (v : NbV) : Fr := puF (nbE0T49 v) [(12, .i 1), (15, .r 17 0), (80, .i 1), (84, .i 0), (85, .i 1), (88, .i 1), (89, .r 15 1), (90, .r 14 0), (100, .i 1), (101, .r 15 1), (102, .r 14 0), (181, .nl 16), (182, .i 0), (187, .nl 2), (188, .i 0), (189, .i 0), (190, .u (.b false)), (191, .u (.b false)), (192, .u (.b false)), (193, .sl 15 0 2), (194, .i 0), (195, .r 15 0), (196, .u (.p none)), (197, .u (.p none)), (198, .u (.b false)), (199, .u (.b false))]
def nbE0T65 (v : NbV) : Fr := Fr.mk [.a [.i v.c1, .u (.l 7 v.c2), .i v.c3, .u (.l 4 v.c4), .i v.c5, .i v.c6, .i v.c7, .i v.c8], .a [.i v.a9, .i v.a10, .i v.a11, .i v.a12, .i v.a13, .i v.a14, .i v.a15, .i v.a16, .i v.a17, .i v.a18, .i v.a19], .r 0 0, .r 1 0, .u (.b false), .r 2 0, .i 0, .r 7 0, .i 0, .u (.p none), .i 1, .sl 15 0 2, .i 1, .i 0, .i 1, .r 17 0, .i 1, .a [.i v.c1, .u (.l 7 v.c2), .i v.c3, .u (.l 4 v.c4), .i v.c5, .i v.c6, .i v.c7, .i v.c8], .u (.b true), .u (.b false), .z, .t [.r 2 0, .i 0], .t [.r 2 0, .i 0], .r 2 0, .i 0, .t [.r 7 0, .i 0], .a [.i v.c1, .u (.l 7 v.c2), .i v.c3, .u (.l 4 v.c4), .i v.c5, .i v.c6, .i v.c7, .i v.c8], .a [.nl 5, .i 0], .r 4 0, .a [.nl 5, .n .i64 33 [0, 0, 0, 0, 0, 0, 0, 0, 0, 0, 0, 0, 0, 0, 0, 0, 0, 0, 0, 0, 0, 0, 0, 0, 0, 0, 0, 0, 0, 0, 0, 0, 0]], .r 5 0, .r 2 0, .a [.nl 4, .nm], .r 6 0, .t [.r 7 0, .i 0], .r 7 0, .i 0, .i 0, .u (.b false), .u (.b false), .i 0, .a [.i v.c1, .u (.l 7 v.c2), .i v.c3, .u (.l 4 v.c4), .i v.c5, .i v.c6, .i v.c7, .i v.c8], .i 0, .u (.b false), .u (.b false), .u (.b false), .r 7 0, .u (.b true), .i 0, .u (.b true), .u (.b false), .u (.b false), .t [.u (.p none), .i 1], .a [.i v.c1, .u (.l 7 v.c2), .i v.c3, .u (.l 4 v.c4), .i v.c5, .i v.c6, .i v.c7, .i v.c8], .a [.nl 5, .n .i64 33 [0, 0, 0, 0, 0, 0, 0, 0, 0, 0, 0, 0, 0, 0, 0, 0, 0, 0, 0, 0, 0, 0, 0, 0, 0, 0, 0, 0, 0, 0, 0, 0, 0]], .r 12 0, .r 2 0, .a [.nl 4, .nm], .r 13 0, .t [.u (.p none), .i 1], .u (.p none), .i 1, .i 0, .u (.b true), .u (.b true), .i 1, .u (.b false), .u (.b false), .u (.b false), .i 0, .u (.b false), .u (.b false), .t [], .t [], .t [], .u (.b false), .u (.b false), .a [.i 0, .nl 7, .i 0, .nl 4, .i 0, .i 0, .i 0, .i 0, .u (.p none), .u (.p none), .u (.p none), .u (.p none), .u (.p none), .u (.p none), .nl 16], .r 14 0, .sl 15 0 2, .i 1, .sl 15 0 2, .i 2, .u (.b true), .i 0, .i 1, .t [.i 0, .i 1], .sl 15 0 2, .i 1, .r 15 1, .r 14 0, .r 1 2, .i v.a11, .r 1 3, .a [.i v.a12, .i v.a13, .i v.a14, .i v.a15, .i v.a16, .i v.a17, .i v.a18, .i v.a19], .t [.i 0, .i 1], .i 0, .i 1, .t [.a [.i 0, .i 0, .i 0, .i 0, .i 0, .i 0, .i 0, .i 0, .i 0, .i 0, .i 0, .nl 2, .i 0, .i 0, .i 0, .i 0], .i 1], .sl 15 0 2, .i 1, .r 15 1, .r 14 0, .r 1 1, .i v.a10, .t [.a [.i 0, .i 0, .i 0, .i 0, .i 0, .i 0, .i 0, .i 0, .i 0, .i 0, .i 0, .nl 2, .i 0, .i 0, .i 0, .i 0], .i 1], .a [.i 0, .i 0, .i 0, .i 0, .i 0, .i 0, .i 0, .i 0, .i 0, .i 0, .i 0, .nl 2, .i 0, .i 0, .i 0, .i 0], .i 1, .i 0, .u (.b false), .u (.b false), .i 1, .u (.b false), .u (.b false), .u (.b false), .i 1, .u (.b false), .u (.b false), .u (.b false), .sl 15 0 2, .i 0, .r 15 0, .u (.p none), .r 1 2, .i v.a11, .r 1 1, .i v.a10, .i 1, .u (.b false), .u (.b false), .u (.b false), .sl 15 0 2, .i 0, .r 15 0, .u (.p none), .r 1 2, .i v.a11, .r 1 1, .i v.a10, .i 1, .u (.b false), .u (.b false), .u (.b false), .sl 15 0 2, .i 0, .r 15 0, .u (.p none), .r 1 2, .i v.a11, .r 1 1, .i v.a10, .i 1, .u (.b false), .u (.b false), .u (.b false), .sl 15 0 2, .i 0, .r 15 0, .u (.p none), .r 1 1, .i v.a10, .i 1, .u (.b false), .u (.b false), .u (.b false), .sl 15 0 2, .i 0, .r 15 0, .u (.p none), .r 1 2, .i v.a11, .r 1 1, .i v.a10, .i 1, .u (.b false), .u (.b false), .u (.b false), .sl 15 0 2, .i 0, .r 15 0, .u (.p none), .nl 16, .i 0, .sl 15 0 2, .i 0, .r 15 0, .u (.p none), .nl 2, .i 0, .i 0, .u (.b false), .u (.b false), .u (.b false), .sl 15 0 2, .i 0, .r 15 0, .u (.p none), .u (.p none), .u (.b false), .u (.b false)] 1 201
theorem nbE0n76 (v : NbV) (H : NbH v true true 0 true false) : nbE0evD (cOp nbE0C32) (0, [12, 11, 9, 8, 7, 6, 10, 5, 4, 3, 2, 1, 0], [(5, [1]), (3, [15])], (nbE0T65 v), (nbE0M62 v)) [((nbE0T65 v), (nbE0M62 v))] := EvD.codeA
theorem nbE0n77 (v : NbV) (H : NbH v true true 0 true false) : nbE0evD (cOp nbE0C32) (5, [6, 10, 5, 4, 3, 2, 1, 0], [(5, [1]), (3, [15])], (cPut (opAt (cOp nbE0C32) 6).dst).p (nbE0T64 v) (renV (fK [14] ((nbE0M62 v)).length) (.t [.a [.i 0, .i 0, .i 0, .i 0, .i 0, .i 0, .i 0, .i 0, .i 0, .i 0, .i 0, .nl 2, .i 0, .i 0, .i 0, .i 0], .i 1])), backM (nbE0M62 v) [14] ((nbE0k13Mm v))) [((nbE0T65 v), (nbE0M62 v))] := EvD.stepsA (j := 5) (nbE0n76 v H)
theorem nbE0n78 (v : NbV) (H : NbH v true true 0 true false) : nbE0evD (cOp nbE0C32) (6, [10, 5, 4, 3, 2, 1, 0], [(5, [1]), (3, [15])], (nbE0T64 v), (nbE0M62 v)) [((nbE0T65 v), (nbE0M62 v))] := EvD.oneA 6 (EvE.callA (args := [.r 14 0, .i v.a10]) (a := []) (cc := []) 6 (nbE0k13_run v) (nbE0n77 v H))
theorem nbE0n79 (v : NbV) (H : NbH v true true 0 true false) : nbE0evD (cOp nbE0C32) (6, [10, 5, 4, 3, 2, 1, 0], [(5, [1]), (3, [15])], (nbE0T63 v), (nbE0M62 v)) [((nbE0T65 v), (nbE0M62 v))] := EvD.stepsA (j := 0) (nbE0n78 v H)
theorem nbE0n80 (v : NbV) (H : NbH v true true 0 true false) : nbE0evE (cOp nbE0C32) 10 6 [5, 4, 3, 2, 1, 0] [(5, [1]), (3, [15])] (nbE0T60 v) (nbE0M39 v) [((nbE0T65 v), (nbE0M62 v))] := EvE.step (by kernel_rfl) (nbE0n79 v H)
theorem nbE0n81 (v : NbV) (H : NbH v true true 0 true false) : nbE0evD (cOp nbE0C32) (7, [5, 4, 3, 2, 1, 0], [(5, [1]), (3, [15])], (nbE0T60 v), (nbE0M39 v)) [((nbE0T61 v), (nbE0M62 v)), ((nbE0T65 v), (nbE0M62 v))] := EvD.two (o1 := [((nbE0T61 v), (nbE0M62 v))]) (o2 := [((nbE0T65 v), (nbE0M62 v))]) 6 10 (by kernel_rfl) (by kernel_rfl) (nbE0n75 v H) (nbE0n80 v H)
def nbE0T67 (v : NbV) : Fr := puF (nbE0T65 v) [(120, .i 1), (121, .r 15 1), (122, .r 14 0)]
def nbE0k14M0 (v : NbV) : Mem := [.c [.i 0, .nl 7, .i 0, .nl 4, .i 0, .i 0, .i 0, .i 0, .u (.p none), .u (.p none), .u (.p none), .u (.p none), .u (.p none), .u (.p none), .nl 16]]
def nbE0k14T1 (v : NbV) : Fr := puF (nbE0k4T1 v) [(0, .r 0 0), (4, .r 1 0), (7, .r 2 0), (10, .r 0 0), (12, .f 43 [] [.r 1 0])]
def nbE0k14M2 (v : NbV) : Mem := [.c [.i 0, .nl 7, .i 0, .nl 4, .i 0, .i 0, .i 0, .i 0, .u (.p none), .u (.p none), .u (.p none), .u (.p none), .u (.p none), .u (.p none), .nl 16],
  .c [.i v.a11],
  .c [.i 0, .i 0, .i 0, .i 0, .i 0, .i 0, .i 0, .i 0, .i 0, .i 0, .i 0, .nl 2, .i 0, .i 0, .i 0, .i 0]]
abbrev nbE0k14Mm (v : NbV) : Mem := (nbE0k14M0 v)
theorem nbE0k14_run (v : NbV) : PRun Tryz.prog 11 (nbE0k14M0 v) [.r 0 0, .i v.a11, .i v.a10] fun x m => x = .i 1 ∧ m = (nbE0k14Mm v) := Ev.runA (speWhole whp) Tryz.func11 (c := (bodyOf Tryz.f11)) (r := (.ret, (nbE0k14T1 v), (nbE0k14M2 v))) Ev.codeA
def nbE0T68 (v : NbV) : Fr := puF (nbE0T67 v) [(132, .i 1), (133, .r 15 1), (134, .r 14 0)]
def nbE0k15M0 (v : NbV) : Mem := [.c [.i 0, .nl 7, .i 0, .nl 4, .i 0, .i 0, .i 0, .i 0, .u (.p none), .u (.p none), .u (.p none), .u (.p none), .u (.p none), .u (.p none), .nl 16]]
def nbE0k15T1 (v : NbV) : Fr := puF (nbE0k5T1 v) [(0, .r 0 0), (7, .r 1 0), (10, .r 0 0)]
def nbE0k15M2 (v : NbV) : Mem := paM (nbE0k15M0 v) [] [.c [.i 0, .i 0, .i 0, .i 0, .i 0, .i 0, .i 0, .i 0, .i 0, .i 0, .i 0, .nl 2, .i 0, .i 0, .i 0, .i 0]]
abbrev nbE0k15Mm (v : NbV) : Mem := (nbE0k15M0 v)
theorem nbE0k15_run (v : NbV) : PRun Tryz.prog 12 (nbE0k15M0 v) [.r 0 0, .i v.a11, .i v.a10] fun x m => x = .i 1 ∧ m = (nbE0k15Mm v) := Ev.runA (speWhole whp) Tryz.func12 (c := (bodyOf Tryz.f12)) (r := (.ret, (nbE0k15T1 v), (nbE0k15M2 v))) Ev.codeA
def nbE0T69 (v : NbV) : Fr := puF (nbE0T68 v) [(144, .i 1), (145, .r 15 1), (146, .r 14 0)]
def nbE0k16M0 (v : NbV) : Mem := [.c [.i 0, .nl 7, .i 0, .nl 4, .i 0, .i 0, .i 0, .i 0, .u (.p none), .u (.p none), .u (.p none), .u (.p none), .u (.p none), .u (.p none), .nl 16]]
def nbE0k16T1 (v : NbV) : Fr := puF (nbE0k6T1 v) [(0, .r 0 0), (4, .r 1 0), (7, .r 2 0), (11, .r 0 0), (13, .f 50 [] [.r 1 0])]
def nbE0k16M2 (v : NbV) : Mem := [.c [.i 0, .nl 7, .i 0, .nl 4, .i 0, .i 0, .i 0, .i 0, .u (.p none), .u (.p none), .u (.p none), .u (.p none), .u (.p none), .u (.p none), .nl 16],
  .c [.i v.a11],
  .c [.i 0, .i 0, .i 0, .i 0, .i 0, .i 0, .i 0, .i 0, .i 0, .i 0, .i 0, .nl 2, .i 0, .i 0, .i 0, .i 0]]
abbrev nbE0k16Mm (v : NbV) : Mem := (nbE0k16M0 v)
theorem nbE0k16_run (v : NbV) : PRun Tryz.prog 13 (nbE0k16M0 v) [.r 0 0, .i v.a11, .i v.a10] fun x m => x = .i 1 ∧ m = (nbE0k16Mm v) := Ev.runA (speWhole whp) Tryz.func13 (c := (bodyOf Tryz.f13)) (r := (.ret, (nbE0k16T1 v), (nbE0k16M2 v))) Ev.codeA
def nbE0T70 (v : NbV) : Fr := puF (nbE0T69 v) [(156, .i 1), (157, .r 15 1), (158, .r 14 0)]
def nbE0k17M0 (v : NbV) : Mem := [.c [.i 0, .nl 7, .i 0, .nl 4, .i 0, .i 0, .i 0, .i 0, .u (.p none), .u (.p none), .u (.p none), .u (.p none), .u (.p none), .u (.p none), .nl 16]]
def nbE0k17T1 (v : NbV) : Fr := puF (nbE0k7T1 v) [(0, .r 0 0), (5, .r 1 0), (8, .r 0 0)]
def nbE0k17M2 (v : NbV) : Mem := paM (nbE0k17M0 v) [] [.c [.i 0, .i 0, .i 0, .i 0, .i 0, .i 0, .i 0, .i 0, .i 0, .i 0, .i 0, .nl 2, .i 0, .i 0, .i 0, .i 0]]
abbrev nbE0k17Mm (v : NbV) : Mem := (nbE0k17M0 v)
theorem nbE0k17_run (v : NbV) : PRun Tryz.prog 14 (nbE0k17M0 v) [.r 0 0, .i v.a10] fun x m => x = .i 1 ∧ m = (nbE0k17Mm v) := Ev.runA (speWhole whp) Tryz.func14 (c := (bodyOf Tryz.f14)) (r := (.ret, (nbE0k17T1 v), (nbE0k17M2 v))) Ev.codeA
def nbE0T71 (v : NbV) : Fr := puF (nbE0T70 v) [(166, .i 1), (167, .r 15 1), (168, .r 14 0)]
def nbE0k18M0 (v : NbV) : Mem := [.c [.i 0, .nl 7, .i 0, .nl 4, .i 0, .i 0, .i 0, .i 0, .u (.p none), .u (.p none), .u (.p none), .u (.p none), .u (.p none), .u (.p none), .nl 16]]
def nbE0k18T1 (v : NbV) : Fr := puF (nbE0k8T1 v) [(0, .r 0 0), (4, .r 1 0), (7, .r 2 0), (10, .r 0 0), (12, .f 57 [] [.r 1 0])]
def nbE0k18M2 (v : NbV) : Mem := [.c [.i 0, .nl 7, .i 0, .nl 4, .i 0, .i 0, .i 0, .i 0, .u (.p none), .u (.p none), .u (.p none), .u (.p none), .u (.p none), .u (.p none), .nl 16],
  .c [.i v.a11],
  .c [.i 0, .i 0, .i 0, .i 0, .i 0, .i 0, .i 0, .i 0, .i 0, .i 0, .i 0, .nl 2, .i 0, .i 0, .i 0, .i 0]]
abbrev nbE0k18Mm (v : NbV) : Mem := (nbE0k18M0 v)
theorem nbE0k18_run (v : NbV) : PRun Tryz.prog 15 (nbE0k18M0 v) [.r 0 0, .i v.a11, .i v.a10] fun x m => x = .i 1 ∧ m = (nbE0k18Mm v) := Ev.runA (speWhole whp) Tryz.func15 (c := (bodyOf Tryz.f15)) (r := (.ret, (nbE0k18T1 v), (nbE0k18M2 v))) Ev.codeA
def nbE0T72 (v : NbV) : Fr := puF (nbE0T71 v) [(178, .i 1), (179, .r 15 1), (180, .r 14 0), (184, .i 1), (185, .r 15 1), (186, .r 14 0)]
def nbE0k19M0 (v : NbV) : Mem := [.c [.i 0, .nl 7, .i 0, .nl 4, .i 0, .i 0, .i 0, .i 0, .u (.p none), .u (.p none), .u (.p none), .u (.p none), .u (.p none), .u (.p none), .nl 16]]
def nbE0k19T1 (v : NbV) : Fr := Fr.mk [.r 0 0, .z, .nl 0, .z, .z, .z, .z, .r 0 0, .u (.b false), .u (.b true)] 21 31
abbrev nbE0k19Mm (v : NbV) : Mem := (nbE0k19M0 v)
theorem nbE0k19_run (v : NbV) : PRun Tryz.prog 16 (nbE0k19M0 v) [.r 0 0] fun x m => x = .nl 16 ∧ m = (nbE0k19Mm v) := Ev.runA (speWhole whp) Tryz.func16 (c := (bodyOf Tryz.f16)) (r := (.ret, (nbE0k19T1 v), (nbE0k19M0 v))) Ev.codeA
def nbE0T73 (v : NbV) : Fr := puF (nbE0T71 v) [(178, .i 1), (179, .r 15 1), (180, .r 14 0), (184, .i 1), (185, .r 15 1), (186, .r 14 0)]
def nbE0k20M0 (v : NbV) : Mem := [.c [.i 0, .nl 7, .i 0, .nl 4, .i 0, .i 0, .i 0, .i 0, .u (.p none), .u (.p none), .u (.p none), .u (.p none), .u (.p none), .u (.p none), .nl 16]]
def nbE0k20T1 (v : NbV) : Fr := Fr.mk [.r 0 0, .z, .nl 0, .r 0 0, .u (.b false), .u (.b true)] 5 11
abbrev nbE0k20Mm (v : NbV) : Mem := (nbE0k20M0 v)
theorem nbE0k20_run (v : NbV) : PRun Tryz.prog 17 (nbE0k20M0 v) [.r 0 0] fun x m => x = .nl 2 ∧ m = (nbE0k20Mm v) := Ev.runA (speWhole whp) Tryz.func17 (c := (bodyOf Tryz.f17)) (r := (.ret, (nbE0k20T1 v), (nbE0k20M0 v))) Ev.codeA
def nbE0T74 (v : NbV) : Fr := puF (nbE0T71 v) [(178, .i 1), (179, .r 15 1), (180, .r 14 0), (184, .i 1), (185, .r 15 1), (186, .r 14 0), (194, .i 1), (195, .r 15 1), (196, .r 14 0)]
def nbE0k21M0 (v : NbV) : Mem := [.c [.i 0, .nl 7, .i 0, .nl 4, .i 0, .i 0, .i 0, .i 0, .u (.p none), .u (.p none), .u (.p none), .u (.p none), .u (.p none), .u (.p none), .nl 16]]
def nbE0k21T1 (v : NbV) : Fr := Fr.mk [.r 0 0, .z, .u (.p none), .r 0 0, .u (.b false), .u (.b true)] 4 10
abbrev nbE0k21Mm (v : NbV) : Mem := (nbE0k21M0 v)
theorem nbE0k21_run (v : NbV) : PRun Tryz.prog 18 (nbE0k21M0 v) [.r 0 0] fun x m => x = .u (.p none) ∧ m = (nbE0k21Mm v) := Ev.runA (speWhole whp) Tryz.func18 (c := (bodyOf Tryz.f18)) (r := (.ret, (nbE0k21T1 v), (nbE0k21M0 v))) Ev.codeA
def nbE0T75 (v : NbV) : Fr := puF (nbE0T71 v) [(178, .i 1), (179, .r 15 1), (180, .r 14 0), (184, .i 1), (185, .r 15 1), (186, .r 14 0), (194, .i 1), (195, .r 15 1), (196, .r 14 0)]
theorem nbE0n84 (v : NbV) (H : NbH v true true 0 true false) : nbE0evD (cOp nbE0C34) (0, [91, 90, 89, 88, 87, 86, 85, 84, 83, 82, 81, 80, 79, 74, 73, 78, 77, 76, 75, 72, 71, 70, 69, 68, 67, 66, 65, 64, 63, 62, 61, 60, 59, 58, 57, 56, 55, 54, 53, 52, 51, 50, 49, 48, 47, 46, 45, 44, 43, 42, 41, 40, 39, 38, 37, 36, 35, 34, 33, 32, 31, 30, 29, 28, 27, 26, 25, 24, 23, 22, 21, 20, 19, 18, 17, 16, 15, 14, 13, 12, 11, 10, 9, 8, 7, 6, 5, 4, 3, 2, 1, 0], [(88, [15]), (80, []), (74, []), (78, [15]), (72, [15]), (64, [1]), (62, [1]), (60, [15]), (52, [1]), (50, [15]), (42, [1]), (40, [1]), (38, [15]), (30, [1]), (28, [1]), (26, [15]), (18, [1]), (16, [1]), (14, [15])], (nbE0T75 v), (nbE0M62 v)) [((nbE0T75 v), (nbE0M62 v))] := EvD.codeA
theorem nbE0n85 (v : NbV) (H : NbH v true true 0 true false) : nbE0evD (cOp nbE0C34) (2, [89, 88, 87, 86, 85, 84, 83, 82, 81, 80, 79, 74, 73, 78, 77, 76, 75, 72, 71, 70, 69, 68, 67, 66, 65, 64, 63, 62, 61, 60, 59, 58, 57, 56, 55, 54, 53, 52, 51, 50, 49, 48, 47, 46, 45, 44, 43, 42, 41, 40, 39, 38, 37, 36, 35, 34, 33, 32, 31, 30, 29, 28, 27, 26, 25, 24, 23, 22, 21, 20, 19, 18, 17, 16, 15, 14, 13, 12, 11, 10, 9, 8, 7, 6, 5, 4, 3, 2, 1, 0], [(88, [15]), (80, []), (74, []), (78, [15]), (72, [15]), (64, [1]), (62, [1]), (60, [15]), (52, [1]), (50, [15]), (42, [1]), (40, [1]), (38, [15]), (30, [1]), (28, [1]), (26, [15]), (18, [1]), (16, [1]), (14, [15])], (cPut (opAt (cOp nbE0C34) 89).dst).p (nbE0T74 v) (renV (fK [14] ((nbE0M62 v)).length) (.u (.p none))), backM (nbE0M62 v) [14] ((nbE0k21Mm v))) [((nbE0T75 v), (nbE0M62 v))] := EvD.stepsA (j := 2) (nbE0n84 v H)
theorem nbE0n86 (v : NbV) (H : NbH v true true 0 true false) : nbE0evD (cOp nbE0C34) (3, [88, 87, 86, 85, 84, 83, 82, 81, 80, 79, 74, 73, 78, 77, 76, 75, 72, 71, 70, 69, 68, 67, 66, 65, 64, 63, 62, 61, 60, 59, 58, 57, 56, 55, 54, 53, 52, 51, 50, 49, 48, 47, 46, 45, 44, 43, 42, 41, 40, 39, 38, 37, 36, 35, 34, 33, 32, 31, 30, 29, 28, 27, 26, 25, 24, 23, 22, 21, 20, 19, 18, 17, 16, 15, 14, 13, 12, 11, 10, 9, 8, 7, 6, 5, 4, 3, 2, 1, 0], [(88, [15]), (80, []), (74, []), (78, [15]), (72, [15]), (64, [1]), (62, [1]), (60, [15]), (52, [1]), (50, [15]), (42, [1]), (40, [1]), (38, [15]), (30, [1]), (28, [1]), (26, [15]), (18, [1]), (16, [1]), (14, [15])], (nbE0T74 v), (nbE0M62 v)) [((nbE0T75 v), (nbE0M62 v))] := EvD.oneA 89 (EvE.callA (args := [.r 14 0]) (a := []) (cc := []) 89 (nbE0k21_run v) (nbE0n85 v H))
theorem nbE0n87 (v : NbV) (H : NbH v true true 0 true false) : nbE0evD (cOp nbE0C34) (12, [79, 74, 73, 78, 77, 76, 75, 72, 71, 70, 69, 68, 67, 66, 65, 64, 63, 62, 61, 60, 59, 58, 57, 56, 55, 54, 53, 52, 51, 50, 49, 48, 47, 46, 45, 44, 43, 42, 41, 40, 39, 38, 37, 36, 35, 34, 33, 32, 31, 30, 29, 28, 27, 26, 25, 24, 23, 22, 21, 20, 19, 18, 17, 16, 15, 14, 13, 12, 11, 10, 9, 8, 7, 6, 5, 4, 3, 2, 1, 0], [(74, []), (78, [15]), (72, [15]), (64, [1]), (62, [1]), (60, [15]), (52, [1]), (50, [15]), (42, [1]), (40, [1]), (38, [15]), (30, [1]), (28, [1]), (26, [15]), (18, [1]), (16, [1]), (14, [15])], (cPut (opAt (cOp nbE0C34) 79).dst).p (nbE0T73 v) (renV (fK [14] ((nbE0M62 v)).length) (.nl 2)), backM (nbE0M62 v) [14] ((nbE0k20Mm v))) [((nbE0T75 v), (nbE0M62 v))] := EvD.stepsA (j := 9) (nbE0n86 v H)
theorem nbE0n88 (v : NbV) (H : NbH v true true 0 true false) : nbE0evD (cOp nbE0C34) (13, [74, 73, 78, 77, 76, 75, 72, 71, 70, 69, 68, 67, 66, 65, 64, 63, 62, 61, 60, 59, 58, 57, 56, 55, 54, 53, 52, 51, 50, 49, 48, 47, 46, 45, 44, 43, 42, 41, 40, 39, 38, 37, 36, 35, 34, 33, 32, 31, 30, 29, 28, 27, 26, 25, 24, 23, 22, 21, 20, 19, 18, 17, 16, 15, 14, 13, 12, 11, 10, 9, 8, 7, 6, 5, 4, 3, 2, 1, 0], [(74, []), (78, [15]), (72, [15]), (64, [1]), (62, [1]), (60, [15]), (52, [1]), (50, [15]), (42, [1]), (40, [1]), (38, [15]), (30, [1]), (28, [1]), (26, [15]), (18, [1]), (16, [1]), (14, [15])], (nbE0T73 v), (nbE0M62 v)) [((nbE0T75 v), (nbE0M62 v))] := EvD.oneA 79 (EvE.callA (args := [.r 14 0]) (a := []) (cc := []) 79 (nbE0k20_run v) (nbE0n87 v H))
theorem nbE0n89 (v : NbV) (H : NbH v true true 0 true false) : nbE0evD (cOp nbE0C34) (14, [73, 78, 77, 76, 75, 72, 71, 70, 69, 68, 67, 66, 65, 64, 63, 62, 61, 60, 59, 58, 57, 56, 55, 54, 53, 52, 51, 50, 49, 48, 47, 46, 45, 44, 43, 42, 41, 40, 39, 38, 37, 36, 35, 34, 33, 32, 31, 30, 29, 28, 27, 26, 25, 24, 23, 22, 21, 20, 19, 18, 17, 16, 15, 14, 13, 12, 11, 10, 9, 8, 7, 6, 5, 4, 3, 2, 1, 0], [(78, [15]), (72, [15]), (64, [1]), (62, [1]), (60, [15]), (52, [1]), (50, [15]), (42, [1]), (40, [1]), (38, [15]), (30, [1]), (28, [1]), (26, [15]), (18, [1]), (16, [1]), (14, [15])], (cPut (opAt (cOp nbE0C34) 73).dst).p (nbE0T72 v) (renV (fK [14] ((nbE0M62 v)).length) (.nl 16)), backM (nbE0M62 v) [14] ((nbE0k19Mm v))) [((nbE0T75 v), (nbE0M62 v))] := EvD.stepsA (j := 1) (nbE0n88 v H)
theorem nbE0n90 (v : NbV) (H : NbH v true true 0 true false) : nbE0evD (cOp nbE0C34) (15, [78, 77, 76, 75, 72, 71, 70, 69, 68, 67, 66, 65, 64, 63, 62, 61, 60, 59, 58, 57, 56, 55, 54, 53, 52, 51, 50, 49, 48, 47, 46, 45, 44, 43, 42, 41, 40, 39, 38, 37, 36, 35, 34, 33, 32, 31, 30, 29, 28, 27, 26, 25, 24, 23, 22, 21, 20, 19, 18, 17, 16, 15, 14, 13, 12, 11, 10, 9, 8, 7, 6, 5, 4, 3, 2, 1, 0], [(78, [15]), (72, [15]), (64, [1]), (62, [1]), (60, [15]), (52, [1]), (50, [15]), (42, [1]), (40, [1]), (38, [15]), (30, [1]), (28, [1]), (26, [15]), (18, [1]), (16, [1]), (14, [15])], (nbE0T72 v), (nbE0M62 v)) [((nbE0T75 v), (nbE0M62 v))] := EvD.oneA 73 (EvE.callA (args := [.r 14 0]) (a := []) (cc := []) 73 (nbE0k19_run v) (nbE0n89 v H))
theorem nbE0n91 (v : NbV) (H : NbH v true true 0 true false) : nbE0evD (cOp nbE0C34) (26, [65, 64, 63, 62, 61, 60, 59, 58, 57, 56, 55, 54, 53, 52, 51, 50, 49, 48, 47, 46, 45, 44, 43, 42, 41, 40, 39, 38, 37, 36, 35, 34, 33, 32, 31, 30, 29, 28, 27, 26, 25, 24, 23, 22, 21, 20, 19, 18, 17, 16, 15, 14, 13, 12, 11, 10, 9, 8, 7, 6, 5, 4, 3, 2, 1, 0], [(64, [1]), (62, [1]), (60, [15]), (52, [1]), (50, [15]), (42, [1]), (40, [1]), (38, [15]), (30, [1]), (28, [1]), (26, [15]), (18, [1]), (16, [1]), (14, [15])], (cPut (opAt (cOp nbE0C34) 65).dst).p (nbE0T71 v) (renV (fK [14] ((nbE0M62 v)).length) (.i 1)), backM (nbE0M62 v) [14] ((nbE0k18Mm v))) [((nbE0T75 v), (nbE0M62 v))] := EvD.stepsA (j := 11) (nbE0n90 v H)
theorem nbE0n92 (v : NbV) (H : NbH v true true 0 true false) : nbE0evD (cOp nbE0C34) (27, [64, 63, 62, 61, 60, 59, 58, 57, 56, 55, 54, 53, 52, 51, 50, 49, 48, 47, 46, 45, 44, 43, 42, 41, 40, 39, 38, 37, 36, 35, 34, 33, 32, 31, 30, 29, 28, 27, 26, 25, 24, 23, 22, 21, 20, 19, 18, 17, 16, 15, 14, 13, 12, 11, 10, 9, 8, 7, 6, 5, 4, 3, 2, 1, 0], [(64, [1]), (62, [1]), (60, [15]), (52, [1]), (50, [15]), (42, [1]), (40, [1]), (38, [15]), (30, [1]), (28, [1]), (26, [15]), (18, [1]), (16, [1]), (14, [15])], (nbE0T71 v), (nbE0M62 v)) [((nbE0T75 v), (nbE0M62 v))] := EvD.oneA 65 (EvE.callA (args := [.r 14 0, .i v.a11, .i v.a10]) (a := []) (cc := []) 65 (nbE0k18_run v) (nbE0n91 v H))
theorem nbE0n93 (v : NbV) (H : NbH v true true 0 true false) : nbE0evD (cOp nbE0C34) (38, [53, 52, 51, 50, 49, 48, 47, 46, 45, 44, 43, 42, 41, 40, 39, 38, 37, 36, 35, 34, 33, 32, 31, 30, 29, 28, 27, 26, 25, 24, 23, 22, 21, 20, 19, 18, 17, 16, 15, 14, 13, 12, 11, 10, 9, 8, 7, 6, 5, 4, 3, 2, 1, 0], [(52, [1]), (50, [15]), (42, [1]), (40, [1]), (38, [15]), (30, [1]), (28, [1]), (26, [15]), (18, [1]), (16, [1]), (14, [15])], (cPut (opAt (cOp nbE0C34) 53).dst).p (nbE0T70 v) (renV (fK [14] ((nbE0M62 v)).length) (.i 1)), backM (nbE0M62 v) [14] ((nbE0k17Mm v))) [((nbE0T75 v), (nbE0M62 v))] := EvD.stepsA (j := 11) (nbE0n92 v H)
theorem nbE0n94 (v : NbV) (H : NbH v true true 0 true false) : nbE0evD (cOp nbE0C34) (39, [52, 51, 50, 49, 48, 47, 46, 45, 44, 43, 42, 41, 40, 39, 38, 37, 36, 35, 34, 33, 32, 31, 30, 29, 28, 27, 26, 25, 24, 23, 22, 21, 20, 19, 18, 17, 16, 15, 14, 13, 12, 11, 10, 9, 8, 7, 6, 5, 4, 3, 2, 1, 0], [(52, [1]), (50, [15]), (42, [1]), (40, [1]), (38, [15]), (30, [1]), (28, [1]), (26, [15]), (18, [1]), (16, [1]), (14, [15])], (nbE0T70 v), (nbE0M62 v)) [((nbE0T75 v), (nbE0M62 v))] := EvD.oneA 53 (EvE.callA (args := [.r 14 0, .i v.a10]) (a := []) (cc := []) 53 (nbE0k17_run v) (nbE0n93 v H))
theorem nbE0n95 (v : NbV) (H : NbH v true true 0 true false) : nbE0evD (cOp nbE0C34) (48, [43, 42, 41, 40, 39, 38, 37, 36, 35, 34, 33, 32, 31, 30, 29, 28, 27, 26, 25, 24, 23, 22, 21, 20, 19, 18, 17, 16, 15, 14, 13, 12, 11, 10, 9, 8, 7, 6, 5, 4, 3, 2, 1, 0], [(42, [1]), (40, [1]), (38, [15]), (30, [1]), (28, [1]), (26, [15]), (18, [1]), (16, [1]), (14, [15])], (cPut (opAt (cOp nbE0C34) 43).dst).p (nbE0T69 v) (renV (fK [14] ((nbE0M62 v)).length) (.i 1)), backM (nbE0M62 v) [14] ((nbE0k16Mm v))) [((nbE0T75 v), (nbE0M62 v))] := EvD.stepsA (j := 9) (nbE0n94 v H)
theorem nbE0n96 (v : NbV) (H : NbH v true true 0 true false) : nbE0evD (cOp nbE0C34) (49, [42, 41, 40, 39, 38, 37, 36, 35, 34, 33, 32, 31, 30, 29, 28, 27, 26, 25, 24, 23, 22, 21, 20, 19, 18, 17, 16, 15, 14, 13, 12, 11, 10, 9, 8, 7, 6, 5, 4, 3, 2, 1, 0], [(42, [1]), (40, [1]), (38, [15]), (30, [1]), (28, [1]), (26, [15]), (18, [1]), (16, [1]), (14, [15])], (nbE0T69 v), (nbE0M62 v)) [((nbE0T75 v), (nbE0M62 v))] := EvD.oneA 43 (EvE.callA (args := [.r 14 0, .i v.a11, .i v.a10]) (a := []) (cc := []) 43 (nbE0k16_run v) (nbE0n95 v H))
theorem nbE0n97 (v : NbV) (H : NbH v true true 0 true false) : nbE0evD (cOp nbE0C34) (60, [31, 30, 29, 28, 27, 26, 25, 24, 23, 22, 21, 20, 19, 18, 17, 16, 15, 14, 13, 12, 11, 10, 9, 8, 7, 6, 5, 4, 3, 2, 1, 0], [(30, [1]), (28, [1]), (26, [15]), (18, [1]), (16, [1]), (14, [15])], (cPut (opAt (cOp nbE0C34) 31).dst).p (nbE0T68 v) (renV (fK [14] ((nbE0M62 v)).length) (.i 1)), backM (nbE0M62 v) [14] ((nbE0k15Mm v))) [((nbE0T75 v), (nbE0M62 v))] := EvD.stepsA (j := 11) (nbE0n96 v H)
theorem nbE0n98 (v : NbV) (H : NbH v true true 0 true false) : nbE0evD (cOp nbE0C34) (61, [30, 29, 28, 27, 26, 25, 24, 23, 22, 21, 20, 19, 18, 17, 16, 15, 14, 13, 12, 11, 10, 9, 8, 7, 6, 5, 4, 3, 2, 1, 0], [(30, [1]), (28, [1]), (26, [15]), (18, [1]), (16, [1]), (14, [15])], (nbE0T68 v), (nbE0M62 v)) [((nbE0T75 v), (nbE0M62 v))] := EvD.oneA 31 (EvE.callA (args := [.r 14 0, .i v.a11, .i v.a10]) (a := []) (cc := []) 31 (nbE0k15_run v) (nbE0n97 v H))
theorem nbE0n99 (v : NbV) (H : NbH v true true 0 true false) : nbE0evD (cOp nbE0C34) (72, [19, 18, 17, 16, 15, 14, 13, 12, 11, 10, 9, 8, 7, 6, 5, 4, 3, 2, 1, 0], [(18, [1]), (16, [1]), (14, [15])], (cPut (opAt (cOp nbE0C34) 19).dst).p (nbE0T67 v) (renV (fK [14] ((nbE0M62 v)).length) (.i 1)), backM (nbE0M62 v) [14] ((nbE0k14Mm v))) [((nbE0T75 v), (nbE0M62 v))] := EvD.stepsA (j := 11) (nbE0n98 v H)
theorem nbE0n100 (v : NbV) (H : NbH v true true 0 true false) : nbE0evD (cOp nbE0C34) (73, [18, 17, 16, 15, 14, 13, 12, 11, 10, 9, 8, 7, 6, 5, 4, 3, 2, 1, 0], [(18, [1]), (16, [1]), (14, [15])], (nbE0T67 v), (nbE0M62 v)) [((nbE0T75 v), (nbE0M62 v))] := EvD.oneA 19 (EvE.callA (args := [.r 14 0, .i v.a11, .i v.a10]) (a := []) (cc := []) 19 (nbE0k14_run v) (nbE0n99 v H))
def nbE0T76 (v : NbV) : Fr := puF (nbE0T71 v) [(178, .i 1), (179, .r 15 1), (180, .r 14 0), (184, .i 1), (185, .r 15 1), (186, .r 14 0), (194, .i 1), (195, .r 15 1), (196, .r 14 0)]
def nbE0T77 (v : NbV) : Fr := puF (nbE0T71 v) [(178, .i 1), (179, .r 15 1), (180, .r 14 0), (184, .i 1), (185, .r 15 1), (186, .r 14 0), (194, .i 1), (195, .r 15 1), (196, .r 14 0)]
def nbE0T78 (v : NbV) : Fr := puF (nbE0T71 v) [(12, .i 2), (84, .i 1), (85, .i 2), (178, .i 1), (179, .r 15 1), (180, .r 14 0), (184, .i 1), (185, .r 15 1), (186, .r 14 0), (194, .i 1), (195, .r 15 1), (196, .r 14 0)]
theorem nbE0n110 (v : NbV) (H : NbH v true true 0 true false) : nbE0ev nbE0C26 (nbE0T55 v) (nbE0M39 v) [(.nrm, (nbE0T78 v), (nbE0M62 v))] := Ev.piecesA (k := 1) (t1 := nbE0T56 v) (m1 := nbE0M39 v) (Ev.seqPA (t1 := nbE0T77 v) (m1 := nbE0M62 v) (Ev.blockP (e := .nrm) (by kernel_rfl) (by kernel_rfl) (Ev.seqPA (t1 := nbE0T59 v) (m1 := nbE0M39 v) (Ev.regD2 (outs := [((nbE0T58 v), (nbE0M39 v))]) (by kernel_rfl) (by kernel_rfl) (by kernel_rfl) (EvD.stepsA (j := 8) (nbE0n70 v H)) ⟨by kernel_rfl, trivial⟩) (Ev.seqPA (t1 := nbE0T65 v) (m1 := nbE0M62 v) (Ev.regD2 (outs := [((nbE0T61 v), (nbE0M62 v)), ((nbE0T65 v), (nbE0M62 v))]) (by kernel_rfl) (by kernel_rfl) (by kernel_rfl) (EvD.stepsA (j := 6) (nbE0n81 v H)) ⟨by kernel_rfl, by kernel_rfl, trivial⟩) (Ev.seqPA (t1 := nbE0T76 v) (m1 := nbE0M62 v) (Ev.regD2 (outs := [((nbE0T75 v), (nbE0M62 v))]) (by kernel_rfl) (by kernel_rfl) (by kernel_rfl) (EvD.stepsA (j := 19) (nbE0n100 v H)) ⟨by kernel_rfl, trivial⟩) Ev.codeA)))) Ev.codeA)
def nbE0T79 (v : NbV) : Fr := puF (nbE0T71 v) [(12, .i 2), (15, .r 16 0), (84, .i 1), (85, .i 2), (178, .i 1), (179, .r 15 1), (180, .r 14 0), (184, .i 1), (185, .r 15 1), (186, .r 14 0), (194, .i 1), (195, .r 15 1), (196, .r 14 0)]
def nbE0T80 (v : NbV) : Fr := puF (nbE0T71 v) [(12, .i 2), (15, .r 16 0), (80, .i 2), (83, .u (.b false)), (84, .i 1), (85, .i 2), (178, .i 1), (179, .r 15 1), (180, .r 14 0), (184, .i 1), (185, .r 15 1), (186, .r 14 0), (194, .i 1), (195, .r 15 1), (196, .r 14 0)]
theorem nbE0n112 (v : NbV) (H : NbH v true true 0 true false) : nbE0ev nbE0C26 (nbE0T79 v) (nbE0M39 v) [((.ext 0), (nbE0T80 v), (nbE0M39 v))] := Ev.seqE (by intro h; cases h) (by kernel_rfl) Ev.codeA
theorem nbE0n113 (v : NbV) (H : NbH v true true 0 true false) : nbE0evL 16 nbE0C26 298 (nbE0T79 v) (nbE0M39 v) [((.ext 0), (nbE0T80 v), (nbE0M39 v))] := EvL.last (by intro h; cases h) (nbE0n112 v H)
theorem nbE0n114 (v : NbV) (H : NbH v true true 0 true false) : nbE0evL 16 nbE0C26 299 (nbE0T55 v) (nbE0M39 v) [((.ext 0), (nbE0T80 v), (nbE0M39 v))] := EvL.round (t2 := (nbE0T79 v)) (m2 := (nbE0M39 v)) (nbE0n110 v H) (by kernel_rfl) (nbE0n113 v H)
theorem nbE0n115 (v : NbV) (H : NbH v true true 0 true false) : nbE0evL 16 nbE0C26 300 (nbE0T32 v) (nbE0M31 v) [((.ext 0), (nbE0T80 v), (nbE0M39 v))] := EvL.round (t2 := (nbE0T55 v)) (m2 := (nbE0M39 v)) (nbE0n67 v H) (by kernel_rfl) (nbE0n114 v H)
def nbE0T81 (v : NbV) : Fr := puF (nbE0T71 v) [(12, .i 2), (15, .r 16 0), (80, .i 2), (83, .u (.b false)), (84, .i 1), (85, .i 2), (178, .i 1), (179, .r 15 1), (180, .r 14 0), (184, .i 1), (185, .r 15 1), (186, .r 14 0), (194, .i 1), (195, .r 15 1), (196, .r 14 0)]
def nbE0T82 (v : NbV) : Fr := puF (nbE0T71 v) [(4, .u (.b true)), (12, .i 2), (15, .r 16 0), (80, .i 2), (83, .u (.b false)), (84, .i 1), (85, .i 2), (178, .i 1), (179, .r 15 1), (180, .r 14 0), (184, .i 1), (185, .r 15 1), (186, .r 14 0), (194, .i 1), (195, .r 15 1), (196, .r 14 0), (200, .u (.b true))]
def nbE0T83 (v : NbV) : Fr := puF (nbE0T71 v) [(4, .u (.b true)), (12, .i 2), (15, .r 16 0), (80, .i 2), (83, .u (.b false)), (84, .i 1), (85, .i 2), (178, .i 1), (179, .r 15 1), (180, .r 14 0), (184, .i 1), (185, .r 15 1), (186, .r 14 0), (194, .i 1), (195, .r 15 1), (196, .r 14 0), (200, .u (.b true))]
theorem nbE0n128 (v : NbV) (H : NbH v true true 0 true false) : nbE0ev nbE0C11 (nbE0T11 v) (nbE0M12 v) [(.ret, (nbE0T83 v), (nbE0M39 v))] := Ev.seqPA (t1 := nbE0T20 v) (m1 := nbE0M12 v) (Ev.seqPA (t1 := nbE0T19 v) (m1 := nbE0M12 v) (Ev.regA (EvO.callA (t2 := nbE0T14 v) (m1 := nbE0M12 v) (ix := []) (k := 5) (t1 := (nbE0T14 v)) (args := [.a [.i v.c1, .u (.l 7 v.c2), .i v.c3, .u (.l 4 v.c4), .i v.c5, .i v.c6, .i v.c7, .i v.c8]]) (a := []) (cc := []) H.hK EvO.opsA)) Ev.codeA) (Ev.seqPA (t1 := nbE0T23 v) (m1 := nbE0M22 v) (Ev.regA (EvO.callA (t2 := nbE0T21 v) (m1 := nbE0M22 v) (ix := [12, 2, 13, 3]) (k := 6) (t1 := (nbE0T21 v)) (args := [.a [.i v.c1, .u (.l 7 v.c2), .i v.c3, .u (.l 4 v.c4), .i v.c5, .i v.c6, .i v.c7, .i v.c8], .u (.p none), .r 12 0, .r 2 0, .r 13 0]) (a := []) (cc := []) (H.hN [.c [.nl 5, .n .i64 33 [0, 0, 0, 0, 0, 0, 0, 0, 0, 0, 0, 0, 0, 0, 0, 0, 0, 0, 0, 0, 0, 0, 0, 0, 0, 0, 0, 0, 0, 0, 0, 0, 0]],
  .c [.nl 3, .m 3, .i 4, .i 1],
  .c [.nl 4, .nm]] [.p .n 1 false []] rfl) EvO.opsA)) (Ev.seqPA (t1 := nbE0T29 v) (m1 := nbE0M22 v) (Ev.seqPA (t1 := nbE0T28 v) (m1 := nbE0M22 v) (Ev.regA EvO.opsA) Ev.codeA) (Ev.piecesA (k := 1) (t1 := nbE0T30 v) (m1 := nbE0M31 v) (Ev.seqPA (t1 := nbE0T80 v) (m1 := nbE0M39 v) (Ev.piecesA (k := 1) (t1 := nbE0T32 v) (m1 := nbE0M31 v) (Ev.blockP (e := .ext 0) (by kernel_rfl) (by kernel_rfl) (Ev.loopP (n0 := 16) (by kernel_rfl) (by kernel_rfl) (nbE0n115 v H)))) (Ev.seqPA (t1 := nbE0T82 v) (m1 := nbE0M39 v) (Ev.regA (EvO.callA (t2 := nbE0T81 v) (m1 := nbE0M39 v) (ix := []) (k := 0) (t1 := (nbE0T81 v)) (args := []) (a := []) (cc := []) (aw5_run v) EvO.opsA)) Ev.codeA)))))
theorem nb_E0 (v : NbV) (H : NbH v true true 0 true false) : PRun Tryz.prog 3 [] [.a [.i v.c1, .u (.l 7 v.c2), .i v.c3, .u (.l 4 v.c4), .i v.c5, .i v.c6, .i v.c7, .i v.c8], .a [.i v.a9, .i v.a10, .i v.a11, .i v.a12, .i v.a13, .i v.a14, .i v.a15, .i v.a16, .i v.a17, .i v.a18, .i v.a19]] fun x m => x = .u (.b true) ∧ m = [] := Ev.runA eKr2 Tryz.func3 (c := nbE0C1) (r := (.ret, (nbE0T83 v), (nbE0M39 v))) (Ev.piecesA (k := 1) (t1 := nbFT1 v) (m1 := nbE0M2 v) (Ev.seqPA (t1 := nbE0T4 v) (m1 := nbE0M2 v) (Ev.seqPA (t1 := nbE0T4 v) (m1 := nbE0M2 v) (Ev.regA (EvO.callA (t2 := nbFT3 v) (m1 := nbE0M2 v) (ix := []) (k := 1) (t1 := (nbFT3 v)) (args := [.a [.i v.c1, .u (.l 7 v.c2), .i v.c3, .u (.l 4 v.c4), .i v.c5, .i v.c6, .i v.c7, .i v.c8]]) (a := []) (cc := []) H.hF EvO.opsA)) (Ev.condF (by kernel_rfl) (by kernel_rfl) Ev.codeA)) (Ev.seqPA (t1 := nbE0T7 v) (m1 := nbE0M8 v) (Ev.regA (EvO.callA (t2 := nbE0T4 v) (m1 := nbE0M2 v) (ix := []) (k := 0) (t1 := (nbE0T4 v)) (args := [.i 4]) (a := []) (cc := []) (nbE0k1_run v) EvO.opsA)) (Ev.seqPA (t1 := nbE0T11 v) (m1 := nbE0M12 v) (Ev.regA (EvO.callA (t2 := nbE0T9 v) (m1 := nbE0M10 v) (ix := [4, 5, 2, 6, 3]) (k := 8) (t1 := (nbE0T9 v)) (args := [.a [.i v.c1, .u (.l 7 v.c2), .i v.c3, .u (.l 4 v.c4), .i v.c5, .i v.c6, .i v.c7, .i v.c8], .r 4 0, .r 5 0, .r 2 0, .r 6 0]) (a := []) (cc := []) (H.hW [.c [.nl 5, .i 0],
  .c [.nl 5, .n .i64 33 [0, 0, 0, 0, 0, 0, 0, 0, 0, 0, 0, 0, 0, 0, 0, 0, 0, 0, 0, 0, 0, 0, 0, 0, 0, 0, 0, 0, 0, 0, 0, 0, 0]],
  .c [.nl 3, .m 4, .i 4, .i 1],
  .c [.nl 4, .nm]] [.p .n 1 false []] rfl) EvO.opsA)) (nbE0n128 v H)))))
end
end Go.Proofs.YtedpdommppfmdaaGreat

/- A run, piece by piece: printed by program (ez2.py). -/
set_option linter.unusedVariables false
set_option maxRecDepth 1000000
namespace Go.Proofs.YtedpdommppfmdaaGreat
open Go Go.Proofs
noncomputable section
noncomputable abbrev nbEXev := Ev Tryz.prog eKr2 (List.range 600) 300 60 3
noncomputable abbrev nbEXevD := EvD Tryz.prog eKr2 (List.range 600) 300 60
noncomputable abbrev nbEXevL := EvL Tryz.prog eKr2 (List.range 600) 300 60 3
noncomputable abbrev nbEXevE := EvE Tryz.prog eKr2 (List.range 600) 300 60
noncomputable abbrev nbEXC1 : Code := bodyOf Tryz.f3
def nbEXM2 (v : NbV) : Mem := [.c [.i v.c1, .u (.l 7 v.c2), .i v.c3, .u (.l 4 v.c4), .i v.c5, .i v.c6, .i v.c7, .i v.c8],
  .c [.i v.a9, .i v.a10, .i v.a11, .i v.a12, .i v.a13, .i v.a14, .i v.a15, .i v.a16, .i v.a17, .i v.a18, .i v.a19]]
noncomputable abbrev nbEXC7 : Code := cR (dropK 1 nbEXC1)
def nbEXM8 (v : NbV) : Mem := paM (nbEXM2 v) [] [.c [.nl 3, .m 3, .i 4, .i 1],
  .p .n 1 false []]
theorem nbEXn9 (v : NbV) (H : NbH v true true v.e false false) : nbEXev (cL nbEXC7) (nbE0T4 v) (nbEXM2 v) [(.nrm, (nbE0T7 v), (nbEXM8 v))] := Ev.regA (EvO.callA (t2 := nbE0T4 v) (m1 := nbEXM2 v) (ix := []) (k := 0) (t1 := (nbE0T4 v)) (args := [.i 4]) (a := []) (cc := []) (nbE0k1_run v) EvO.opsA)
noncomputable abbrev nbEXC9 : Code := cR nbEXC7
def nbEXM10 (v : NbV) : Mem := paM (nbEXM8 v) [] [.c [.nl 5, .i 0],
  .c [.nl 5, .n .i64 33 [0, 0, 0, 0, 0, 0, 0, 0, 0, 0, 0, 0, 0, 0, 0, 0, 0, 0, 0, 0, 0, 0, 0, 0, 0, 0, 0, 0, 0, 0, 0, 0, 0]],
  .c [.nl 4, .nm]]
def nbEXT11 (v : NbV) : Fr := puF (nbE0T9 v) [(7, .u (.p none)), (8, .i v.e), (25, .t [.u (.p none), .i v.e]), (34, .t [.u (.p none), .i v.e]), (35, .u (.p none)), (36, .i v.e)]
theorem nbEXn12 (v : NbV) (H : NbH v true true v.e false false) : nbEXev (cL nbEXC9) (nbE0T7 v) (nbEXM8 v) [(.nrm, (nbEXT11 v), (nbEXM10 v))] := Ev.regA (EvO.callA (t2 := nbE0T9 v) (m1 := nbEXM10 v) (ix := [4, 5, 2, 6, 3]) (k := 8) (t1 := (nbE0T9 v)) (args := [.a [.i v.c1, .u (.l 7 v.c2), .i v.c3, .u (.l 4 v.c4), .i v.c5, .i v.c6, .i v.c7, .i v.c8], .r 4 0, .r 5 0, .r 2 0, .r 6 0]) (a := []) (cc := []) (H.hX [.c [.nl 5, .i 0],
  .c [.nl 5, .n .i64 33 [0, 0, 0, 0, 0, 0, 0, 0, 0, 0, 0, 0, 0, 0, 0, 0, 0, 0, 0, 0, 0, 0, 0, 0, 0, 0, 0, 0, 0, 0, 0, 0, 0]],
  .c [.nl 3, .m 4, .i 4, .i 1],
  .c [.nl 4, .nm]] [.p .n 1 false []] rfl) EvO.opsA)
noncomputable abbrev nbEXC11 : Code := cR nbEXC9
def nbEXT13 (v : NbV) : Fr := puF (nbE0T9 v) [(7, .u (.p none)), (8, .i v.e), (25, .t [.u (.p none), .i v.e]), (34, .t [.u (.p none), .i v.e]), (35, .u (.p none)), (36, .i v.e), (37, .i 0), (38, .u (.b false)), (39, .u (.b false)), (40, .i v.e), (41, .a [.i v.c1, .u (.l 7 v.c2), .i v.c3, .u (.l 4 v.c4), .i v.c5, .i v.c6, .i v.c7, .i v.c8])]
def nbEXT14 (v : NbV) : Fr := puF (nbE0T9 v) [(7, .u (.p none)), (8, .i v.e), (25, .t [.u (.p none), .i v.e]), (34, .t [.u (.p none), .i v.e]), (35, .u (.p none)), (36, .i v.e), (37, .i 0), (38, .u (.b false)), (39, .u (.b false)), (40, .i v.e), (41, .a [.i v.c1, .u (.l 7 v.c2), .i v.c3, .u (.l 4 v.c4), .i v.c5, .i v.c6, .i v.c7, .i v.c8]), (42, .i v.e)]
def nbEXT15 (v : NbV) : Fr := puF (nbE0T21 v) [(7, .u (.p none)), (8, .i v.e), (25, .t [.u (.p none), .i v.e]), (34, .t [.u (.p none), .i v.e]), (35, .u (.p none)), (36, .i v.e), (40, .i v.e), (42, .i v.e), (46, .u (.p none)), (47, .z), (48, .z), (49, .z), (50, .z), (51, .z), (53, .z), (54, .z), (55, .z), (56, .z), (57, .z), (58, .z)]
def nbEXT16 (v : NbV) : Fr := puF (nbEXT15 v) [(47, .u (.b false)), (48, .i v.e)]
def nbEXT17 (v : NbV) : Fr := puF (nbEXT16 v) [(49, .u (.b false))]
def nbEXT18 (v : NbV) : Fr := puF (nbEXT17 v) [(50, .u (.b false)), (51, .u (.b false))]
theorem nbEXn19 (v : NbV) (H : NbH v true true v.e false false) : nbEXev (cL nbEXC11) (nbEXT11 v) (nbEXM10 v) [(.nrm, (nbEXT18 v), (nbEXM10 v))] := Ev.seqPA (t1 := nbEXT18 v) (m1 := nbEXM10 v) (Ev.regA (EvO.callA (t2 := nbEXT13 v) (m1 := nbEXM10 v) (ix := []) (k := 5) (t1 := (nbEXT13 v)) (args := [.a [.i v.c1, .u (.l 7 v.c2), .i v.c3, .u (.l 4 v.c4), .i v.c5, .i v.c6, .i v.c7, .i v.c8]]) (a := []) (cc := []) H.hK (EvO.opA (t2 := nbEXT14 v) (m1 := nbEXM10 v) (v := .u (.b false)) (k := 0) (t1 := (nbEXT14 v)) (symN (b := eqF v.e v.e) (by kernel_rfl) (eqF_self _) rfl) (EvO.opA (t2 := nbEXT16 v) (m1 := nbEXM10 v) (v := .u (.b false)) (k := 5) (t1 := (nbEXT16 v)) (symE (b := eqF v.e 0) (by kernel_rfl) H.he) EvO.opsA)))) Ev.codeA
def nbEXT20 (v : NbV) : Fr := puF (nbE0T21 v) [(7, .u (.p none)), (8, .i v.e), (25, .t [.u (.p none), .i v.e]), (34, .t [.u (.p none), .i v.e]), (35, .u (.p none)), (36, .i v.e), (40, .i v.e), (42, .i v.e), (46, .u (.p none)), (47, .u (.b false)), (48, .i v.e), (49, .u (.b false)), (55, .r 7 0), (58, .r 8 0)]
def nbEXM21 (v : NbV) : Mem := paM (nbEXM10 v) [] [.c [.nl 5, .n .i64 33 [0, 0, 0, 0, 0, 0, 0, 0, 0, 0, 0, 0, 0, 0, 0, 0, 0, 0, 0, 0, 0, 0, 0, 0, 0, 0, 0, 0, 0, 0, 0, 0, 0]],
  .c [.nl 4, .nm]]
def nbEXT22 (v : NbV) : Fr := puF (nbEXT20 v) [(9, .u (.p none)), (10, .i v.e), (52, .t [.u (.p none), .i v.e]), (59, .t [.u (.p none), .i v.e]), (60, .u (.p none)), (61, .i v.e)]
def nbEXT23 (v : NbV) : Fr := puF (nbEXT22 v) [(62, .i v.e)]
def nbEXT24 (v : NbV) : Fr := puF (nbEXT23 v) [(63, .u (.b false)), (64, .u (.b false)), (65, .t [])]
def nbEXT25 (v : NbV) : Fr := puF (nbEXT24 v) [(66, .t []), (67, .u (.b false)), (68, .u (.b false)), (69, .i v.e)]
def nbEXT26 (v : NbV) : Fr := puF (nbEXT25 v) [(70, .u (.b true)), (71, .u (.b true)), (72, .i v.e), (73, .i v.e)]
def nbEXT27 (v : NbV) : Fr := puF (nbEXT25 v) [(70, .u (.b true)), (71, .u (.b true)), (72, .i v.e), (73, .i v.e), (74, .u (.b false)), (75, .u (.b false)), (76, .u (.b false))]
def nbEXT28 (v : NbV) : Fr := puF (nbEXT25 v) [(70, .u (.b true)), (71, .u (.b true)), (72, .i v.e), (73, .i v.e), (74, .u (.b false)), (75, .u (.b false)), (76, .u (.b false))]
def nbEXT29 (v : NbV) : Fr := puF (nbEXT25 v) [(11, .sl 10 0 2), (70, .u (.b true)), (71, .u (.b true)), (72, .i v.e), (73, .i v.e), (74, .u (.b false)), (75, .u (.b false)), (76, .u (.b false)), (77, .a [.i 0, .nl 7, .i 0, .nl 4, .i 0, .i 0, .i 0, .i 0, .u (.p none), .u (.p none), .u (.p none), .u (.p none), .u (.p none), .u (.p none), .nl 16]), (78, .r 9 0), (79, .sl 10 0 2)]
def nbEXM30 (v : NbV) : Mem := paM (nbEXM21 v) [] [.c [.i 0, .nl 7, .i 0, .nl 4, .i 0, .i 0, .i 0, .i 0, .u (.p none), .u (.p none), .u (.p none), .u (.p none), .u (.p none), .u (.p none), .nl 16],
  .c [.u (.p none), .r 9 0]]
def nbEXT31 (v : NbV) : Fr := puF (nbEXT25 v) [(11, .sl 10 0 2), (12, .i 0), (70, .u (.b true)), (71, .u (.b true)), (72, .i v.e), (73, .i v.e), (74, .u (.b false)), (75, .u (.b false)), (76, .u (.b false)), (77, .a [.i 0, .nl 7, .i 0, .nl 4, .i 0, .i 0, .i 0, .i 0, .u (.p none), .u (.p none), .u (.p none), .u (.p none), .u (.p none), .u (.p none), .nl 16]), (78, .r 9 0), (79, .sl 10 0 2)]
noncomputable abbrev nbEXC26 : Code := cLp (cBd (dropK 1 (cL (dropK 1 (cR (cR (cR nbEXC11)))))))
def nbEXT32 (v : NbV) : Fr := puF (nbEXT25 v) [(11, .sl 10 0 2), (12, .i 0), (70, .u (.b true)), (71, .u (.b true)), (72, .i v.e), (73, .i v.e), (74, .u (.b false)), (75, .u (.b false)), (76, .u (.b false)), (77, .a [.i 0, .nl 7, .i 0, .nl 4, .i 0, .i 0, .i 0, .i 0, .u (.p none), .u (.p none), .u (.p none), .u (.p none), .u (.p none), .u (.p none), .nl 16]), (78, .r 9 0), (79, .sl 10 0 2), (80, .i 0), (81, .sl 10 0 2), (82, .i 2), (83, .u (.b true))]
noncomputable abbrev nbEXC29 : Code := cBd (cL (dropK 1 nbEXC26))
noncomputable abbrev nbEXC30 : Code := cL nbEXC29
def nbEXT33 (v : NbV) : Fr := puF (nbEXT25 v) [(11, .sl 10 0 2), (12, .i 0), (70, .u (.b true)), (71, .u (.b true)), (72, .i v.e), (73, .i v.e), (74, .u (.b false)), (75, .u (.b false)), (76, .u (.b false)), (77, .a [.i 0, .nl 7, .i 0, .nl 4, .i 0, .i 0, .i 0, .i 0, .u (.p none), .u (.p none), .u (.p none), .u (.p none), .u (.p none), .u (.p none), .nl 16]), (78, .r 9 0), (79, .sl 10 0 2), (80, .i 0), (81, .sl 10 0 2), (82, .i 2), (83, .u (.b true)), (87, .sl 10 0 2), (88, .i 0), (89, .r 10 0), (90, .u (.p none)), (91, .r 1 2), (92, .i v.a11), (93, .r 1 3), (94, .a [.i v.a12, .i v.a13, .i v.a14, .i v.a15, .i v.a16, .i v.a17, .i v.a18, .i v.a19])]
def nbEXT34 (v : NbV) : Fr := puF (nbEXT25 v) [(11, .sl 10 0 2), (12, .i 0), (13, .i 0), (14, .i 1), (70, .u (.b true)), (71, .u (.b true)), (72, .i v.e), (73, .i v.e), (74, .u (.b false)), (75, .u (.b false)), (76, .u (.b false)), (77, .a [.i 0, .nl 7, .i 0, .nl 4, .i 0, .i 0, .i 0, .i 0, .u (.p none), .u (.p none), .u (.p none), .u (.p none), .u (.p none), .u (.p none), .nl 16]), (78, .r 9 0), (79, .sl 10 0 2), (80, .i 0), (81, .sl 10 0 2), (82, .i 2), (83, .u (.b true)), (86, .t [.i 0, .i 1]), (87, .sl 10 0 2), (88, .i 0), (89, .r 10 0), (90, .u (.p none)), (91, .r 1 2), (92, .i v.a11), (93, .r 1 3), (94, .a [.i v.a12, .i v.a13, .i v.a14, .i v.a15, .i v.a16, .i v.a17, .i v.a18, .i v.a19]), (95, .t [.i 0, .i 1]), (96, .i 0), (97, .i 1)]
theorem nbEXn30 (v : NbV) (H : NbH v true true v.e false false) : nbEXevD (cOp nbEXC30) (0, [13, 12, 11, 10, 9, 8, 7, 6, 5, 4, 3, 2, 1, 0], [(7, [1]), (5, [1]), (3, [10])], (nbEXT34 v), (nbEXM30 v)) [((nbEXT34 v), (nbEXM30 v))] := EvD.codeA
theorem nbEXn31 (v : NbV) (H : NbH v true true v.e false false) : nbEXevD (cOp nbEXC30) (5, [8, 7, 6, 5, 4, 3, 2, 1, 0], [(7, [1]), (5, [1]), (3, [10])], (cPut (opAt (cOp nbEXC30) 8).dst).p (nbEXT33 v) (renV (fK [] ((nbEXM30 v)).length) (.t [.i 0, .i 1])), backM (nbEXM30 v) [] ((nbE0k2Mm v))) [((nbEXT34 v), (nbEXM30 v))] := EvD.stepsA (j := 5) (nbEXn30 v H)
theorem nbEXn32 (v : NbV) (H : NbH v true true v.e false false) : nbEXevD (cOp nbEXC30) (6, [7, 6, 5, 4, 3, 2, 1, 0], [(7, [1]), (5, [1]), (3, [10])], (nbEXT33 v), (nbEXM30 v)) [((nbEXT34 v), (nbEXM30 v))] := EvD.oneA 8 (EvE.callA (args := [.u (.p none), .i v.a11, .a [.i v.a12, .i v.a13, .i v.a14, .i v.a15, .i v.a16, .i v.a17, .i v.a18, .i v.a19]]) (a := []) (cc := []) 8 (nbE0k2_run v) (nbEXn31 v H))
def nbEXT35 (v : NbV) : Fr := puF (nbEXT25 v) [(11, .sl 10 0 2), (12, .i 0), (13, .i 0), (14, .i 1), (70, .u (.b true)), (71, .u (.b true)), (72, .i v.e), (73, .i v.e), (74, .u (.b false)), (75, .u (.b false)), (76, .u (.b false)), (77, .a [.i 0, .nl 7, .i 0, .nl 4, .i 0, .i 0, .i 0, .i 0, .u (.p none), .u (.p none), .u (.p none), .u (.p none), .u (.p none), .u (.p none), .nl 16]), (78, .r 9 0), (79, .sl 10 0 2), (80, .i 0), (81, .sl 10 0 2), (82, .i 2), (83, .u (.b true)), (86, .t [.i 0, .i 1]), (87, .sl 10 0 2), (88, .i 0), (89, .r 10 0), (90, .u (.p none)), (91, .r 1 2), (92, .i v.a11), (93, .r 1 3), (94, .a [.i v.a12, .i v.a13, .i v.a14, .i v.a15, .i v.a16, .i v.a17, .i v.a18, .i v.a19]), (95, .t [.i 0, .i 1]), (96, .i 0), (97, .i 1)]
noncomputable abbrev nbEXC31 : Code := cR nbEXC29
noncomputable abbrev nbEXC32 : Code := cL nbEXC31
def nbEXT36 (v : NbV) : Fr := puF (nbEXT25 v) [(11, .sl 10 0 2), (12, .i 0), (13, .i 0), (14, .i 1), (70, .u (.b true)), (71, .u (.b true)), (72, .i v.e), (73, .i v.e), (74, .u (.b false)), (75, .u (.b false)), (76, .u (.b false)), (77, .a [.i 0, .nl 7, .i 0, .nl 4, .i 0, .i 0, .i 0, .i 0, .u (.p none), .u (.p none), .u (.p none), .u (.p none), .u (.p none), .u (.p none), .nl 16]), (78, .r 9 0), (79, .sl 10 0 2), (80, .i 0), (81, .sl 10 0 2), (82, .i 2), (83, .u (.b true)), (86, .t [.i 0, .i 1]), (87, .sl 10 0 2), (88, .i 0), (89, .r 10 0), (90, .u (.p none)), (91, .r 1 2), (92, .i v.a11), (93, .r 1 3), (94, .a [.i v.a12, .i v.a13, .i v.a14, .i v.a15, .i v.a16, .i v.a17, .i v.a18, .i v.a19]), (95, .t [.i 0, .i 1]), (96, .i 0), (97, .i 1), (99, .sl 10 0 2), (100, .i 0), (101, .r 10 0), (102, .u (.p none)), (103, .r 1 1), (104, .i v.a10)]
def nbEXT37 (v : NbV) : Fr := puF (nbE0T44 v) [(7, .u (.p none)), (8, .i v.e), (10, .i v.e), (11, .sl 10 0 2), (15, .r 11 0), (25, .t [.u (.p none), .i v.e]), (34, .t [.u (.p none), .i v.e]), (35, .u (.p none)), (36, .i v.e), (40, .i v.e), (42, .i v.e), (46, .u (.p none)), (47, .u (.b false)), (48, .i v.e), (49, .u (.b false)), (52, .t [.u (.p none), .i v.e]), (55, .r 7 0), (58, .r 8 0), (59, .t [.u (.p none), .i v.e]), (61, .i v.e), (62, .i v.e), (63, .u (.b false)), (64, .u (.b false)), (65, .t []), (66, .t []), (69, .i v.e), (70, .u (.b true)), (71, .u (.b true)), (72, .i v.e), (73, .i v.e), (74, .u (.b false)), (78, .r 9 0), (79, .sl 10 0 2), (81, .sl 10 0 2), (87, .sl 10 0 2), (89, .r 10 0), (99, .sl 10 0 2), (101, .r 10 0), (108, .z), (109, .z), (110, .z), (111, .z), (112, .z), (113, .z), (114, .z), (115, .z), (116, .z), (117, .z), (118, .z), (119, .z), (120, .z), (121, .z), (122, .z), (123, .z), (124, .z), (125, .z), (126, .z)]
def nbEXM38 (v : NbV) : Mem := paM (nbEXM30 v) [] [.c [.i 0, .i 0, .i 0, .i 0, .i 0, .i 0, .i 0, .i 0, .i 0, .i 0, .i 0, .nl 2, .i 0, .i 0, .i 0, .i 0]]
theorem nbEXn35 (v : NbV) (H : NbH v true true v.e false false) : nbEXevD (cOp nbEXC32) (0, [12, 11, 10, 9, 8, 7, 6, 5, 4, 3, 2, 1, 0], [(5, [1]), (3, [10])], (nbEXT37 v), (nbEXM38 v)) [((nbEXT37 v), (nbEXM38 v))] := EvD.codeA
theorem nbEXn36 (v : NbV) (H : NbH v true true v.e false false) : nbEXevD (cOp nbEXC32) (6, [6, 5, 4, 3, 2, 1, 0], [(5, [1]), (3, [10])], (cPut (opAt (cOp nbEXC32) 6).dst).p (nbEXT36 v) (renV (fK [] ((nbEXM30 v)).length) (.t [.a [.i 0, .i 0, .i 0, .i 0, .i 0, .i 0, .i 0, .i 0, .i 0, .i 0, .i 0, .nl 2, .i 0, .i 0, .i 0, .i 0], .i 1])), backM (nbEXM30 v) [] ((nbE0k3Mm v))) [((nbEXT37 v), (nbEXM38 v))] := EvD.stepsA (j := 6) (nbEXn35 v H)
theorem nbEXn37 (v : NbV) (H : NbH v true true v.e false false) : nbEXevE (cOp nbEXC32) 6 6 [5, 4, 3, 2, 1, 0] [(5, [1]), (3, [10])] (nbEXT36 v) (nbEXM30 v) [((nbEXT37 v), (nbEXM38 v))] := EvE.callA (args := [.u (.p none), .i v.a10]) (a := []) (cc := []) 6 (nbE0k3_run v) (nbEXn36 v H)
def nbEXT39 (v : NbV) : Fr := puF (nbEXT37 v) [(16, .z), (98, .z), (105, .z), (106, .z), (107, .z)]
theorem nbEXn38 (v : NbV) (H : NbH v true true v.e false false) : nbEXevD (cOp nbEXC32) (0, [12, 11, 9, 8, 7, 6, 10, 5, 4, 3, 2, 1, 0], [(5, [1]), (3, [10])], (nbEXT37 v), (nbEXM38 v)) [((nbEXT37 v), (nbEXM38 v))] := EvD.codeA
theorem nbEXn39 (v : NbV) (H : NbH v true true v.e false false) : nbEXevD (cOp nbEXC32) (5, [6, 10, 5, 4, 3, 2, 1, 0], [(5, [1]), (3, [10])], (cPut (opAt (cOp nbEXC32) 6).dst).p (nbEXT39 v) (renV (fK [] ((nbEXM38 v)).length) (.t [.a [.i 0, .i 0, .i 0, .i 0, .i 0, .i 0, .i 0, .i 0, .i 0, .i 0, .i 0, .nl 2, .i 0, .i 0, .i 0, .i 0], .i 1])), backM (nbEXM38 v) [] ((nbE0k3Mm v))) [((nbEXT37 v), (nbEXM38 v))] := EvD.stepsA (j := 5) (nbEXn38 v H)
theorem nbEXn40 (v : NbV) (H : NbH v true true v.e false false) : nbEXevD (cOp nbEXC32) (6, [10, 5, 4, 3, 2, 1, 0], [(5, [1]), (3, [10])], (nbEXT39 v), (nbEXM38 v)) [((nbEXT37 v), (nbEXM38 v))] := EvD.oneA 6 (EvE.callA (args := [.u (.p none), .i v.a10]) (a := []) (cc := []) 6 (nbE0k3_run v) (nbEXn39 v H))
theorem nbEXn41 (v : NbV) (H : NbH v true true v.e false false) : nbEXevD (cOp nbEXC32) (6, [10, 5, 4, 3, 2, 1, 0], [(5, [1]), (3, [10])], (nbEXT39 v), (nbEXM38 v)) [((nbEXT37 v), (nbEXM38 v))] := EvD.stepsA (j := 0) (nbEXn40 v H)
theorem nbEXn42 (v : NbV) (H : NbH v true true v.e false false) : nbEXevE (cOp nbEXC32) 10 6 [5, 4, 3, 2, 1, 0] [(5, [1]), (3, [10])] (nbEXT36 v) (nbEXM30 v) [((nbEXT37 v), (nbEXM38 v))] := EvE.step (by kernel_rfl) (nbEXn41 v H)
theorem nbEXn43 (v : NbV) (H : NbH v true true v.e false false) : nbEXevD (cOp nbEXC32) (7, [5, 4, 3, 2, 1, 0], [(5, [1]), (3, [10])], (nbEXT36 v), (nbEXM30 v)) [((nbEXT37 v), (nbEXM38 v)), ((nbEXT37 v), (nbEXM38 v))] := EvD.two (o1 := [((nbEXT37 v), (nbEXM38 v))]) (o2 := [((nbEXT37 v), (nbEXM38 v))]) 6 10 (by kernel_rfl) (by kernel_rfl) (nbEXn37 v H) (nbEXn42 v H)
noncomputable abbrev nbEXC34 : Code := cL (cR nbEXC31)
def nbEXT43 (v : NbV) : Fr := puF (nbEXT37 v) [(108, .i 0), (109, .u (.b false)), (110, .u (.b false)), (111, .i 1), (112, .u (.b false)), (113, .u (.b false)), (114, .u (.b false)), (115, .i 1), (116, .u (.b false)), (117, .u (.b false)), (118, .u (.b false)), (119, .sl 10 0 2), (120, .i 0), (121, .r 10 0), (122, .u (.p none)), (123, .r 1 2), (124, .i v.a11), (125, .r 1 1), (126, .i v.a10)]
def nbEXT44 (v : NbV) : Fr := puF (nbEXT43 v) [(127, .i 1), (128, .u (.b false)), (129, .u (.b false)), (130, .u (.b false)), (131, .sl 10 0 2), (132, .i 0), (133, .r 10 0), (134, .u (.p none)), (135, .r 1 2), (136, .i v.a11), (137, .r 1 1), (138, .i v.a10)]
def nbEXT45 (v : NbV) : Fr := puF (nbEXT44 v) [(139, .i 1), (140, .u (.b false)), (141, .u (.b false)), (142, .u (.b false)), (143, .sl 10 0 2), (144, .i 0), (145, .r 10 0), (146, .u (.p none)), (147, .r 1 2), (148, .i v.a11), (149, .r 1 1), (150, .i v.a10)]
def nbEXT46 (v : NbV) : Fr := puF (nbEXT45 v) [(151, .i 1), (152, .u (.b false)), (153, .u (.b false)), (154, .u (.b false)), (155, .sl 10 0 2), (156, .i 0), (157, .r 10 0), (158, .u (.p none)), (159, .r 1 1), (160, .i v.a10)]
def nbEXT47 (v : NbV) : Fr := puF (nbEXT46 v) [(161, .i 1), (162, .u (.b false)), (163, .u (.b false)), (164, .u (.b false)), (165, .sl 10 0 2), (166, .i 0), (167, .r 10 0), (168, .u (.p none)), (169, .r 1 2), (170, .i v.a11), (171, .r 1 1), (172, .i v.a10)]
def nbEXT48 (v : NbV) : Fr := puF (nbEXT46 v) [(161, .i 1), (162, .u (.b false)), (163, .u (.b false)), (164, .u (.b false)), (165, .sl 10 0 2), (166, .i 0), (167, .r 10 0), (168, .u (.p none)), (169, .r 1 2), (170, .i v.a11), (171, .r 1 1), (172, .i v.a10), (173, .i 1), (174, .u (.b false)), (175, .u (.b false)), (176, .u (.b false)), (177, .sl 10 0 2), (178, .i 0), (179, .r 10 0), (180, .u (.p none)), (183, .sl 10 0 2), (184, .i 0), (185, .r 10 0), (186, .u (.p none))]
def nbEXT49 (v : NbV) : Fr := puF (nbEXT46 v) [(161, .i 1), (162, .u (.b false)), (163, .u (.b false)), (164, .u (.b false)), (165, .sl 10 0 2), (166, .i 0), (167, .r 10 0), (168, .u (.p none)), (169, .r 1 2), (170, .i v.a11), (171, .r 1 1), (172, .i v.a10), (173, .i 1), (174, .u (.b false)), (175, .u (.b false)), (176, .u (.b false)), (177, .sl 10 0 2), (178, .i 0), (179, .r 10 0), (180, .u (.p none)), (181, .nl 16), (182, .i 0), (183, .sl 10 0 2), (184, .i 0), (185, .r 10 0), (186, .u (.p none))]
def nbEXT50 (v : NbV) : Fr := puF (nbEXT46 v) [(161, .i 1), (162, .u (.b false)), (163, .u (.b false)), (164, .u (.b false)), (165, .sl 10 0 2), (166, .i 0), (167, .r 10 0), (168, .u (.p none)), (169, .r 1 2), (170, .i v.a11), (171, .r 1 1), (172, .i v.a10), (173, .i 1), (174, .u (.b false)), (175, .u (.b false)), (176, .u (.b false)), (177, .sl 10 0 2), (178, .i 0), (179, .r 10 0), (180, .u (.p none)), (181, .nl 16), (182, .i 0), (183, .sl 10 0 2), (184, .i 0), (185, .r 10 0), (186, .u (.p none)), (187, .nl 2), (188, .i 0), (189, .i 0), (190, .u (.b false)), (191, .u (.b false)), (192, .u (.b false)), (193, .sl 10 0 2), (194, .i 0), (195, .r 10 0), (196, .u (.p none))]
def nbEXT51 (v : NbV) : Fr := puF (nbEXT46 v) [(161, .i 1), (162, .u (.b false)), (163, .u (.b false)), (164, .u (.b false)), (165, .sl 10 0 2), (166, .i 0), (167, .r 10 0), (168, .u (.p none)), (169, .r 1 2), (170, .i v.a11), (171, .r 1 1), (172, .i v.a10), (173, .i 1), (174, .u (.b false)), (175, .u (.b false)), (176, .u (.b false)), (177, .sl 10 0 2), (178, .i 0), (179, .r 10 0), (180, .u (.p none)), (181, .nl 16), (182, .i 0), (183, .sl 10 0 2), (184, .i 0), (185, .r 10 0), (186, .u (.p none)), (187, .nl 2), (188, .i 0), (189, .i 0), (190, .u (.b false)), (191, .u (.b false)), (192, .u (.b false)), (193, .sl 10 0 2), (194, .i 0), (195, .r 10 0), (196, .u (.p none)), (197, .u (.p none)), (198, .u (.b false)), (199, .u (.b false))]
theorem nbEXn46 (v : NbV) (H : NbH v true true v.e false false) : nbEXevD (cOp nbEXC34) (0, [91, 90, 89, 88, 87, 86, 85, 84, 83, 82, 81, 80, 79, 74, 73, 78, 77, 76, 75, 72, 71, 70, 69, 68, 67, 66, 65, 64, 63, 62, 61, 60, 59, 58, 57, 56, 55, 54, 53, 52, 51, 50, 49, 48, 47, 46, 45, 44, 43, 42, 41, 40, 39, 38, 37, 36, 35, 34, 33, 32, 31, 30, 29, 28, 27, 26, 25, 24, 23, 22, 21, 20, 19, 18, 17, 16, 15, 14, 13, 12, 11, 10, 9, 8, 7, 6, 5, 4, 3, 2, 1, 0], [(88, [10]), (80, []), (74, []), (78, [10]), (72, [10]), (64, [1]), (62, [1]), (60, [10]), (52, [1]), (50, [10]), (42, [1]), (40, [1]), (38, [10]), (30, [1]), (28, [1]), (26, [10]), (18, [1]), (16, [1]), (14, [10])], (nbEXT51 v), (nbEXM38 v)) [((nbEXT51 v), (nbEXM38 v))] := EvD.codeA
theorem nbEXn47 (v : NbV) (H : NbH v true true v.e false false) : nbEXevD (cOp nbEXC34) (2, [89, 88, 87, 86, 85, 84, 83, 82, 81, 80, 79, 74, 73, 78, 77, 76, 75, 72, 71, 70, 69, 68, 67, 66, 65, 64, 63, 62, 61, 60, 59, 58, 57, 56, 55, 54, 53, 52, 51, 50, 49, 48, 47, 46, 45, 44, 43, 42, 41, 40, 39, 38, 37, 36, 35, 34, 33, 32, 31, 30, 29, 28, 27, 26, 25, 24, 23, 22, 21, 20, 19, 18, 17, 16, 15, 14, 13, 12, 11, 10, 9, 8, 7, 6, 5, 4, 3, 2, 1, 0], [(88, [10]), (80, []), (74, []), (78, [10]), (72, [10]), (64, [1]), (62, [1]), (60, [10]), (52, [1]), (50, [10]), (42, [1]), (40, [1]), (38, [10]), (30, [1]), (28, [1]), (26, [10]), (18, [1]), (16, [1]), (14, [10])], (cPut (opAt (cOp nbEXC34) 89).dst).p (nbEXT50 v) (renV (fK [] ((nbEXM38 v)).length) (.u (.p none))), backM (nbEXM38 v) [] ((nbE0k11Mm v))) [((nbEXT51 v), (nbEXM38 v))] := EvD.stepsA (j := 2) (nbEXn46 v H)
theorem nbEXn48 (v : NbV) (H : NbH v true true v.e false false) : nbEXevD (cOp nbEXC34) (3, [88, 87, 86, 85, 84, 83, 82, 81, 80, 79, 74, 73, 78, 77, 76, 75, 72, 71, 70, 69, 68, 67, 66, 65, 64, 63, 62, 61, 60, 59, 58, 57, 56, 55, 54, 53, 52, 51, 50, 49, 48, 47, 46, 45, 44, 43, 42, 41, 40, 39, 38, 37, 36, 35, 34, 33, 32, 31, 30, 29, 28, 27, 26, 25, 24, 23, 22, 21, 20, 19, 18, 17, 16, 15, 14, 13, 12, 11, 10, 9, 8, 7, 6, 5, 4, 3, 2, 1, 0], [(88, [10]), (80, []), (74, []), (78, [10]), (72, [10]), (64, [1]), (62, [1]), (60, [10]), (52, [1]), (50, [10]), (42, [1]), (40, [1]), (38, [10]), (30, [1]), (28, [1]), (26, [10]), (18, [1]), (16, [1]), (14, [10])], (nbEXT50 v), (nbEXM38 v)) [((nbEXT51 v), (nbEXM38 v))] := EvD.oneA 89 (EvE.callA (args := [.u (.p none)]) (a := []) (cc := []) 89 (nbE0k11_run v) (nbEXn47 v H))
theorem nbEXn49 (v : NbV) (H : NbH v true true v.e false false) : nbEXevD (cOp nbEXC34) (12, [79, 74, 73, 78, 77, 76, 75, 72, 71, 70, 69, 68, 67, 66, 65, 64, 63, 62, 61, 60, 59, 58, 57, 56, 55, 54, 53, 52, 51, 50, 49, 48, 47, 46, 45, 44, 43, 42, 41, 40, 39, 38, 37, 36, 35, 34, 33, 32, 31, 30, 29, 28, 27, 26, 25, 24, 23, 22, 21, 20, 19, 18, 17, 16, 15, 14, 13, 12, 11, 10, 9, 8, 7, 6, 5, 4, 3, 2, 1, 0], [(74, []), (78, [10]), (72, [10]), (64, [1]), (62, [1]), (60, [10]), (52, [1]), (50, [10]), (42, [1]), (40, [1]), (38, [10]), (30, [1]), (28, [1]), (26, [10]), (18, [1]), (16, [1]), (14, [10])], (cPut (opAt (cOp nbEXC34) 79).dst).p (nbEXT49 v) (renV (fK [] ((nbEXM38 v)).length) (.nl 2)), backM (nbEXM38 v) [] ((nbE0k10Mm v))) [((nbEXT51 v), (nbEXM38 v))] := EvD.stepsA (j := 9) (nbEXn48 v H)
theorem nbEXn50 (v : NbV) (H : NbH v true true v.e false false) : nbEXevD (cOp nbEXC34) (13, [74, 73, 78, 77, 76, 75, 72, 71, 70, 69, 68, 67, 66, 65, 64, 63, 62, 61, 60, 59, 58, 57, 56, 55, 54, 53, 52, 51, 50, 49, 48, 47, 46, 45, 44, 43, 42, 41, 40, 39, 38, 37, 36, 35, 34, 33, 32, 31, 30, 29, 28, 27, 26, 25, 24, 23, 22, 21, 20, 19, 18, 17, 16, 15, 14, 13, 12, 11, 10, 9, 8, 7, 6, 5, 4, 3, 2, 1, 0], [(74, []), (78, [10]), (72, [10]), (64, [1]), (62, [1]), (60, [10]), (52, [1]), (50, [10]), (42, [1]), (40, [1]), (38, [10]), (30, [1]), (28, [1]), (26, [10]), (18, [1]), (16, [1]), (14, [10])], (nbEXT49 v), (nbEXM38 v)) [((nbEXT51 v), (nbEXM38 v))] := EvD.oneA 79 (EvE.callA (args := [.u (.p none)]) (a := []) (cc := []) 79 (nbE0k10_run v) (nbEXn49 v H))
theorem nbEXn51 (v : NbV) (H : NbH v true true v.e false false) : nbEXevD (cOp nbEXC34) (14, [73, 78, 77, 76, 75, 72, 71, 70, 69, 68, 67, 66, 65, 64, 63, 62, 61, 60, 59, 58, 57, 56, 55, 54, 53, 52, 51, 50, 49, 48, 47, 46, 45, 44, 43, 42, 41, 40, 39, 38, 37, 36, 35, 34, 33, 32, 31, 30, 29, 28, 27, 26, 25, 24, 23, 22, 21, 20, 19, 18, 17, 16, 15, 14, 13, 12, 11, 10, 9, 8, 7, 6, 5, 4, 3, 2, 1, 0], [(78, [10]), (72, [10]), (64, [1]), (62, [1]), (60, [10]), (52, [1]), (50, [10]), (42, [1]), (40, [1]), (38, [10]), (30, [1]), (28, [1]), (26, [10]), (18, [1]), (16, [1]), (14, [10])], (cPut (opAt (cOp nbEXC34) 73).dst).p (nbEXT48 v) (renV (fK [] ((nbEXM38 v)).length) (.nl 16)), backM (nbEXM38 v) [] ((nbE0k9Mm v))) [((nbEXT51 v), (nbEXM38 v))] := EvD.stepsA (j := 1) (nbEXn50 v H)
theorem nbEXn52 (v : NbV) (H : NbH v true true v.e false false) : nbEXevD (cOp nbEXC34) (15, [78, 77, 76, 75, 72, 71, 70, 69, 68, 67, 66, 65, 64, 63, 62, 61, 60, 59, 58, 57, 56, 55, 54, 53, 52, 51, 50, 49, 48, 47, 46, 45, 44, 43, 42, 41, 40, 39, 38, 37, 36, 35, 34, 33, 32, 31, 30, 29, 28, 27, 26, 25, 24, 23, 22, 21, 20, 19, 18, 17, 16, 15, 14, 13, 12, 11, 10, 9, 8, 7, 6, 5, 4, 3, 2, 1, 0], [(78, [10]), (72, [10]), (64, [1]), (62, [1]), (60, [10]), (52, [1]), (50, [10]), (42, [1]), (40, [1]), (38, [10]), (30, [1]), (28, [1]), (26, [10]), (18, [1]), (16, [1]), (14, [10])], (nbEXT48 v), (nbEXM38 v)) [((nbEXT51 v), (nbEXM38 v))] := EvD.oneA 73 (EvE.callA (args := [.u (.p none)]) (a := []) (cc := []) 73 (nbE0k9_run v) (nbEXn51 v H))
theorem nbEXn53 (v : NbV) (H : NbH v true true v.e false false) : nbEXevD (cOp nbEXC34) (26, [65, 64, 63, 62, 61, 60, 59, 58, 57, 56, 55, 54, 53, 52, 51, 50, 49, 48, 47, 46, 45, 44, 43, 42, 41, 40, 39, 38, 37, 36, 35, 34, 33, 32, 31, 30, 29, 28, 27, 26, 25, 24, 23, 22, 21, 20, 19, 18, 17, 16, 15, 14, 13, 12, 11, 10, 9, 8, 7, 6, 5, 4, 3, 2, 1, 0], [(64, [1]), (62, [1]), (60, [10]), (52, [1]), (50, [10]), (42, [1]), (40, [1]), (38, [10]), (30, [1]), (28, [1]), (26, [10]), (18, [1]), (16, [1]), (14, [10])], (cPut (opAt (cOp nbEXC34) 65).dst).p (nbEXT47 v) (renV (fK [] ((nbEXM38 v)).length) (.i 1)), backM (nbEXM38 v) [] ((nbE0k8Mm v))) [((nbEXT51 v), (nbEXM38 v))] := EvD.stepsA (j := 11) (nbEXn52 v H)
theorem nbEXn54 (v : NbV) (H : NbH v true true v.e false false) : nbEXevD (cOp nbEXC34) (27, [64, 63, 62, 61, 60, 59, 58, 57, 56, 55, 54, 53, 52, 51, 50, 49, 48, 47, 46, 45, 44, 43, 42, 41, 40, 39, 38, 37, 36, 35, 34, 33, 32, 31, 30, 29, 28, 27, 26, 25, 24, 23, 22, 21, 20, 19, 18, 17, 16, 15, 14, 13, 12, 11, 10, 9, 8, 7, 6, 5, 4, 3, 2, 1, 0], [(64, [1]), (62, [1]), (60, [10]), (52, [1]), (50, [10]), (42, [1]), (40, [1]), (38, [10]), (30, [1]), (28, [1]), (26, [10]), (18, [1]), (16, [1]), (14, [10])], (nbEXT47 v), (nbEXM38 v)) [((nbEXT51 v), (nbEXM38 v))] := EvD.oneA 65 (EvE.callA (args := [.u (.p none), .i v.a11, .i v.a10]) (a := []) (cc := []) 65 (nbE0k8_run v) (nbEXn53 v H))
theorem nbEXn55 (v : NbV) (H : NbH v true true v.e false false) : nbEXevD (cOp nbEXC34) (38, [53, 52, 51, 50, 49, 48, 47, 46, 45, 44, 43, 42, 41, 40, 39, 38, 37, 36, 35, 34, 33, 32, 31, 30, 29, 28, 27, 26, 25, 24, 23, 22, 21, 20, 19, 18, 17, 16, 15, 14, 13, 12, 11, 10, 9, 8, 7, 6, 5, 4, 3, 2, 1, 0], [(52, [1]), (50, [10]), (42, [1]), (40, [1]), (38, [10]), (30, [1]), (28, [1]), (26, [10]), (18, [1]), (16, [1]), (14, [10])], (cPut (opAt (cOp nbEXC34) 53).dst).p (nbEXT46 v) (renV (fK [] ((nbEXM38 v)).length) (.i 1)), backM (nbEXM38 v) [] ((nbE0k7Mm v))) [((nbEXT51 v), (nbEXM38 v))] := EvD.stepsA (j := 11) (nbEXn54 v H)
theorem nbEXn56 (v : NbV) (H : NbH v true true v.e false false) : nbEXevD (cOp nbEXC34) (39, [52, 51, 50, 49, 48, 47, 46, 45, 44, 43, 42, 41, 40, 39, 38, 37, 36, 35, 34, 33, 32, 31, 30, 29, 28, 27, 26, 25, 24, 23, 22, 21, 20, 19, 18, 17, 16, 15, 14, 13, 12, 11, 10, 9, 8, 7, 6, 5, 4, 3, 2, 1, 0], [(52, [1]), (50, [10]), (42, [1]), (40, [1]), (38, [10]), (30, [1]), (28, [1]), (26, [10]), (18, [1]), (16, [1]), (14, [10])], (nbEXT46 v), (nbEXM38 v)) [((nbEXT51 v), (nbEXM38 v))] := EvD.oneA 53 (EvE.callA (args := [.u (.p none), .i v.a10]) (a := []) (cc := []) 53 (nbE0k7_run v) (nbEXn55 v H))
theorem nbEXn57 (v : NbV) (H : NbH v true true v.e false false) : nbEXevD (cOp nbEXC34) (48, [43, 42, 41, 40, 39, 38, 37, 36, 35, 34, 33, 32, 31, 30, 29, 28, 27, 26, 25, 24, 23, 22, 21, 20, 19, 18, 17, 16, 15, 14, 13, 12, 11, 10, 9, 8, 7, 6, 5, 4, 3, 2, 1, 0], [(42, [1]), (40, [1]), (38, [10]), (30, [1]), (28, [1]), (26, [10]), (18, [1]), (16, [1]), (14, [10])], (cPut (opAt (cOp nbEXC34) 43).dst).p (nbEXT45 v) (renV (fK [] ((nbEXM38 v)).length) (.i 1)), backM (nbEXM38 v) [] ((nbE0k6Mm v))) [((nbEXT51 v), (nbEXM38 v))] := EvD.stepsA (j := 9) (nbEXn56 v H)
theorem nbEXn58 (v : NbV) (H : NbH v true true v.e false false) : nbEXevD (cOp nbEXC34) (49, [42, 41, 40, 39, 38, 37, 36, 35, 34, 33, 32, 31, 30, 29, 28, 27, 26, 25, 24, 23, 22, 21, 20, 19, 18, 17, 16, 15, 14, 13, 12, 11, 10, 9, 8, 7, 6, 5, 4, 3, 2, 1, 0], [(42, [1]), (40, [1]), (38, [10]), (30, [1]), (28, [1]), (26, [10]), (18, [1]), (16, [1]), (14, [10])], (nbEXT45 v), (nbEXM38 v)) [((nbEXT51 v), (nbEXM38 v))] := EvD.oneA 43 (EvE.callA (args := [.u (.p none), .i v.a11, .i v.a10]) (a := []) (cc := []) 43 (nbE0k6_run v) (nbEXn57 v H))
theorem nbEXn59 (v : NbV) (H : NbH v true true v.e false false) : nbEXevD (cOp nbEXC34) (60, [31, 30, 29, 28, 27, 26, 25, 24, 23, 22, 21, 20, 19, 18, 17, 16, 15, 14, 13, 12, 11, 10, 9, 8, 7, 6, 5, 4, 3, 2, 1, 0], [(30, [1]), (28, [1]), (26, [10]), (18, [1]), (16, [1]), (14, [10])], (cPut (opAt (cOp nbEXC34) 31).dst).p (nbEXT44 v) (renV (fK [] ((nbEXM38 v)).length) (.i 1)), backM (nbEXM38 v) [] ((nbE0k5Mm v))) [((nbEXT51 v), (nbEXM38 v))] := EvD.stepsA (j := 11) (nbEXn58 v H)
theorem nbEXn60 (v : NbV) (H : NbH v true true v.e false false) : nbEXevD (cOp nbEXC34) (61, [30, 29, 28, 27, 26, 25, 24, 23, 22, 21, 20, 19, 18, 17, 16, 15, 14, 13, 12, 11, 10, 9, 8, 7, 6, 5, 4, 3, 2, 1, 0], [(30, [1]), (28, [1]), (26, [10]), (18, [1]), (16, [1]), (14, [10])], (nbEXT44 v), (nbEXM38 v)) [((nbEXT51 v), (nbEXM38 v))] := EvD.oneA 31 (EvE.callA (args := [.u (.p none), .i v.a11, .i v.a10]) (a := []) (cc := []) 31 (nbE0k5_run v) (nbEXn59 v H))
theorem nbEXn61 (v : NbV) (H : NbH v true true v.e false false) : nbEXevD (cOp nbEXC34) (72, [19, 18, 17, 16, 15, 14, 13, 12, 11, 10, 9, 8, 7, 6, 5, 4, 3, 2, 1, 0], [(18, [1]), (16, [1]), (14, [10])], (cPut (opAt (cOp nbEXC34) 19).dst).p (nbEXT43 v) (renV (fK [] ((nbEXM38 v)).length) (.i 1)), backM (nbEXM38 v) [] ((nbE0k4Mm v))) [((nbEXT51 v), (nbEXM38 v))] := EvD.stepsA (j := 11) (nbEXn60 v H)
theorem nbEXn62 (v : NbV) (H : NbH v true true v.e false false) : nbEXevD (cOp nbEXC34) (73, [18, 17, 16, 15, 14, 13, 12, 11, 10, 9, 8, 7, 6, 5, 4, 3, 2, 1, 0], [(18, [1]), (16, [1]), (14, [10])], (nbEXT43 v), (nbEXM38 v)) [((nbEXT51 v), (nbEXM38 v))] := EvD.oneA 19 (EvE.callA (args := [.u (.p none), .i v.a11, .i v.a10]) (a := []) (cc := []) 19 (nbE0k4_run v) (nbEXn61 v H))
def nbEXT52 (v : NbV) : Fr := puF (nbEXT46 v) [(161, .i 1), (162, .u (.b false)), (163, .u (.b false)), (164, .u (.b false)), (165, .sl 10 0 2), (166, .i 0), (167, .r 10 0), (168, .u (.p none)), (169, .r 1 2), (170, .i v.a11), (171, .r 1 1), (172, .i v.a10), (173, .i 1), (174, .u (.b false)), (175, .u (.b false)), (176, .u (.b false)), (177, .sl 10 0 2), (178, .i 0), (179, .r 10 0), (180, .u (.p none)), (181, .nl 16), (182, .i 0), (183, .sl 10 0 2), (184, .i 0), (185, .r 10 0), (186, .u (.p none)), (187, .nl 2), (188, .i 0), (189, .i 0), (190, .u (.b false)), (191, .u (.b false)), (192, .u (.b false)), (193, .sl 10 0 2), (194, .i 0), (195, .r 10 0), (196, .u (.p none)), (197, .u (.p none)), (198, .u (.b false)), (199, .u (.b false))]
def nbEXT53 (v : NbV) : Fr := puF (nbEXT46 v) [(161, .i 1), (162, .u (.b false)), (163, .u (.b false)), (164, .u (.b false)), (165, .sl 10 0 2), (166, .i 0), (167, .r 10 0), (168, .u (.p none)), (169, .r 1 2), (170, .i v.a11), (171, .r 1 1), (172, .i v.a10), (173, .i 1), (174, .u (.b false)), (175, .u (.b false)), (176, .u (.b false)), (177, .sl 10 0 2), (178, .i 0), (179, .r 10 0), (180, .u (.p none)), (181, .nl 16), (182, .i 0), (183, .sl 10 0 2), (184, .i 0), (185, .r 10 0), (186, .u (.p none)), (187, .nl 2), (188, .i 0), (189, .i 0), (190, .u (.b false)), (191, .u (.b false)), (192, .u (.b false)), (193, .sl 10 0 2), (194, .i 0), (195, .r 10 0), (196, .u (.p none)), (197, .u (.p none)), (198, .u (.b false)), (199, .u (.b false))]
def nbEXT54 (v : NbV) : Fr := puF (nbEXT46 v) [(12, .i 1), (84, .i 0), (85, .i 1), (161, .i 1), (162, .u (.b false)), (163, .u (.b false)), (164, .u (.b false)), (165, .sl 10 0 2), (166, .i 0), (167, .r 10 0), (168, .u (.p none)), (169, .r 1 2), (170, .i v.a11), (171, .r 1 1), (172, .i v.a10), (173, .i 1), (174, .u (.b false)), (175, .u (.b false)), (176, .u (.b false)), (177, .sl 10 0 2), (178, .i 0), (179, .r 10 0), (180, .u (.p none)), (181, .nl 16), (182, .i 0), (183, .sl 10 0 2), (184, .i 0), (185, .r 10 0), (186, .u (.p none)), (187, .nl 2), (188, .i 0), (189, .i 0), (190, .u (.b false)), (191, .u (.b false)), (192, .u (.b false)), (193, .sl 10 0 2), (194, .i 0), (195, .r 10 0), (196, .u (.p none)), (197, .u (.p none)), (198, .u (.b false)), (199, .u (.b false))]
theorem nbEXn72 (v : NbV) (H : NbH v true true v.e false false) : nbEXev nbEXC26 (nbEXT31 v) (nbEXM30 v) [(.nrm, (nbEXT54 v), (nbEXM38 v))] := Ev.piecesA (k := 1) (t1 := nbEXT32 v) (m1 := nbEXM30 v) (Ev.seqPA (t1 := nbEXT53 v) (m1 := nbEXM38 v) (Ev.blockP (e := .nrm) (by kernel_rfl) (by kernel_rfl) (Ev.seqPA (t1 := nbEXT35 v) (m1 := nbEXM30 v) (Ev.regD2 (outs := [((nbEXT34 v), (nbEXM30 v))]) (by kernel_rfl) (by kernel_rfl) (by kernel_rfl) (EvD.stepsA (j := 8) (nbEXn32 v H)) ⟨by kernel_rfl, trivial⟩) (Ev.seqPA (t1 := nbEXT37 v) (m1 := nbEXM38 v) (Ev.regD2 (outs := [((nbEXT37 v), (nbEXM38 v)), ((nbEXT37 v), (nbEXM38 v))]) (by kernel_rfl) (by kernel_rfl) (by kernel_rfl) (EvD.stepsA (j := 6) (nbEXn43 v H)) ⟨by kernel_rfl, by kernel_rfl, trivial⟩) (Ev.seqPA (t1 := nbEXT52 v) (m1 := nbEXM38 v) (Ev.regD2 (outs := [((nbEXT51 v), (nbEXM38 v))]) (by kernel_rfl) (by kernel_rfl) (by kernel_rfl) (EvD.stepsA (j := 19) (nbEXn62 v H)) ⟨by kernel_rfl, trivial⟩) Ev.codeA)))) Ev.codeA)
def nbEXT55 (v : NbV) : Fr := puF (nbEXT46 v) [(12, .i 1), (80, .i 1), (84, .i 0), (85, .i 1), (161, .i 1), (162, .u (.b false)), (163, .u (.b false)), (164, .u (.b false)), (165, .sl 10 0 2), (166, .i 0), (167, .r 10 0), (168, .u (.p none)), (169, .r 1 2), (170, .i v.a11), (171, .r 1 1), (172, .i v.a10), (173, .i 1), (174, .u (.b false)), (175, .u (.b false)), (176, .u (.b false)), (177, .sl 10 0 2), (178, .i 0), (179, .r 10 0), (180, .u (.p none)), (181, .nl 16), (182, .i 0), (183, .sl 10 0 2), (184, .i 0), (185, .r 10 0), (186, .u (.p none)), (187, .nl 2), (188, .i 0), (189, .i 0), (190, .u (.b false)), (191, .u (.b false)), (192, .u (.b false)), (193, .sl 10 0 2), (194, .i 0), (195, .r 10 0), (196, .u (.p none)), (197, .u (.p none)), (198, .u (.b false)), (199, .u (.b false))]
def nbEXT56 (v : NbV) : Fr := puF (nbEXT46 v) [(12, .i 1), (80, .i 1), (84, .i 0), (85, .i 1), (88, .i 1), (89, .r 10 1), (90, .r 9 0), (161, .i 1), (162, .u (.b false)), (163, .u (.b false)), (164, .u (.b false)), (165, .sl 10 0 2), (166, .i 0), (167, .r 10 0), (168, .u (.p none)), (169, .r 1 2), (170, .i v.a11), (171, .r 1 1), (172, .i v.a10), (173, .i 1), (174, .u (.b false)), (175, .u (.b false)), (176, .u (.b false)), (177, .sl 10 0 2), (178, .i 0), (179, .r 10 0), (180, .u (.p none)), (181, .nl 16), (182, .i 0), (183, .sl 10 0 2), (184, .i 0), (185, .r 10 0), (186, .u (.p none)), (187, .nl 2), (188, .i 0), (189, .i 0), (190, .u (.b false)), (191, .u (.b false)), (192, .u (.b false)), (193, .sl 10 0 2), (194, .i 0), (195, .r 10 0), (196, .u (.p none)), (197, .u (.p none)), (198, .u (.b false)), (199, .u (.b false))]
def nbEXT57 (v : NbV) : Fr := puF (nbEXT46 v) [(12, .i 1), (80, .i 1), (84, .i 0), (85, .i 1), (88, .i 1), (89, .r 10 1), (90, .r 9 0), (161, .i 1), (162, .u (.b false)), (163, .u (.b false)), (164, .u (.b false)), (165, .sl 10 0 2), (166, .i 0), (167, .r 10 0), (168, .u (.p none)), (169, .r 1 2), (170, .i v.a11), (171, .r 1 1), (172, .i v.a10), (173, .i 1), (174, .u (.b false)), (175, .u (.b false)), (176, .u (.b false)), (177, .sl 10 0 2), (178, .i 0), (179, .r 10 0), (180, .u (.p none)), (181, .nl 16), (182, .i 0), (183, .sl 10 0 2), (184, .i 0), (185, .r 10 0), (186, .u (.p none)), (187, .nl 2), (188, .i 0), (189, .i 0), (190, .u (.b false)), (191, .u (.b false)), (192, .u (.b false)), (193, .sl 10 0 2), (194, .i 0), (195, .r 10 0), (196, .u (.p none)), (197, .u (.p none)), (198, .u (.b false)), (199, .u (.b false))]
theorem nbEXn73 (v : NbV) (H : NbH v true true v.e false false) : nbEXevD (cOp nbEXC30) (0, [13, 12, 11, 10, 9, 8, 7, 6, 5, 4, 3, 2, 1, 0], [(7, [1]), (5, [1]), (3, [10])], (nbEXT57 v), (nbEXM38 v)) [((nbEXT57 v), (nbEXM38 v))] := EvD.codeA
theorem nbEXn74 (v : NbV) (H : NbH v true true v.e false false) : nbEXevD (cOp nbEXC30) (5, [8, 7, 6, 5, 4, 3, 2, 1, 0], [(7, [1]), (5, [1]), (3, [10])], (cPut (opAt (cOp nbEXC30) 8).dst).p (nbEXT56 v) (renV (fK [9] ((nbEXM38 v)).length) (.t [.i 0, .i 1])), backM (nbEXM38 v) [9] ((nbE0k12Mm v))) [((nbEXT57 v), (nbEXM38 v))] := EvD.stepsA (j := 5) (nbEXn73 v H)
theorem nbEXn75 (v : NbV) (H : NbH v true true v.e false false) : nbEXevD (cOp nbEXC30) (6, [7, 6, 5, 4, 3, 2, 1, 0], [(7, [1]), (5, [1]), (3, [10])], (nbEXT56 v), (nbEXM38 v)) [((nbEXT57 v), (nbEXM38 v))] := EvD.oneA 8 (EvE.callA (args := [.r 9 0, .i v.a11, .a [.i v.a12, .i v.a13, .i v.a14, .i v.a15, .i v.a16, .i v.a17, .i v.a18, .i v.a19]]) (a := []) (cc := []) 8 (nbE0k12_run v) (nbEXn74 v H))
def nbEXT58 (v : NbV) : Fr := puF (nbEXT46 v) [(12, .i 1), (80, .i 1), (84, .i 0), (85, .i 1), (88, .i 1), (89, .r 10 1), (90, .r 9 0), (161, .i 1), (162, .u (.b false)), (163, .u (.b false)), (164, .u (.b false)), (165, .sl 10 0 2), (166, .i 0), (167, .r 10 0), (168, .u (.p none)), (169, .r 1 2), (170, .i v.a11), (171, .r 1 1), (172, .i v.a10), (173, .i 1), (174, .u (.b false)), (175, .u (.b false)), (176, .u (.b false)), (177, .sl 10 0 2), (178, .i 0), (179, .r 10 0), (180, .u (.p none)), (181, .nl 16), (182, .i 0), (183, .sl 10 0 2), (184, .i 0), (185, .r 10 0), (186, .u (.p none)), (187, .nl 2), (188, .i 0), (189, .i 0), (190, .u (.b false)), (191, .u (.b false)), (192, .u (.b false)), (193, .sl 10 0 2), (194, .i 0), (195, .r 10 0), (196, .u (.p none)), (197, .u (.p none)), (198, .u (.b false)), (199, .u (.b false))]
def nbEXT59 (v : NbV) : Fr := puF (nbEXT46 v) [(12, .i 1), (80, .i 1), (84, .i 0), (85, .i 1), (88, .i 1), (89, .r 10 1), (90, .r 9 0), (100, .i 1), (101, .r 10 1), (102, .r 9 0), (161, .i 1), (162, .u (.b false)), (163, .u (.b false)), (164, .u (.b false)), (165, .sl 10 0 2), (166, .i 0), (167, .r 10 0), (168, .u (.p none)), (169, .r 1 2), (170, .i v.a11), (171, .r 1 1), (172, .i v.a10), (173, .i 1), (174, .u (.b false)), (175, .u (.b false)), (176, .u (.b false)), (177, .sl 10 0 2), (178, .i 0), (179, .r 10 0), (180, .u (.p none)), (181, .nl 16), (182, .i 0), (183, .sl 10 0 2), (184, .i 0), (185, .r 10 0), (186, .u (.p none)), (187, .nl 2), (188, .i 0), (189, .i 0), (190, .u (.b false)), (191, .u (.b false)), (192, .u (.b false)), (193, .sl 10 0 2), (194, .i 0), (195, .r 10 0), (196, .u (.p none)), (197, .u (.p none)), (198, .u (.b false)), (199, .u (.b false))]
def nbEXT60 (v : NbV) : Fr := puF (nbEXT46 v) [(12, .i 1), (15, .r 12 0), (80, .i 1), (84, .i 0), (85, .i 1), (88, .i 1), (89, .r 10 1), (90, .r 9 0), (100, .i 1), (101, .r 10 1), (102, .r 9 0), (161, .i 1), (162, .u (.b false)), (163, .u (.b false)), (164, .u (.b false)), (165, .sl 10 0 2), (166, .i 0), (167, .r 10 0), (168, .u (.p none)), (169, .r 1 2), (170, .i v.a11), (171, .r 1 1), (172, .i v.a10), (173, .i 1), (174, .u (.b false)), (175, .u (.b false)), (176, .u (.b false)), (177, .sl 10 0 2), (178, .i 0), (179, .r 10 0), (180, .u (.p none)), (181, .nl 16), (182, .i 0), (183, .sl 10 0 2), (184, .i 0), (185, .r 10 0), (186, .u (.p none)), (187, .nl 2), (188, .i 0), (189, .i 0), (190, .u (.b false)), (191, .u (.b false)), (192, .u (.b false)), (193, .sl 10 0 2), (194, .i 0), (195, .r 10 0), (196, .u (.p none)), (197, .u (.p none)), (198, .u (.b false)), (199, .u (.b false))]
def nbEXM61 (v : NbV) : Mem := paM (nbEXM38 v) [] [.c [.i 0, .i 0, .i 0, .i 0, .i 0, .i 0, .i 0, .i 0, .i 0, .i 0, .i 0, .nl 2, .i 0, .i 0, .i 0, .i 0]]
theorem nbEXn78 (v : NbV) (H : NbH v true true v.e false false) : nbEXevD (cOp nbEXC32) (0, [12, 11, 10, 9, 8, 7, 6, 5, 4, 3, 2, 1, 0], [(5, [1]), (3, [10])], (nbEXT60 v), (nbEXM61 v)) [((nbEXT60 v), (nbEXM61 v))] := EvD.codeA
theorem nbEXn79 (v : NbV) (H : NbH v true true v.e false false) : nbEXevD (cOp nbEXC32) (6, [6, 5, 4, 3, 2, 1, 0], [(5, [1]), (3, [10])], (cPut (opAt (cOp nbEXC32) 6).dst).p (nbEXT59 v) (renV (fK [9] ((nbEXM38 v)).length) (.t [.a [.i 0, .i 0, .i 0, .i 0, .i 0, .i 0, .i 0, .i 0, .i 0, .i 0, .i 0, .nl 2, .i 0, .i 0, .i 0, .i 0], .i 1])), backM (nbEXM38 v) [9] ((nbE0k13Mm v))) [((nbEXT60 v), (nbEXM61 v))] := EvD.stepsA (j := 6) (nbEXn78 v H)
theorem nbEXn80 (v : NbV) (H : NbH v true true v.e false false) : nbEXevE (cOp nbEXC32) 6 6 [5, 4, 3, 2, 1, 0] [(5, [1]), (3, [10])] (nbEXT59 v) (nbEXM38 v) [((nbEXT60 v), (nbEXM61 v))] := EvE.callA (args := [.r 9 0, .i v.a10]) (a := []) (cc := []) 6 (nbE0k13_run v) (nbEXn79 v H)
def nbEXT62 (v : NbV) : Fr := puF (nbE0T65 v) [(7, .u (.p none)), (8, .i v.e), (10, .i v.e), (11, .sl 10 0 2), (15, .r 12 0), (25, .t [.u (.p none), .i v.e]), (34, .t [.u (.p none), .i v.e]), (35, .u (.p none)), (36, .i v.e), (40, .i v.e), (42, .i v.e), (46, .u (.p none)), (47, .u (.b false)), (48, .i v.e), (49, .u (.b false)), (52, .t [.u (.p none), .i v.e]), (55, .r 7 0), (58, .r 8 0), (59, .t [.u (.p none), .i v.e]), (61, .i v.e), (62, .i v.e), (63, .u (.b false)), (64, .u (.b false)), (65, .t []), (66, .t []), (69, .i v.e), (70, .u (.b true)), (71, .u (.b true)), (72, .i v.e), (73, .i v.e), (74, .u (.b false)), (78, .r 9 0), (79, .sl 10 0 2), (81, .sl 10 0 2), (87, .sl 10 0 2), (89, .r 10 1), (90, .r 9 0), (99, .sl 10 0 2), (101, .r 10 1), (102, .r 9 0), (119, .sl 10 0 2), (121, .r 10 0), (131, .sl 10 0 2), (133, .r 10 0), (143, .sl 10 0 2), (145, .r 10 0), (155, .sl 10 0 2), (157, .r 10 0), (165, .sl 10 0 2), (167, .r 10 0), (177, .sl 10 0 2), (179, .r 10 0), (183, .sl 10 0 2), (185, .r 10 0), (193, .sl 10 0 2), (195, .r 10 0)]
theorem nbEXn81 (v : NbV) (H : NbH v true true v.e false false) : nbEXevD (cOp nbEXC32) (0, [12, 11, 9, 8, 7, 6, 10, 5, 4, 3, 2, 1, 0], [(5, [1]), (3, [10])], (nbEXT62 v), (nbEXM61 v)) [((nbEXT62 v), (nbEXM61 v))] := EvD.codeA
theorem nbEXn82 (v : NbV) (H : NbH v true true v.e false false) : nbEXevD (cOp nbEXC32) (5, [6, 10, 5, 4, 3, 2, 1, 0], [(5, [1]), (3, [10])], (cPut (opAt (cOp nbEXC32) 6).dst).p (nbEXT62 v) (renV (fK [9] ((nbEXM61 v)).length) (.t [.a [.i 0, .i 0, .i 0, .i 0, .i 0, .i 0, .i 0, .i 0, .i 0, .i 0, .i 0, .nl 2, .i 0, .i 0, .i 0, .i 0], .i 1])), backM (nbEXM61 v) [9] ((nbE0k13Mm v))) [((nbEXT62 v), (nbEXM61 v))] := EvD.stepsA (j := 5) (nbEXn81 v H)
theorem nbEXn83 (v : NbV) (H : NbH v true true v.e false false) : nbEXevD (cOp nbEXC32) (6, [10, 5, 4, 3, 2, 1, 0], [(5, [1]), (3, [10])], (nbEXT62 v), (nbEXM61 v)) [((nbEXT62 v), (nbEXM61 v))] := EvD.oneA 6 (EvE.callA (args := [.r 9 0, .i v.a10]) (a := []) (cc := []) 6 (nbE0k13_run v) (nbEXn82 v H))
theorem nbEXn84 (v : NbV) (H : NbH v true true v.e false false) : nbEXevD (cOp nbEXC32) (6, [10, 5, 4, 3, 2, 1, 0], [(5, [1]), (3, [10])], (nbEXT62 v), (nbEXM61 v)) [((nbEXT62 v), (nbEXM61 v))] := EvD.stepsA (j := 0) (nbEXn83 v H)
theorem nbEXn85 (v : NbV) (H : NbH v true true v.e false false) : nbEXevE (cOp nbEXC32) 10 6 [5, 4, 3, 2, 1, 0] [(5, [1]), (3, [10])] (nbEXT59 v) (nbEXM38 v) [((nbEXT62 v), (nbEXM61 v))] := EvE.step (by kernel_rfl) (nbEXn84 v H)
theorem nbEXn86 (v : NbV) (H : NbH v true true v.e false false) : nbEXevD (cOp nbEXC32) (7, [5, 4, 3, 2, 1, 0], [(5, [1]), (3, [10])], (nbEXT59 v), (nbEXM38 v)) [((nbEXT60 v), (nbEXM61 v)), ((nbEXT62 v), (nbEXM61 v))] := EvD.two (o1 := [((nbEXT60 v), (nbEXM61 v))]) (o2 := [((nbEXT62 v), (nbEXM61 v))]) 6 10 (by kernel_rfl) (by kernel_rfl) (nbEXn80 v H) (nbEXn85 v H)
def nbEXT66 (v : NbV) : Fr := puF (nbEXT62 v) [(120, .i 1), (121, .r 10 1), (122, .r 9 0)]
def nbEXT67 (v : NbV) : Fr := puF (nbEXT66 v) [(132, .i 1), (133, .r 10 1), (134, .r 9 0)]
def nbEXT68 (v : NbV) : Fr := puF (nbEXT67 v) [(144, .i 1), (145, .r 10 1), (146, .r 9 0)]
def nbEXT69 (v : NbV) : Fr := puF (nbEXT68 v) [(156, .i 1), (157, .r 10 1), (158, .r 9 0)]
def nbEXT70 (v : NbV) : Fr := puF (nbEXT69 v) [(166, .i 1), (167, .r 10 1), (168, .r 9 0)]
def nbEXT71 (v : NbV) : Fr := puF (nbEXT69 v) [(166, .i 1), (167, .r 10 1), (168, .r 9 0), (178, .i 1), (179, .r 10 1), (180, .r 9 0), (184, .i 1), (185, .r 10 1), (186, .r 9 0)]
def nbEXT72 (v : NbV) : Fr := puF (nbEXT69 v) [(166, .i 1), (167, .r 10 1), (168, .r 9 0), (178, .i 1), (179, .r 10 1), (180, .r 9 0), (184, .i 1), (185, .r 10 1), (186, .r 9 0)]
def nbEXT73 (v : NbV) : Fr := puF (nbEXT69 v) [(166, .i 1), (167, .r 10 1), (168, .r 9 0), (178, .i 1), (179, .r 10 1), (180, .r 9 0), (184, .i 1), (185, .r 10 1), (186, .r 9 0), (194, .i 1), (195, .r 10 1), (196, .r 9 0)]
def nbEXT74 (v : NbV) : Fr := puF (nbEXT69 v) [(166, .i 1), (167, .r 10 1), (168, .r 9 0), (178, .i 1), (179, .r 10 1), (180, .r 9 0), (184, .i 1), (185, .r 10 1), (186, .r 9 0), (194, .i 1), (195, .r 10 1), (196, .r 9 0)]
theorem nbEXn89 (v : NbV) (H : NbH v true true v.e false false) : nbEXevD (cOp nbEXC34) (0, [91, 90, 89, 88, 87, 86, 85, 84, 83, 82, 81, 80, 79, 74, 73, 78, 77, 76, 75, 72, 71, 70, 69, 68, 67, 66, 65, 64, 63, 62, 61, 60, 59, 58, 57, 56, 55, 54, 53, 52, 51, 50, 49, 48, 47, 46, 45, 44, 43, 42, 41, 40, 39, 38, 37, 36, 35, 34, 33, 32, 31, 30, 29, 28, 27, 26, 25, 24, 23, 22, 21, 20, 19, 18, 17, 16, 15, 14, 13, 12, 11, 10, 9, 8, 7, 6, 5, 4, 3, 2, 1, 0], [(88, [10]), (80, []), (74, []), (78, [10]), (72, [10]), (64, [1]), (62, [1]), (60, [10]), (52, [1]), (50, [10]), (42, [1]), (40, [1]), (38, [10]), (30, [1]), (28, [1]), (26, [10]), (18, [1]), (16, [1]), (14, [10])], (nbEXT74 v), (nbEXM61 v)) [((nbEXT74 v), (nbEXM61 v))] := EvD.codeA
theorem nbEXn90 (v : NbV) (H : NbH v true true v.e false false) : nbEXevD (cOp nbEXC34) (2, [89, 88, 87, 86, 85, 84, 83, 82, 81, 80, 79, 74, 73, 78, 77, 76, 75, 72, 71, 70, 69, 68, 67, 66, 65, 64, 63, 62, 61, 60, 59, 58, 57, 56, 55, 54, 53, 52, 51, 50, 49, 48, 47, 46, 45, 44, 43, 42, 41, 40, 39, 38, 37, 36, 35, 34, 33, 32, 31, 30, 29, 28, 27, 26, 25, 24, 23, 22, 21, 20, 19, 18, 17, 16, 15, 14, 13, 12, 11, 10, 9, 8, 7, 6, 5, 4, 3, 2, 1, 0], [(88, [10]), (80, []), (74, []), (78, [10]), (72, [10]), (64, [1]), (62, [1]), (60, [10]), (52, [1]), (50, [10]), (42, [1]), (40, [1]), (38, [10]), (30, [1]), (28, [1]), (26, [10]), (18, [1]), (16, [1]), (14, [10])], (cPut (opAt (cOp nbEXC34) 89).dst).p (nbEXT73 v) (renV (fK [9] ((nbEXM61 v)).length) (.u (.p none))), backM (nbEXM61 v) [9] ((nbE0k21Mm v))) [((nbEXT74 v), (nbEXM61 v))] := EvD.stepsA (j := 2) (nbEXn89 v H)
theorem nbEXn91 (v : NbV) (H : NbH v true true v.e false false) : nbEXevD (cOp nbEXC34) (3, [88, 87, 86, 85, 84, 83, 82, 81, 80, 79, 74, 73, 78, 77, 76, 75, 72, 71, 70, 69, 68, 67, 66, 65, 64, 63, 62, 61, 60, 59, 58, 57, 56, 55, 54, 53, 52, 51, 50, 49, 48, 47, 46, 45, 44, 43, 42, 41, 40, 39, 38, 37, 36, 35, 34, 33, 32, 31, 30, 29, 28, 27, 26, 25, 24, 23, 22, 21, 20, 19, 18, 17, 16, 15, 14, 13, 12, 11, 10, 9, 8, 7, 6, 5, 4, 3, 2, 1, 0], [(88, [10]), (80, []), (74, []), (78, [10]), (72, [10]), (64, [1]), (62, [1]), (60, [10]), (52, [1]), (50, [10]), (42, [1]), (40, [1]), (38, [10]), (30, [1]), (28, [1]), (26, [10]), (18, [1]), (16, [1]), (14, [10])], (nbEXT73 v), (nbEXM61 v)) [((nbEXT74 v), (nbEXM61 v))] := EvD.oneA 89 (EvE.callA (args := [.r 9 0]) (a := []) (cc := []) 89 (nbE0k21_run v) (nbEXn90 v H))
theorem nbEXn92 (v : NbV) (H : NbH v true true v.e false false) : nbEXevD (cOp nbEXC34) (12, [79, 74, 73, 78, 77, 76, 75, 72, 71, 70, 69, 68, 67, 66, 65, 64, 63, 62, 61, 60, 59, 58, 57, 56, 55, 54, 53, 52, 51, 50, 49, 48, 47, 46, 45, 44, 43, 42, 41, 40, 39, 38, 37, 36, 35, 34, 33, 32, 31, 30, 29, 28, 27, 26, 25, 24, 23, 22, 21, 20, 19, 18, 17, 16, 15, 14, 13, 12, 11, 10, 9, 8, 7, 6, 5, 4, 3, 2, 1, 0], [(74, []), (78, [10]), (72, [10]), (64, [1]), (62, [1]), (60, [10]), (52, [1]), (50, [10]), (42, [1]), (40, [1]), (38, [10]), (30, [1]), (28, [1]), (26, [10]), (18, [1]), (16, [1]), (14, [10])], (cPut (opAt (cOp nbEXC34) 79).dst).p (nbEXT72 v) (renV (fK [9] ((nbEXM61 v)).length) (.nl 2)), backM (nbEXM61 v) [9] ((nbE0k20Mm v))) [((nbEXT74 v), (nbEXM61 v))] := EvD.stepsA (j := 9) (nbEXn91 v H)
theorem nbEXn93 (v : NbV) (H : NbH v true true v.e false false) : nbEXevD (cOp nbEXC34) (13, [74, 73, 78, 77, 76, 75, 72, 71, 70, 69, 68, 67, 66, 65, 64, 63, 62, 61, 60, 59, 58, 57, 56, 55, 54, 53, 52, 51, 50, 49, 48, 47, 46, 45, 44, 43, 42, 41, 40, 39, 38, 37, 36, 35, 34, 33, 32, 31, 30, 29, 28, 27, 26, 25, 24, 23, 22, 21, 20, 19, 18, 17, 16, 15, 14, 13, 12, 11, 10, 9, 8, 7, 6, 5, 4, 3, 2, 1, 0], [(74, []), (78, [10]), (72, [10]), (64, [1]), (62, [1]), (60, [10]), (52, [1]), (50, [10]), (42, [1]), (40, [1]), (38, [10]), (30, [1]), (28, [1]), (26, [10]), (18, [1]), (16, [1]), (14, [10])], (nbEXT72 v), (nbEXM61 v)) [((nbEXT74 v), (nbEXM61 v))] := EvD.oneA 79 (EvE.callA (args := [.r 9 0]) (a := []) (cc := []) 79 (nbE0k20_run v) (nbEXn92 v H))
theorem nbEXn94 (v : NbV) (H : NbH v true true v.e false false) : nbEXevD (cOp nbEXC34) (14, [73, 78, 77, 76, 75, 72, 71, 70, 69, 68, 67, 66, 65, 64, 63, 62, 61, 60, 59, 58, 57, 56, 55, 54, 53, 52, 51, 50, 49, 48, 47, 46, 45, 44, 43, 42, 41, 40, 39, 38, 37, 36, 35, 34, 33, 32, 31, 30, 29, 28, 27, 26, 25, 24, 23, 22, 21, 20, 19, 18, 17, 16, 15, 14, 13, 12, 11, 10, 9, 8, 7, 6, 5, 4, 3, 2, 1, 0], [(78, [10]), (72, [10]), (64, [1]), (62, [1]), (60, [10]), (52, [1]), (50, [10]), (42, [1]), (40, [1]), (38, [10]), (30, [1]), (28, [1]), (26, [10]), (18, [1]), (16, [1]), (14, [10])], (cPut (opAt (cOp nbEXC34) 73).dst).p (nbEXT71 v) (renV (fK [9] ((nbEXM61 v)).length) (.nl 16)), backM (nbEXM61 v) [9] ((nbE0k19Mm v))) [((nbEXT74 v), (nbEXM61 v))] := EvD.stepsA (j := 1) (nbEXn93 v H)
theorem nbEXn95 (v : NbV) (H : NbH v true true v.e false false) : nbEXevD (cOp nbEXC34) (15, [78, 77, 76, 75, 72, 71, 70, 69, 68, 67, 66, 65, 64, 63, 62, 61, 60, 59, 58, 57, 56, 55, 54, 53, 52, 51, 50, 49, 48, 47, 46, 45, 44, 43, 42, 41, 40, 39, 38, 37, 36, 35, 34, 33, 32, 31, 30, 29, 28, 27, 26, 25, 24, 23, 22, 21, 20, 19, 18, 17, 16, 15, 14, 13, 12, 11, 10, 9, 8, 7, 6, 5, 4, 3, 2, 1, 0], [(78, [10]), (72, [10]), (64, [1]), (62, [1]), (60, [10]), (52, [1]), (50, [10]), (42, [1]), (40, [1]), (38, [10]), (30, [1]), (28, [1]), (26, [10]), (18, [1]), (16, [1]), (14, [10])], (nbEXT71 v), (nbEXM61 v)) [((nbEXT74 v), (nbEXM61 v))] := EvD.oneA 73 (EvE.callA (args := [.r 9 0]) (a := []) (cc := []) 73 (nbE0k19_run v) (nbEXn94 v H))
theorem nbEXn96 (v : NbV) (H : NbH v true true v.e false false) : nbEXevD (cOp nbEXC34) (26, [65, 64, 63, 62, 61, 60, 59, 58, 57, 56, 55, 54, 53, 52, 51, 50, 49, 48, 47, 46, 45, 44, 43, 42, 41, 40, 39, 38, 37, 36, 35, 34, 33, 32, 31, 30, 29, 28, 27, 26, 25, 24, 23, 22, 21, 20, 19, 18, 17, 16, 15, 14, 13, 12, 11, 10, 9, 8, 7, 6, 5, 4, 3, 2, 1, 0], [(64, [1]), (62, [1]), (60, [10]), (52, [1]), (50, [10]), (42, [1]), (40, [1]), (38, [10]), (30, [1]), (28, [1]), (26, [10]), (18, [1]), (16, [1]), (14, [10])], (cPut (opAt (cOp nbEXC34) 65).dst).p (nbEXT70 v) (renV (fK [9] ((nbEXM61 v)).length) (.i 1)), backM (nbEXM61 v) [9] ((nbE0k18Mm v))) [((nbEXT74 v), (nbEXM61 v))] := EvD.stepsA (j := 11) (nbEXn95 v H)
theorem nbEXn97 (v : NbV) (H : NbH v true true v.e false false) : nbEXevD (cOp nbEXC34) (27, [64, 63, 62, 61, 60, 59, 58, 57, 56, 55, 54, 53, 52, 51, 50, 49, 48, 47, 46, 45, 44, 43, 42, 41, 40, 39, 38, 37, 36, 35, 34, 33, 32, 31, 30, 29, 28, 27, 26, 25, 24, 23, 22, 21, 20, 19, 18, 17, 16, 15, 14, 13, 12, 11, 10, 9, 8, 7, 6, 5, 4, 3, 2, 1, 0], [(64, [1]), (62, [1]), (60, [10]), (52, [1]), (50, [10]), (42, [1]), (40, [1]), (38, [10]), (30, [1]), (28, [1]), (26, [10]), (18, [1]), (16, [1]), (14, [10])], (nbEXT70 v), (nbEXM61 v)) [((nbEXT74 v), (nbEXM61 v))] := EvD.oneA 65 (EvE.callA (args := [.r 9 0, .i v.a11, .i v.a10]) (a := []) (cc := []) 65 (nbE0k18_run v) (nbEXn96 v H))
theorem nbEXn98 (v : NbV) (H : NbH v true true v.e false false) : nbEXevD (cOp nbEXC34) (38, [53, 52, 51, 50, 49, 48, 47, 46, 45, 44, 43, 42, 41, 40, 39, 38, 37, 36, 35, 34, 33, 32, 31, 30, 29, 28, 27, 26, 25, 24, 23, 22, 21, 20, 19, 18, 17, 16, 15, 14, 13, 12, 11, 10, 9, 8, 7, 6, 5, 4, 3, 2, 1, 0], [(52, [1]), (50, [10]), (42, [1]), (40, [1]), (38, [10]), (30, [1]), (28, [1]), (26, [10]), (18, [1]), (16, [1]), (14, [10])], (cPut (opAt (cOp nbEXC34) 53).dst).p (nbEXT69 v) (renV (fK [9] ((nbEXM61 v)).length) (.i 1)), backM (nbEXM61 v) [9] ((nbE0k17Mm v))) [((nbEXT74 v), (nbEXM61 v))] := EvD.stepsA (j := 11) (nbEXn97 v H)
theorem nbEXn99 (v : NbV) (H : NbH v true true v.e false false) : nbEXevD (cOp nbEXC34) (39, [52, 51, 50, 49, 48, 47, 46, 45, 44, 43, 42, 41, 40, 39, 38, 37, 36, 35, 34, 33, 32, 31, 30, 29, 28, 27, 26, 25, 24, 23, 22, 21, 20, 19, 18, 17, 16, 15, 14, 13, 12, 11, 10, 9, 8, 7, 6, 5, 4, 3, 2, 1, 0], [(52, [1]), (50, [10]), (42, [1]), (40, [1]), (38, [10]), (30, [1]), (28, [1]), (26, [10]), (18, [1]), (16, [1]), (14, [10])], (nbEXT69 v), (nbEXM61 v)) [((nbEXT74 v), (nbEXM61 v))] := EvD.oneA 53 (EvE.callA (args := [.r 9 0, .i v.a10]) (a := []) (cc := []) 53 (nbE0k17_run v) (nbEXn98 v H))
theorem nbEXn100 (v : NbV) (H : NbH v true true v.e false false) : nbEXevD (cOp nbEXC34) (48, [43, 42, 41, 40, 39, 38, 37, 36, 35, 34, 33, 32, 31, 30, 29, 28, 27, 26, 25, 24, 23, 22, 21, 20, 19, 18, 17, 16, 15, 14, 13, 12, 11, 10, 9, 8, 7, 6, 5, 4, 3, 2, 1, 0], [(42, [1]), (40, [1]), (38, [10]), (30, [1]), (28, [1]), (26, [10]), (18, [1]), (16, [1]), (14, [10])], (cPut (opAt (cOp nbEXC34) 43).dst).p (nbEXT68 v) (renV (fK [9] ((nbEXM61 v)).length) (.i 1)), backM (nbEXM61 v) [9] ((nbE0k16Mm v))) [((nbEXT74 v), (nbEXM61 v))] := EvD.stepsA (j := 9) (nbEXn99 v H)
theorem nbEXn101 (v : NbV) (H : NbH v true true v.e false false) : nbEXevD (cOp nbEXC34) (49, [42, 41, 40, 39, 38, 37, 36, 35, 34, 33, 32, 31, 30, 29, 28, 27, 26, 25, 24, 23, 22, 21, 20, 19, 18, 17, 16, 15, 14, 13, 12, 11, 10, 9, 8, 7, 6, 5, 4, 3, 2, 1, 0], [(42, [1]), (40, [1]), (38, [10]), (30, [1]), (28, [1]), (26, [10]), (18, [1]), (16, [1]), (14, [10])], (nbEXT68 v), (nbEXM61 v)) [((nbEXT74 v), (nbEXM61 v))] := EvD.oneA 43 (EvE.callA (args := [.r 9 0, .i v.a11, .i v.a10]) (a := []) (cc := []) 43 (nbE0k16_run v) (nbEXn100 v H))
theorem nbEXn102 (v : NbV) (H : NbH v true true v.e false false) : nbEXevD (cOp nbEXC34) (60, [31, 30, 29, 28, 27, 26, 25, 24, 23, 22, 21, 20, 19, 18, 17, 16, 15, 14, 13, 12, 11, 10, 9, 8, 7, 6, 5, 4, 3, 2, 1, 0], [(30, [1]), (28, [1]), (26, [10]), (18, [1]), (16, [1]), (14, [10])], (cPut (opAt (cOp nbEXC34) 31).dst).p (nbEXT67 v) (renV (fK [9] ((nbEXM61 v)).length) (.i 1)), backM (nbEXM61 v) [9] ((nbE0k15Mm v))) [((nbEXT74 v), (nbEXM61 v))] := EvD.stepsA (j := 11) (nbEXn101 v H)
theorem nbEXn103 (v : NbV) (H : NbH v true true v.e false false) : nbEXevD (cOp nbEXC34) (61, [30, 29, 28, 27, 26, 25, 24, 23, 22, 21, 20, 19, 18, 17, 16, 15, 14, 13, 12, 11, 10, 9, 8, 7, 6, 5, 4, 3, 2, 1, 0], [(30, [1]), (28, [1]), (26, [10]), (18, [1]), (16, [1]), (14, [10])], (nbEXT67 v), (nbEXM61 v)) [((nbEXT74 v), (nbEXM61 v))] := EvD.oneA 31 (EvE.callA (args := [.r 9 0, .i v.a11, .i v.a10]) (a := []) (cc := []) 31 (nbE0k15_run v) (nbEXn102 v H))
theorem nbEXn104 (v : NbV) (H : NbH v true true v.e false false) : nbEXevD (cOp nbEXC34) (72, [19, 18, 17, 16, 15, 14, 13, 12, 11, 10, 9, 8, 7, 6, 5, 4, 3, 2, 1, 0], [(18, [1]), (16, [1]), (14, [10])], (cPut (opAt (cOp nbEXC34) 19).dst).p (nbEXT66 v) (renV (fK [9] ((nbEXM61 v)).length) (.i 1)), backM (nbEXM61 v) [9] ((nbE0k14Mm v))) [((nbEXT74 v), (nbEXM61 v))] := EvD.stepsA (j := 11) (nbEXn103 v H)
theorem nbEXn105 (v : NbV) (H : NbH v true true v.e false false) : nbEXevD (cOp nbEXC34) (73, [18, 17, 16, 15, 14, 13, 12, 11, 10, 9, 8, 7, 6, 5, 4, 3, 2, 1, 0], [(18, [1]), (16, [1]), (14, [10])], (nbEXT66 v), (nbEXM61 v)) [((nbEXT74 v), (nbEXM61 v))] := EvD.oneA 19 (EvE.callA (args := [.r 9 0, .i v.a11, .i v.a10]) (a := []) (cc := []) 19 (nbE0k14_run v) (nbEXn104 v H))
def nbEXT75 (v : NbV) : Fr := puF (nbEXT69 v) [(166, .i 1), (167, .r 10 1), (168, .r 9 0), (178, .i 1), (179, .r 10 1), (180, .r 9 0), (184, .i 1), (185, .r 10 1), (186, .r 9 0), (194, .i 1), (195, .r 10 1), (196, .r 9 0)]
def nbEXT76 (v : NbV) : Fr := puF (nbEXT69 v) [(166, .i 1), (167, .r 10 1), (168, .r 9 0), (178, .i 1), (179, .r 10 1), (180, .r 9 0), (184, .i 1), (185, .r 10 1), (186, .r 9 0), (194, .i 1), (195, .r 10 1), (196, .r 9 0)]
def nbEXT77 (v : NbV) : Fr := puF (nbEXT69 v) [(12, .i 2), (84, .i 1), (85, .i 2), (166, .i 1), (167, .r 10 1), (168, .r 9 0), (178, .i 1), (179, .r 10 1), (180, .r 9 0), (184, .i 1), (185, .r 10 1), (186, .r 9 0), (194, .i 1), (195, .r 10 1), (196, .r 9 0)]
theorem nbEXn115 (v : NbV) (H : NbH v true true v.e false false) : nbEXev nbEXC26 (nbEXT54 v) (nbEXM38 v) [(.nrm, (nbEXT77 v), (nbEXM61 v))] := Ev.piecesA (k := 1) (t1 := nbEXT55 v) (m1 := nbEXM38 v) (Ev.seqPA (t1 := nbEXT76 v) (m1 := nbEXM61 v) (Ev.blockP (e := .nrm) (by kernel_rfl) (by kernel_rfl) (Ev.seqPA (t1 := nbEXT58 v) (m1 := nbEXM38 v) (Ev.regD2 (outs := [((nbEXT57 v), (nbEXM38 v))]) (by kernel_rfl) (by kernel_rfl) (by kernel_rfl) (EvD.stepsA (j := 8) (nbEXn75 v H)) ⟨by kernel_rfl, trivial⟩) (Ev.seqPA (t1 := nbEXT62 v) (m1 := nbEXM61 v) (Ev.regD2 (outs := [((nbEXT60 v), (nbEXM61 v)), ((nbEXT62 v), (nbEXM61 v))]) (by kernel_rfl) (by kernel_rfl) (by kernel_rfl) (EvD.stepsA (j := 6) (nbEXn86 v H)) ⟨by kernel_rfl, by kernel_rfl, trivial⟩) (Ev.seqPA (t1 := nbEXT75 v) (m1 := nbEXM61 v) (Ev.regD2 (outs := [((nbEXT74 v), (nbEXM61 v))]) (by kernel_rfl) (by kernel_rfl) (by kernel_rfl) (EvD.stepsA (j := 19) (nbEXn105 v H)) ⟨by kernel_rfl, trivial⟩) Ev.codeA)))) Ev.codeA)
def nbEXT78 (v : NbV) : Fr := puF (nbEXT69 v) [(12, .i 2), (15, .r 11 0), (84, .i 1), (85, .i 2), (166, .i 1), (167, .r 10 1), (168, .r 9 0), (178, .i 1), (179, .r 10 1), (180, .r 9 0), (184, .i 1), (185, .r 10 1), (186, .r 9 0), (194, .i 1), (195, .r 10 1), (196, .r 9 0)]
def nbEXT79 (v : NbV) : Fr := puF (nbEXT69 v) [(12, .i 2), (15, .r 11 0), (80, .i 2), (83, .u (.b false)), (84, .i 1), (85, .i 2), (166, .i 1), (167, .r 10 1), (168, .r 9 0), (178, .i 1), (179, .r 10 1), (180, .r 9 0), (184, .i 1), (185, .r 10 1), (186, .r 9 0), (194, .i 1), (195, .r 10 1), (196, .r 9 0)]
theorem nbEXn117 (v : NbV) (H : NbH v true true v.e false false) : nbEXev nbEXC26 (nbEXT78 v) (nbEXM38 v) [((.ext 0), (nbEXT79 v), (nbEXM38 v))] := Ev.seqE (by intro h; cases h) (by kernel_rfl) Ev.codeA
theorem nbEXn118 (v : NbV) (H : NbH v true true v.e false false) : nbEXevL 11 nbEXC26 298 (nbEXT78 v) (nbEXM38 v) [((.ext 0), (nbEXT79 v), (nbEXM38 v))] := EvL.last (by intro h; cases h) (nbEXn117 v H)
theorem nbEXn119 (v : NbV) (H : NbH v true true v.e false false) : nbEXevL 11 nbEXC26 299 (nbEXT54 v) (nbEXM38 v) [((.ext 0), (nbEXT79 v), (nbEXM38 v))] := EvL.round (t2 := (nbEXT78 v)) (m2 := (nbEXM38 v)) (nbEXn115 v H) (by kernel_rfl) (nbEXn118 v H)
theorem nbEXn120 (v : NbV) (H : NbH v true true v.e false false) : nbEXevL 11 nbEXC26 300 (nbEXT31 v) (nbEXM30 v) [((.ext 0), (nbEXT79 v), (nbEXM38 v))] := EvL.round (t2 := (nbEXT54 v)) (m2 := (nbEXM38 v)) (nbEXn72 v H) (by kernel_rfl) (nbEXn119 v H)
def nbEXT80 (v : NbV) : Fr := puF (nbEXT69 v) [(12, .i 2), (15, .r 11 0), (80, .i 2), (83, .u (.b false)), (84, .i 1), (85, .i 2), (166, .i 1), (167, .r 10 1), (168, .r 9 0), (178, .i 1), (179, .r 10 1), (180, .r 9 0), (184, .i 1), (185, .r 10 1), (186, .r 9 0), (194, .i 1), (195, .r 10 1), (196, .r 9 0)]
def nbEXT81 (v : NbV) : Fr := puF (nbEXT69 v) [(4, .u (.b true)), (12, .i 2), (15, .r 11 0), (80, .i 2), (83, .u (.b false)), (84, .i 1), (85, .i 2), (166, .i 1), (167, .r 10 1), (168, .r 9 0), (178, .i 1), (179, .r 10 1), (180, .r 9 0), (184, .i 1), (185, .r 10 1), (186, .r 9 0), (194, .i 1), (195, .r 10 1), (196, .r 9 0), (200, .u (.b true))]
def nbEXT82 (v : NbV) : Fr := puF (nbEXT69 v) [(4, .u (.b true)), (12, .i 2), (15, .r 11 0), (80, .i 2), (83, .u (.b false)), (84, .i 1), (85, .i 2), (166, .i 1), (167, .r 10 1), (168, .r 9 0), (178, .i 1), (179, .r 10 1), (180, .r 9 0), (184, .i 1), (185, .r 10 1), (186, .r 9 0), (194, .i 1), (195, .r 10 1), (196, .r 9 0), (200, .u (.b true))]
theorem nbEXn135 (v : NbV) (H : NbH v true true v.e false false) : nbEXev nbEXC7 (nbE0T4 v) (nbEXM2 v) [(.ret, (nbEXT82 v), (nbEXM38 v))] := Ev.seqPA (nbEXn9 v H) (Ev.seqPA (nbEXn12 v H) (Ev.seqPA (nbEXn19 v H) (Ev.seqPA (t1 := nbEXT22 v) (m1 := nbEXM21 v) (Ev.regA (EvO.callA (t2 := nbEXT20 v) (m1 := nbEXM21 v) (ix := [7, 2, 8, 3]) (k := 6) (t1 := (nbEXT20 v)) (args := [.a [.i v.c1, .u (.l 7 v.c2), .i v.c3, .u (.l 4 v.c4), .i v.c5, .i v.c6, .i v.c7, .i v.c8], .u (.p none), .r 7 0, .r 2 0, .r 8 0]) (a := []) (cc := []) (H.hN [.c [.nl 5, .n .i64 33 [0, 0, 0, 0, 0, 0, 0, 0, 0, 0, 0, 0, 0, 0, 0, 0, 0, 0, 0, 0, 0, 0, 0, 0, 0, 0, 0, 0, 0, 0, 0, 0, 0]],
  .c [.nl 3, .m 3, .i 4, .i 1],
  .c [.nl 4, .nm]] [.p .n 1 false []] rfl) EvO.opsA)) (Ev.seqPA (t1 := nbEXT28 v) (m1 := nbEXM21 v) (Ev.seqPA (t1 := nbEXT27 v) (m1 := nbEXM21 v) (Ev.regA (EvO.opA (t2 := nbEXT23 v) (m1 := nbEXM21 v) (v := .u (.b false)) (k := 1) (t1 := (nbEXT23 v)) (symE (b := eqF v.e 0) (by kernel_rfl) H.he) (EvO.opA (t2 := nbEXT25 v) (m1 := nbEXM21 v) (v := .u (.b true)) (k := 6) (t1 := (nbEXT25 v)) (symN (b := eqF v.e 0) (by kernel_rfl) H.he rfl) (EvO.opA (t2 := nbEXT26 v) (m1 := nbEXM21 v) (v := .u (.b false)) (k := 3) (t1 := (nbEXT26 v)) (symN (b := eqF v.e v.e) (by kernel_rfl) (eqF_self _) rfl) EvO.opsA)))) Ev.codeA) (Ev.piecesA (k := 1) (t1 := nbEXT29 v) (m1 := nbEXM30 v) (Ev.seqPA (t1 := nbEXT79 v) (m1 := nbEXM38 v) (Ev.piecesA (k := 1) (t1 := nbEXT31 v) (m1 := nbEXM30 v) (Ev.blockP (e := .ext 0) (by kernel_rfl) (by kernel_rfl) (Ev.loopP (n0 := 11) (by kernel_rfl) (by kernel_rfl) (nbEXn120 v H)))) (Ev.seqPA (t1 := nbEXT81 v) (m1 := nbEXM38 v) (Ev.regA (EvO.callA (t2 := nbEXT80 v) (m1 := nbEXM38 v) (ix := []) (k := 0) (t1 := (nbEXT80 v)) (args := []) (a := []) (cc := []) (aw5_run v) EvO.opsA)) Ev.codeA)))))))
theorem nb_EX (v : NbV) (H : NbH v true true v.e false false) : PRun Tryz.prog 3 [] [.a [.i v.c1, .u (.l 7 v.c2), .i v.c3, .u (.l 4 v.c4), .i v.c5, .i v.c6, .i v.c7, .i v.c8], .a [.i v.a9, .i v.a10, .i v.a11, .i v.a12, .i v.a13, .i v.a14, .i v.a15, .i v.a16, .i v.a17, .i v.a18, .i v.a19]] fun x m => x = .u (.b true) ∧ m = [] := Ev.runA eKr2 Tryz.func3 (c := nbEXC1) (r := (.ret, (nbEXT82 v), (nbEXM38 v))) (Ev.piecesA (k := 1) (t1 := nbFT1 v) (m1 := nbEXM2 v) (Ev.seqPA (t1 := nbE0T4 v) (m1 := nbEXM2 v) (Ev.seqPA (t1 := nbE0T4 v) (m1 := nbEXM2 v) (Ev.regA (EvO.callA (t2 := nbFT3 v) (m1 := nbEXM2 v) (ix := []) (k := 1) (t1 := (nbFT3 v)) (args := [.a [.i v.c1, .u (.l 7 v.c2), .i v.c3, .u (.l 4 v.c4), .i v.c5, .i v.c6, .i v.c7, .i v.c8]]) (a := []) (cc := []) H.hF EvO.opsA)) (Ev.condF (by kernel_rfl) (by kernel_rfl) Ev.codeA)) (nbEXn135 v H)))
end
end Go.Proofs.YtedpdommppfmdaaGreat

/- The law MarketNobody: few parts; what is asked of a catalogue. -/
set_option linter.unusedVariables false
namespace Go.Proofs.YtedpdommppfmdaaGreat
open Go Go.Proofs
variable {Q : V → Mem → Prop} {c : Cat}
structure Few (c : Cat) : Prop where
  nb : c.blues.length ≤ 20
  ny : c.bays.length ≤ 12
  n : ∀ b ∈ c.blues, b.needs.length ≤ 12
open Classical in
noncomputable def fewB (c : Cat) : Bool := decide (Few c)
open Classical in
theorem fewB_t (h : Few c) : fewB c = true := decide_eq_true h
open Classical in
theorem fewB_f (h : ¬ Few c) : fewB c = false := decide_eq_false h
theorem few2_S (k : Q (.u (.b (fewB c))) []) : PRun Tryz.prog 4 [] [aC c] Q := by
  have fin : (∀ (i : Nat) (b : Bl), (i : Int) < 20 → c.blues[i]? = some b → b.needs.length ≤ 12) → bif decide (((c.blues.map eB).length : Int) ≤ 20) then Q (.u (.b (decide (((c.bays.map eY).length : Int) ≤ 12)))) [] else Q (.u (.b false)) [] := fun h => by
    rw [List.length_map, List.length_map]
    refine cIf (fun h1 => ?_) fun h1 => ?_
    · by_cases h2 : (c.bays.length : Int) ≤ 12
      · rw [decide_eq_true h2]
        rwa [fewB_t ⟨by omega, by omega, fun b hb => by
          obtain ⟨i, hi, rfl⟩ := List.getElem_of_mem hb
          exact h i _ (by omega) (by simp)⟩] at k
      · rw [decide_eq_false h2]
        rwa [fewB_f fun hf => h2 (by have := hf.ny; omega)] at k
    · rwa [fewB_f fun hf => h1 (by have := hf.nb; omega)] at k
  refine S4 ⟨fun x => 0 ≤ x ∧ x ≤ 20 ∧ ∀ (i : Nat) (b : Bl), (i : Int) < x → c.blues[i]? = some b → b.needs.length ≤ 12, fun x => (20 - x).toNat, ⟨by omega, by omega, fun i b h => by omega⟩, ?_⟩
  rintro x ⟨h0, h20, hx⟩
  refine cIf (fun h1 => cIf (fun h2 => ?_) fun h2 => fin fun i b hi hb => hx i b (by omega) hb) fun h1 => fin fun i b hi hb => hx i b (by
    have := (List.getElem?_eq_some_iff.1 hb).1
    rw [List.length_map] at h1
    omega) hb
  rw [List.length_map] at h1
  have hlt : x.toNat < c.blues.length := by omega
  rw [elL_of (r := eB c.blues[x.toNat]) h0 (by simp [hlt])]
  simp only [eB, ug0, ugs, dL_l]
  refine cIf (fun h => ?_) fun h => ⟨⟨by rw [w64 (by omega) (by omega)]; omega, by rw [w64 (by omega) (by omega)]; omega, fun i b hi hb => ?_⟩, by rw [w64 (by omega) (by omega)]; omega⟩
  · rw [List.length_map] at h
    rwa [fewB_f fun hf => by have := hf.n _ (List.getElem_mem hlt); omega] at k
  rw [w64 (by omega) (by omega)] at hi
  by_cases he : (i : Int) < x
  · exact hx i b he hb
  · have : i = x.toNat := by omega
    subst this
    rw [List.getElem?_eq_getElem hlt] at hb
    cases hb
    rw [List.length_map] at h
    omega
theorem conv_S (r : List U) (h : ShU (.i .i64 (.i .i64 .nil)) r) : ∃ s : Stk, r = eS s ∧ ((-9223372036854775808 ≤ s.1 ∧ s.1 ≤ 9223372036854775807) ∧ (-9223372036854775808 ≤ s.2 ∧ s.2 ≤ 9223372036854775807)) := by
  obtain ⟨n, _, rfl, hw, m, _, rfl, hw2, rfl⟩ := h
  exact ⟨(n, m), rfl, in64_of hw, in64_of hw2⟩
abbrev dsB : Ds := .i .i64 (.i .i64 (.i .i64 (.l 2 (.i .i64 (.i .i64 .nil)) (.i .i64 (.i .i64 (.i .i64 .nil))))))
abbrev dsY : Ds := .i .i64 (.i .i64 (.i .i64 (.i .i64 .nil)))
abbrev dsC : Ds := .i .i64 (.l 7 dsB (.i .i64 (.l 4 dsY (.i .i64 (.i .i64 (.i .i64 (.i .i64 .nil)))))))
theorem conv_B (r : List U) (h : ShU dsB r) : ∃ b : Bl, r = eB b ∧ rng b.needs := by
  obtain ⟨a, _, rfl, -, b, _, rfl, -, c, _, rfl, -, rows, _, rfl, -, hs, d, _, rfl, -, e, _, rfl, -, f, _, rfl, -, rfl⟩ := h
  obtain ⟨l, rfl, hl⟩ := rows_of conv_S hs
  exact ⟨⟨a, b, c, l, d, e, f⟩, rfl, hl⟩
theorem conv_Y (r : List U) (h : ShU dsY r) : ∃ y : Bay, r = eY y ∧ True := by
  obtain ⟨a, _, rfl, -, b, _, rfl, -, c, _, rfl, -, d, _, rfl, -, rfl⟩ := h
  exact ⟨⟨a, b, c, d⟩, rfl, trivial⟩
theorem conv_C (us : List U) (h : ShU dsC us) : ∃ c : Cat, V.a (us.map .u) = aC c ∧ ∀ b ∈ c.blues, rng b.needs := by
  obtain ⟨a, _, rfl, -, rows, _, rfl, -, hs, b, _, rfl, -, rows2, _, rfl, -, hs2, d, _, rfl, -, e, _, rfl, -, f, _, rfl, -, g, _, rfl, -, rfl⟩ := h
  obtain ⟨l, rfl, hl⟩ := rows_of conv_B hs
  obtain ⟨m, rfl, -⟩ := rows_of conv_Y hs2
  exact ⟨⟨a, l, b, m, d, e, f, g⟩, rfl, hl⟩
theorem Few.rg {c : Cat} (f : Few c) (h : ∀ b ∈ c.blues, rng b.needs) : c.Rg :=
  ⟨fun b hb => ⟨h b hb, by have := f.n b hb; omega⟩, by have := f.nb; omega, by have := f.ny; omega⟩
end Go.Proofs.YtedpdommppfmdaaGreat

/- The law WorksNobody: whatever it is given, it returns true. -/
set_option linter.unusedVariables false
namespace Go.Proofs.YtedpdommppfmdaaGreat
open Go Go.Proofs
theorem worksNobody_run {us0 : List U} (sh0 : ShU dsC us0) {us1 : List U} (sh1 : ShU (.i .i64 (.i .i64 (.i .i64 (.i .i64 (.i .i64 (.i .i64 (.i .i64 (.i .i64 (.i .i64 (.i .i64 (.i .i64 .nil))))))))))) us1) : PRun Tryz.prog 3 [] [.a (us0.map .u), .a (us1.map .u)] fun v _ => v = .u (.b true) := by
  obtain ⟨c, e0, hr⟩ := conv_C us0 sh0
  rw [e0]
  obtain ⟨a9, _, rfl, -, a10, _, rfl, -, a11, _, rfl, -, a12, _, rfl, -, a13, _, rfl, -, a14, _, rfl, -, a15, _, rfl, -, a16, _, rfl, -, a17, _, rfl, -, a18, _, rfl, -, a19, _, rfl, -, rfl⟩ := sh1
  have hF : PRun Tryz.prog 4 [] [aC c] fun x m => x = .u (.b (fewB c)) ∧ m = [] := few2_S ⟨rfl, rfl⟩
  cases hb : fewB c with
  | false =>
    rw [hb] at hF
    exact (nb_F ⟨c.types, c.blues.map eB, c.places, c.bays.map eY, c.chars, c.broker, c.least, c.sales, a9, a10, a11, a12, a13, a14, a15, a16, a17, a18, a19, 0⟩ ⟨hF, trivial, trivial, trivial, trivial, trivial, rfl⟩).mono fun x m h => h.1
  | true =>
    rw [hb] at hF
    have hf : Few c := Classical.byContradiction fun h => by rw [fewB_f h] at hb; cases hb
    have hC : PRun Tryz.prog 70 [] [aC c] fun x m => x = .i (catE c) ∧ m = [] := pCat_S (hf.rg hr) ⟨rfl, rfl⟩
    have hK : PRun Tryz.prog 8 [] [aC c] fun x m => x = .i (catE c) ∧ m = [] := rCat_S (hf.rg hr) ⟨rfl, rfl⟩
    cases he : eqF (catE c) 0 with
    | false =>
      have hX := knX (hf.rg hr) hf.ny fun h => by rw [h] at he; cases he
      have hN := knN (hf.rg hr) hf.ny
      rw [he] at hN
      exact (nb_EX ⟨c.types, c.blues.map eB, c.places, c.bays.map eY, c.chars, c.broker, c.least, c.sales, a9, a10, a11, a12, a13, a14, a15, a16, a17, a18, a19, catE c⟩ ⟨hF, hC, hK, trivial, hX, hN, he⟩).mono fun x m h => h.1
    | true =>
      rw [eqF_eq] at he
      have he := of_decide_eq_true he
      have hW := knW (hf.rg hr) he
      have hN := knN (hf.rg hr) hf.ny
      rw [he] at hC hK hN
      exact (nb_E0 ⟨c.types, c.blues.map eB, c.places, c.bays.map eY, c.chars, c.broker, c.least, c.sales, a9, a10, a11, a12, a13, a14, a15, a16, a17, a18, a19, 0⟩ ⟨hF, hC, hK, hW, trivial, hN, rfl⟩).mono fun x m h => h.1
end Go.Proofs.YtedpdommppfmdaaGreat

/- The row of WorksNobody: whatever it is given it returns true, and what it was given reads as it did. -/
namespace Go.Proofs.YtedpdommppfmdaaGreat
open Go Go.Proofs Go.ChangeShapes Go.WideShapes Go.ChangeAt Go.RowKit
set_option maxRecDepth 100000 in
theorem worksNobody_lifted (os : Os) (started : os.Started) (H : Type) (enc : TypeId × Value → H) :
    ReturnsInHanded {} Tryz.checked os 3 .any (Rows.worksNobodySpec.pre6 enc Tryz.prog Tryz.f3 Rows.worksNobodyRow.domain false) (Rows.worksNobodySpec.post enc Tryz.prog Tryz.f3 false true false false) := by
  refine returnsInHanded_of_change (C := Tryz.checked) Tryz.own started (by kernel_rfl) Tryz.func3
    (ChangeSpec.witness6 (enc := enc) (C := Tryz.checked) false ⟨#[], #[.agg #[.int .i64 0, .slice none 0 0, .int .i64 0, .slice none 0 0, .int .i64 0, .int .i64 0, .int .i64 0, .int .i64 0], .agg #[.int .i64 0, .int .i64 0, .int .i64 0, .int .i64 0, .int .i64 0, .int .i64 0, .int .i64 0, .int .i64 0, .int .i64 0, .int .i64 0, .int .i64 0]], []⟩ 8 (by kernel_rfl) (by kernel_rfl) (by kernel_rfl) (by kernel_rfl)) ?_
  intro W base args ds gs before hval0 hW hcnd _
  have hval : ∀ (j : Nat) t v, Tryz.f3.params[j]? = some t → args[j]? = some v → Value.okWide Tryz.prog W .any base t v := hval0
  have hW' := hW
  obtain ⟨p, q, hA0, hV, rfl, hfz, hnd⟩ := hW
  have hA : DataW.TrodAll enc Tryz.prog W 0 (fun _ => true) true Tryz.f3.params.toList args.toList ds p := hA0
  rw [Tryz.params3] at hA hval
  obtain ⟨v0, v1, d0, d1, p0, p1, rfl, rfl, rfl, h0, h1⟩ := trodAll_two hA
  obtain ⟨rfl, rfl⟩ := trodVars_none hV
  obtain ⟨us0, hr0, sh0⟩ := open_data (ds := (.i .i64 (.l 7 (.i .i64 (.i .i64 (.i .i64 (.l 2 (.i .i64 (.i .i64 .nil)) (.i .i64 (.i .i64 (.i .i64 .nil))))))) (.i .i64 (.l 4 (.i .i64 (.i .i64 (.i .i64 (.i .i64 .nil)))) (.i .i64 (.i .i64 (.i .i64 (.i .i64 .nil))))))))) (by kernel_rfl) h0
  obtain ⟨cs0, rfl⟩ : ∃ cs, v0 = .agg cs := by
    have hv := hval 0 27 v0 rfl rfl
    unfold Value.okWide at hv
    rw [Tryz.underlying27] at hv
    obtain ⟨cs, rfl, -⟩ := hv
    exact ⟨cs, rfl⟩
  obtain ⟨us1, hr1, sh1⟩ := open_data (ds := (.i .i64 (.i .i64 (.i .i64 (.i .i64 (.i .i64 (.i .i64 (.i .i64 (.i .i64 (.i .i64 (.i .i64 (.i .i64 .nil)))))))))))) (by kernel_rfl) h1
  obtain ⟨cs1, rfl⟩ : ∃ cs, v1 = .agg cs := by
    have hv := hval 1 31 v1 rfl rfl
    unfold Value.okWide at hv
    rw [Tryz.underlying31] at hv
    obtain ⟨cs, rfl, -⟩ := hv
    exact ⟨cs, rfl⟩
  clear hA0 hval0
  refine ((worksNobody_run sh0 sh1 (allD W.heap) [] [] [] W.heap _ (SAt.all W.heap) (.cons (rp_agg hr0) (.cons (rp_agg hr1) (.nil)))).2 W rfl).mono ?_
  rintro e W' ⟨v, rfl, ⟨D', ρ', chs', x, m', le, M', hv, rfl⟩, hsm⟩
  obtain rfl : v = .bool true := by cases hv with | u h => cases h; rfl
  have hb := belowOf (St.kept le M'.st) hsm
  have hlt0 : ∀ x ∈ p0, x.block < W.heap.size := fun x hx => by simpa using hW'.lt x (by simp [hx])
  have hlt1 : ∀ x ∈ p1, x.block < W.heap.size := fun x hx => by simpa using hW'.lt x (by simp [hx])
  exact ⟨_, rfl, _, _, _, [], _, [], hW', trodAll_mk1 (shut_bool Tryz.underlying4 true), trodAll_mk2 (hb.trod Tryz.laidOut (by kernel_rfl) (of_decide_eq_true (by kernel_rfl)) h0 hlt0) (hb.trod Tryz.laidOut (by kernel_rfl) (of_decide_eq_true (by kernel_rfl)) h1 hlt1), rfl, hb.frame _, fun h => by cases h⟩
theorem worksNobody_holds : Rows.WorksNobodySaid :=
  OpenClaim.holds_of_wide 3 Tryz.f3 rfl rfl rfl rfl rfl rfl rfl ⟨rfl, rfl, rfl, rfl, rfl⟩ rfl rfl rfl rfl rfl (by kernel_rfl) Tryz.func3 (by kernel_rfl)
    (of_decide_eq_true (by kernel_rfl)) (by unfold Func.isWrapper; first | (rw [if_pos (by decide +kernel)]; kernel_rfl) | (rw [if_neg (by decide +kernel)]; exact ⟨rfl, rfl⟩))
    (fun os started H enc _ => worksNobody_lifted os started H enc)
end Go.Proofs.YtedpdommppfmdaaGreat
