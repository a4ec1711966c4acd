/- DERIVED: THE SHELF's CONTRACTS AT THIS DUMP, IN PLAIN WORDS (tools/lay-plain.mjs out of 'YtobdpeelaadkbaaGreatLx.lean', which tools/lay-shelf.mjs wrote): THE SAME DECLARATIONS UNDER THE SAME NAMES: 'import', 'namespace', 'open', 'def', 'theorem' AND NOTHING ELSE: no command of the shelf's: FOR A HAND-IN. Each laying: the table of numbers ('.._ren') and one theorem, a field a fact of the dump's own or the kernel's comparison; each contract: ONE APPLICATION. -/
import Derived.WalkKit
import Derived.Orders
import Derived.KernelRfl
import Derived.Test.YtobdpeelaadkbaaGreatProg
import Derived.Shelf.SlSortCmp.NoneTotal
import Derived.Shelf.Bits.Mul64
import Derived.Shelf.SlLaysF0
import Derived.Ground.SlsfProg
set_option linter.unusedVariables false
namespace Go.Proofs.YtobdpeelaadkbaaGreat
abbrev Stk := Int × Int
def zha : Int := 1125899906842624
def tot (l : List Stk) (k : Int) : Int :=
 match l with
 | [] => 0
 | s :: l => (if s.1 = k then s.2 else 0) + tot l k
def good (l : List Stk) : Prop := ∀ s ∈ l, 1 ≤ s.1 ∧ 0 ≤ s.2
def over (l : List Stk) : Prop := ∃ s ∈ l, zha < tot l s.1
def rng (l : List Stk) : Prop := ∀ s ∈ l, (-9223372036854775808 ≤ s.1 ∧ s.1 ≤ 9223372036854775807) ∧ (-9223372036854775808 ≤ s.2 ∧ s.2 ≤ 9223372036854775807)
open Classical in
noncomputable def errN (l : List Stk) : Int := if good l then (if over l then 5 else 0) else 1
def SN (l r : List Stk) : Prop := r.Pairwise (fun a b => a.1 < b.1) ∧ ∀ k n, (k, n) ∈ r ↔ n = tot l k ∧ 0 < n
theorem zdd (a b : List Stk) (k : Int) : tot (a ++ b) k = tot a k + tot b k := by
 induction a with
 | nil => simp [tot]
 | cons s a ih => simp only [List.cons_append, tot, ih]; omega
theorem zbt {l : List Stk} (h : good l) (k : Int) : 0 ≤ tot l k := by
 induction l with
 | nil => simp [tot]
 | cons s l ih =>
   have h1 := h s (by simp)
   have h2 := ih fun x hx => h x (by simp [hx])
   simp only [tot]; split <;> omega
theorem zhg {l : List Stk} {k : Int} (h : k ∉ l.map (·.1)) : tot l k = 0 := by
 induction l with
 | nil => rfl
 | cons s l ih =>
   simp only [List.map_cons, List.mem_cons, not_or] at h
   simp only [tot]
   rw [if_neg (Ne.symm h.1), ih h.2]; rfl
theorem good_append {a b : List Stk} : good (a ++ b) ↔ good a ∧ good b := by
 constructor
 · intro h; exact ⟨fun s hs => h s (by simp [hs]), fun s hs => h s (by simp [hs])⟩
 · rintro ⟨h1, h2⟩ s hs
   rcases List.mem_append.1 hs with h | h
   · exact h1 s h
   · exact h2 s h
theorem zpz {l : List Stk} (h : ¬ good l) : errN l = 1 := by unfold errN; rw [if_neg h]
theorem zft {l : List Stk} (h : good l) (ho : over l) : errN l = 5 := by unfold errN; rw [if_pos h, if_pos ho]
theorem zix {l : List Stk} (h : good l) (ho : ¬ over l) : errN l = 0 := by unfold errN; rw [if_pos h, if_neg ho]
theorem errN_zero {l : List Stk} : errN l = 0 ↔ good l ∧ ¬ over l := by
 unfold errN
 by_cases h : good l
 · by_cases ho : over l
   · rw [if_pos h, if_pos ho]; simp [ho]
   · rw [if_pos h, if_neg ho]; simp [h, ho]
 · rw [if_neg h]; simp [h]
theorem not_over {l : List Stk} (_h : good l) (ho : ¬ over l) (k : Int) : tot l k ≤ zha := by
 by_cases hk : k ∈ l.map (·.1)
 · obtain ⟨s, hs, rfl⟩ := List.mem_map.1 hk
   exact Int.not_lt.1 fun hlt => ho ⟨s, hs, hlt⟩
 · rw [zhg hk]; decide
theorem over_append {a b : List Stk} (h : good b) (ho : over a) : over (a ++ b) := by
 obtain ⟨s, hs, hlt⟩ := ho
 refine ⟨s, by simp [hs], ?_⟩
 rw [zdd]
 have := zbt h s.1
 omega
theorem zlj : ∀ {r q : List Stk}, r.Pairwise (fun a b => a.1 < b.1) → q.Pairwise (fun a b => a.1 < b.1) → (∀ p, p ∈ r ↔ p ∈ q) → r = q
 | [], [], _, _, _ => rfl
 | [], x :: q, _, _, h => absurd ((h x).2 (by simp)) (by simp)
 | x :: r, [], _, _, h => absurd ((h x).1 (by simp)) (by simp)
 | x :: r, y :: q, hr, hq, h => by
   rw [List.pairwise_cons] at hr hq
   have hxy : x = y := by
    rcases List.mem_cons.1 ((h x).1 (by simp)) with h1 | h1
    · exact h1
    · rcases List.mem_cons.1 ((h y).2 (by simp)) with h2 | h2
      · exact h2.symm
      · have := hq.1 x h1; have := hr.1 y h2; omega
   subst hxy
   congr 1
   refine zlj hr.2 hq.2 fun p => ?_
   constructor
   · intro hp
     rcases List.mem_cons.1 ((h p).1 (by simp [hp])) with h1 | h1
     · subst h1; exact absurd (hr.1 p hp) (by omega)
     · exact h1
   · intro hp
     rcases List.mem_cons.1 ((h p).2 (by simp [hp])) with h1 | h1
     · subst h1; exact absurd (hq.1 p hp) (by omega)
     · exact h1
theorem SN.unique {l r q : List Stk} (h1 : SN l r) (h2 : SN l q) : r = q :=
 zlj h1.1 h2.1 fun p => by obtain ⟨k, n⟩ := p; rw [h1.2, h2.2]
def NormP (l : List Stk) (e : Int) (r : List Stk) : Prop := e = errN l ∧ (e = 0 → SN l r) ∧ (e ≠ 0 → r = [])
theorem NormP.unique {l : List Stk} {e f : Int} {r q : List Stk} (h1 : NormP l e r) (h2 : NormP l f q) : e = f ∧ r = q := by
 have he : e = f := h1.1.trans h2.1.symm
 subst he
 by_cases h : e = 0
 · exact ⟨rfl, (h1.2.1 h).unique (h2.2.1 h)⟩
 · exact ⟨rfl, (h1.2.2 h).trans (h2.2.2 h).symm⟩
theorem tot_snoc (t : List Stk) (s : Stk) (k : Int) : tot (t ++ [s]) k = tot t k + if s.1 = k then s.2 else 0 := by
 rw [zdd]; simp only [tot]; omega
theorem take_snoc {α : Type} {l : List α} {i : Nat} (h : i < l.length) : l.take (i + 1) = l.take i ++ [l[i]] := by
 rw [List.take_add_one, List.getElem?_eq_getElem h]; rfl
theorem tot_take_le {l : List Stk} (h : good l) (i : Nat) (k : Int) : tot (l.take i) k ≤ tot l k := by
 have h1 : tot l k = tot (l.take i) k + tot (l.drop i) k := by rw [← zdd, List.take_append_drop]
 have h2 := zbt (l := l.drop i) (fun s hs => h s (List.mem_of_mem_drop hs)) k
 omega
theorem good_mem {l : List Stk} (h : good l) {i : Nat} (hi : i < l.length) : 1 ≤ l[i].1 ∧ 0 ≤ l[i].2 := h _ (by simp)
theorem zb9 {l : List Stk} {k : Int} (h : tot l k ≠ 0) : ∃ s ∈ l, s.1 = k := by
 by_cases hk : k ∈ l.map (·.1)
 · obtain ⟨s, hs, e⟩ := List.mem_map.1 hk; exact ⟨s, hs, e⟩
 · exact absurd (zhg hk) h
structure RefN (l r : List Stk) (x : Int) : Prop where
 pos : 0 ≤ x
 rise : r.Pairwise (fun a b => a.1 < b.1)
 mem : ∀ k n, (k, n) ∈ r ↔ n = tot l k ∧ 0 < n ∧ k ≤ x
 max : ∀ k, k ≤ x → tot l k ≤ zha
 len : r.length + (l.filter (fun s => decide (x < s.1))).length ≤ l.length
def LeastT (l : List Stk) (x y : Int) : Prop := (y = 0 ∧ ∀ s ∈ l, s.1 ≤ x) ∨ (x < y ∧ (∃ s ∈ l, s.1 = y) ∧ ∀ s ∈ l, x < s.1 → y ≤ s.1)
theorem RefN.start {l : List Stk} (h : good l) : RefN l [] 0 where
 pos := Int.le_refl _
 rise := .nil
 mem k n := by
  constructor
  · intro h; simp at h
  · rintro ⟨rfl, h1, h2⟩
    obtain ⟨s, hs, rfl⟩ := zb9 (l := l) (k := k) (by omega)
    have := h s hs; omega
 max k hk := by
  by_cases h0 : tot l k = 0
  · rw [h0]; decide
  · obtain ⟨s, hs, rfl⟩ := zb9 h0
    have := h s hs; omega
 len := by rw [List.length_nil, Nat.zero_add]; exact List.length_filter_le ..
theorem RefN.stop {l r : List Stk} {x : Int} (h : RefN l r x) (hl : LeastT l x 0) : SN l r ∧ ¬ over l := by
 have ha : ∀ s ∈ l, s.1 ≤ x := by
  rcases hl with ⟨-, h1⟩ | ⟨h1, -⟩
  · exact h1
  · have := h.pos; omega
 refine ⟨⟨h.rise, fun k n => ?_⟩, fun ⟨s, hs, ho⟩ => ?_⟩
 · rw [h.mem]
   constructor
   · rintro ⟨h1, h2, -⟩; exact ⟨h1, h2⟩
   · rintro ⟨h1, h2⟩
     obtain ⟨s, hs, rfl⟩ := zb9 (l := l) (k := k) (by omega)
     exact ⟨h1, h2, ha s hs⟩
 · have := h.max s.1 (ha s hs); omega
theorem filter_lt {l : List Stk} {x y : Int} (h1 : x < y) (h2 : ∃ s ∈ l, s.1 = y) : (l.filter (fun s => decide (y < s.1))).length < (l.filter (fun s => decide (x < s.1))).length := by
 induction l with
 | nil => obtain ⟨s, hs, -⟩ := h2; simp at hs
 | cons t l ih =>
   have hle : (l.filter (fun s => decide (y < s.1))).length ≤ (l.filter (fun s => decide (x < s.1))).length := by
    clear ih h2
    induction l with
    | nil => simp
    | cons u l ih =>
      simp only [List.filter_cons]
      by_cases ha : y < u.1
      · have hb : x < u.1 := by omega
        simp [ha, hb]; exact ih
      · by_cases hb : x < u.1
        · simp [ha, hb]; omega
        · simp [ha, hb]; exact ih
   simp only [List.filter_cons]
   obtain ⟨s, hs, he⟩ := h2
   rcases List.mem_cons.1 hs with rfl | hs
   · have ha : ¬ y < s.1 := by omega
     have hb : x < s.1 := by omega
     simp [ha, hb]; omega
   · have := ih ⟨s, hs, he⟩
     by_cases ha : y < t.1
     · have hb : x < t.1 := by omega
       simp [ha, hb]; exact this
     · by_cases hb : x < t.1
       · simp [ha, hb]; omega
       · simp [ha, hb]; exact this
theorem RefN.step {l r : List Stk} {x y : Int} (hg : good l) (h : RefN l r x) (hy : y ≠ 0) (hl : LeastT l x y) (hm : tot l y ≤ zha) : RefN l (if tot l y > 0 then r ++ [(y, tot l y)] else r) y := by
 rcases hl with ⟨h0, -⟩ | ⟨hlt, hex, hmin⟩
 · exact absurd h0 hy
 have hpos := h.pos
 have hmid : ∀ k, x < k → k < y → tot l k = 0 := fun k h1 h2 => by
  refine Decidable.byContradiction fun hne => ?_
  obtain ⟨s, hs, rfl⟩ := zb9 hne
  have := hmin s hs h1; omega
 refine ⟨by omega, ?_, fun k n => ?_, fun k hk => ?_, ?_⟩
 · split
   · rw [List.pairwise_append]
     refine ⟨h.rise, by simp, ?_⟩
     rintro ⟨k, n⟩ ha b hb
     simp at hb; subst hb
     have := ((h.mem k n).1 ha).2.2
     show k < y
     omega
   · exact h.rise
 · have hne : tot l y > 0 ∨ tot l y = 0 := by have := zbt hg y; omega
   rcases hne with hp | hp
   · rw [if_pos hp]
     simp only [List.mem_append, h.mem, List.mem_singleton, Prod.mk.injEq]
     constructor
     · rintro (⟨h1, h2, h3⟩ | ⟨rfl, rfl⟩)
       · exact ⟨h1, h2, by omega⟩
       · exact ⟨rfl, hp, by omega⟩
     · rintro ⟨h1, h2, h3⟩
       by_cases hk : k ≤ x
       · exact .inl ⟨h1, h2, hk⟩
       · by_cases hky : k = y
         · subst hky; exact .inr ⟨rfl, h1⟩
         · have := hmid k (by omega) (by omega); omega
   · rw [if_neg (by omega), h.mem]
     constructor
     · rintro ⟨h1, h2, h3⟩; exact ⟨h1, h2, by omega⟩
     · rintro ⟨h1, h2, h3⟩
       refine ⟨h1, h2, ?_⟩
       by_cases hk : k ≤ x
       · exact hk
       · by_cases hky : k = y
         · subst hky; omega
         · have := hmid k (by omega) (by omega); omega
 · by_cases hkx : k ≤ x
   · exact h.max k hkx
   · by_cases hky : k = y
     · subst hky; exact hm
     · rw [hmid k (by omega) (by omega)]; decide
 · have h1 := h.len
   have h2 := filter_lt hlt hex
   split
   · simp only [List.length_append, List.length_singleton]; omega
   · omega
theorem LeastT.start (x : Int) : LeastT [] x 0 := .inl ⟨rfl, by simp⟩
theorem LeastT.low {t : List Stk} {s : Stk} {x y : Int} (h : LeastT t x y) (hs : s.1 ≤ x) : LeastT (t ++ [s]) x y := by
 rcases h with ⟨h1, h2⟩ | ⟨h1, ⟨u, hu, hue⟩, h3⟩
 · refine .inl ⟨h1, fun u hu => ?_⟩
   rcases List.mem_append.1 hu with hu | hu
   · exact h2 u hu
   · simp at hu; subst hu; exact hs
 · refine .inr ⟨h1, ⟨u, by simp [hu], hue⟩, fun v hv hx => ?_⟩
   rcases List.mem_append.1 hv with hv | hv
   · exact h3 v hv hx
   · simp at hv; subst hv; omega
theorem LeastT.first {t : List Stk} {s : Stk} {x : Int} (h : LeastT t x 0) (hx : 0 ≤ x) (hs : x < s.1) : LeastT (t ++ [s]) x s.1 := by
 rcases h with ⟨-, h2⟩ | ⟨h1, -⟩
 · refine .inr ⟨hs, ⟨s, by simp, rfl⟩, fun v hv hv2 => ?_⟩
   rcases List.mem_append.1 hv with hv | hv
   · have := h2 v hv; omega
   · simp at hv; subst hv; omega
 · omega
theorem LeastT.less {t : List Stk} {s : Stk} {x y : Int} (h : LeastT t x y) (hy : y ≠ 0) (hs : x < s.1) (hsy : s.1 < y) : LeastT (t ++ [s]) x s.1 := by
 rcases h with ⟨h1, h2⟩ | ⟨h1, ⟨u, hu, hue⟩, h3⟩
 · exact absurd h1 hy
 · refine .inr ⟨hs, ⟨s, by simp, rfl⟩, fun v hv hx => ?_⟩
   rcases List.mem_append.1 hv with hv | hv
   · have := h3 v hv hx; omega
   · simp at hv; subst hv; omega
theorem LeastT.more {t : List Stk} {s : Stk} {x y : Int} (h : LeastT t x y) (hy : y ≠ 0) (hsy : y ≤ s.1) : LeastT (t ++ [s]) x y := by
 rcases h with ⟨h1, h2⟩ | ⟨h1, ⟨u, hu, hue⟩, h3⟩
 · exact absurd h1 hy
 · refine .inr ⟨h1, ⟨u, by simp [hu], hue⟩, fun v hv hx => ?_⟩
   rcases List.mem_append.1 hv with hv | hv
   · exact h3 v hv hx
   · simp at hv; subst hv; omega
abbrev zab := Array Obj
def hcell (h : zab) (a : Addr) : Option Value :=
 match h[a.block]? with
 | some (.cells c _ _) => if a.spot.isSome then none else c[a.off]?
 | _ => none
def hshape (h : zab) (r : Nat) : Option (TypeId × Nat) :=
 match h[r]? with
 | some (.cells c elem _) => some (elem, c.size)
 | _ => none
def hfroz (h : zab) (a : Addr) : Bool :=
 match h[a.block]? with
 | some (.cells _ _ (lo, hi)) => lo ≤ a.off && a.off < hi
 | _ => false
def hset (h : zab) (a : Addr) (v : Value) : zab :=
 h.modify a.block fun
  | .cells c elem frozen => .cells (if a.spot.isSome then c else c.setIfInBounds a.off v) elem frozen
  | o => o
def ziv : Obj → Bool
 | .cells .. => true
 | _ => false
def single : Value → Bool
 | .agg _ | .tuple _ => false
 | _ => true
structure Same (w w' : World) : Prop where
 tape : w'.tape = w.tape
 os : w'.os = w.os
 output : w'.output = w.output
 drawn : w.drawn ≤ w'.drawn
theorem Same.refl (w : World) : Same w w := ⟨rfl, rfl, rfl, Nat.le_refl _⟩
theorem Same.trans {a b c : World} (h : Same a b) (k : Same b c) : Same a c :=
 ⟨k.tape.trans h.tape, k.os.trans h.os, k.output.trans h.output, Nat.le_trans h.drawn k.drawn⟩
def SWp {α : Type} (P : Program) : Sem α → zab → (α → zab → Prop) → Prop
 | .pure a, h, K => K a h
 | .load _ a k, h, K => ∃ v, hcell h a = some v ∧ SWp P (k v) h K
 | .store _ a v k, h, K => single v = true ∧ (∃ u, hcell h a = some u) ∧ hfroz h a = false ∧ SWp P k (hset h a v) K
 | .new o k, h, K => SWp P (k h.size) (h.push o) K
 | .shape r k, h, K => SWp P (k (hshape h r)) h K
 | .freeze .., _, _ => False
 | .frozen a k, h, K => SWp P (k (hfroz h a)) h K
 | .getObj r k, h, K => ∃ o, h[r]? = some o ∧ ziv o = false ∧ SWp P (k o) h K
 | .setObj r o k, h, K => (∃ u, h[r]? = some u ∧ ziv u = false) ∧ SWp P k (h.setIfInBounds r o) K
 | .choose q k, h, K => (q.forced = true → SWp P (k 0) h K) ∧ (q.forced = false → ∀ t, SWp P (k (q.cut t)) h K)
 | .sys .., _, _ => False
 | .program k, h, K => SWp P (k P) h K
 | .mark _ k, h, K => SWp P k h K
 | .halt _, _, _ => False
theorem SWp.sound {α : Type} {P : Program} {s : Sem α} : ∀ {h : zab} {K : α → zab → Prop}, SWp P s h K → ∀ w : World, w.heap = h →
 ∃ a w', s.run P w = .ok a w' ∧ K a w'.heap ∧ Same w w' := by
 induction s with
 | pure a => intro h K hs w hw; exact ⟨a, w, rfl, hw ▸ hs, .refl w⟩
 | load m a k ih =>
   intro h K hs w hw
   obtain ⟨v, hv, hk⟩ := hs
   subst hw
   have hv' : w.cell? a = some v := hv
   simp only [Sem.run, hv']
   exact ih v hk w rfl
 | store m a v k ih =>
   intro h K hs w hw
   obtain ⟨h1, ⟨u, hu⟩, hf, hk⟩ := hs
   subst hw
   have hu' : w.cell? a = some u := hu
   have hf' : w.frozen? a = false := hf
   obtain ⟨x, w', hr, hK, hS⟩ := ih hk (w.setCell a v) rfl
   refine ⟨x, w', ?_, hK, ⟨hS.tape, hS.os, hS.output, hS.drawn⟩⟩
   rw [← hr]
   cases v <;> simp [single] at h1 <;> simp [Sem.run, hu', hf']
 | new o k ih =>
   intro h K hs w hw
   subst hw
   obtain ⟨x, w', hr, hK, hS⟩ := ih w.heap.size hs { w with heap := w.heap.push o } rfl
   exact ⟨x, w', hr, hK, ⟨hS.tape, hS.os, hS.output, hS.drawn⟩⟩
 | shape r k ih =>
   intro h K hs w hw
   subst hw
   exact ih (w.shape? r) hs w rfl
 | freeze a n k ih => intro h K hs; exact hs.elim
 | frozen a k ih =>
   intro h K hs w hw
   subst hw
   exact ih (w.frozen? a) hs w rfl
 | getObj r k ih =>
   intro h K hs w hw
   subst hw
   obtain ⟨o, ho, hc, hk⟩ := hs
   obtain ⟨x, w', hr, hK, hS⟩ := ih o hk w rfl
   refine ⟨x, w', ?_, hK, hS⟩
   rw [← hr]
   cases o <;> simp [ziv] at hc <;> simp [Sem.run, ho]
 | setObj r o k ih =>
   intro h K hs w hw
   subst hw
   obtain ⟨⟨u, hu, hc⟩, hk⟩ := hs
   obtain ⟨x, w', hr, hK, hS⟩ := ih hk { w with heap := w.heap.setIfInBounds r o } rfl
   refine ⟨x, w', ?_, hK, ⟨hS.tape, hS.os, hS.output, hS.drawn⟩⟩
   rw [← hr]
   cases u <;> simp [ziv] at hc <;> simp [Sem.run, hu]
 | choose q k ih =>
   intro h K hs w hw
   subst hw
   by_cases hq : q.forced = true
   · obtain ⟨x, w', hr, hK, hS⟩ := ih 0 (hs.1 hq) w rfl
     exact ⟨x, w', by simp only [Sem.run, hq, if_true]; exact hr, hK, hS⟩
   · have hq' : q.forced = false := by simpa using hq
     obtain ⟨x, w', hr, hK, hS⟩ := ih (q.cut (w.tape w.drawn q)) (hs.2 hq' _) { w with drawn := w.drawn + 1 } rfl
     exact ⟨x, w', by simp only [Sem.run, hq', Bool.false_eq_true, if_false]; exact hr, hK, ⟨hS.tape, hS.os, hS.output, Nat.le_trans (Nat.le_succ _) hS.drawn⟩⟩
 | sys c k ih => intro h K hs; exact hs.elim
 | program k ih => intro h K hs w hw; exact ih P hs w hw
 | mark m k ih => intro h K hs w hw; exact ih hs w hw
 | halt x => intro h K hs; exact hs.elim
theorem SWp.mono {α : Type} {P : Program} {s : Sem α} : ∀ {h : zab} {K K' : α → zab → Prop}, (∀ a h', K a h' → K' a h') → SWp P s h K → SWp P s h K' := by
 induction s with
 | pure a => intro h K K' hk hs; exact hk _ _ hs
 | load m a k ih => intro h K K' hk hs; obtain ⟨v, hv, h2⟩ := hs; exact ⟨v, hv, ih v hk h2⟩
 | store m a v k ih => intro h K K' hk hs; exact ⟨hs.1, hs.2.1, hs.2.2.1, ih hk hs.2.2.2⟩
 | new o k ih => intro h K K' hk hs; exact ih _ hk hs
 | shape r k ih => intro h K K' hk hs; exact ih _ hk hs
 | freeze a n k ih => intro h K K' hk hs; exact hs
 | frozen a k ih => intro h K K' hk hs; exact ih _ hk hs
 | getObj r k ih => intro h K K' hk hs; obtain ⟨o, ho, hc, h2⟩ := hs; exact ⟨o, ho, hc, ih o hk h2⟩
 | setObj r o k ih => intro h K K' hk hs; exact ⟨hs.1, ih hk hs.2⟩
 | choose q k ih => intro h K K' hk hs; exact ⟨fun hq => ih 0 hk (hs.1 hq), fun hq t => ih _ hk (hs.2 hq t)⟩
 | sys c k ih => intro h K K' hk hs; exact hs
 | program k ih => intro h K K' hk hs; exact ih P hk hs
 | mark m k ih => intro h K K' hk hs; exact ih hk hs
 | halt x => intro h K K' hk hs; exact hs
theorem SWp.bind {α β : Type} {P : Program} {s : Sem α} {f : α → Sem β} : ∀ {h : zab} {K : β → zab → Prop},
 SWp P s h (fun a h' => SWp P (f a) h' K) → SWp P (s >>= f) h K := by
 show ∀ {h : zab} {K : β → zab → Prop}, SWp P s h (fun a h' => SWp P (f a) h' K) → SWp P (s.bind f) h K
 induction s with
 | pure a => intro h K hs; exact hs
 | load m a k ih => intro h K hs; obtain ⟨v, hv, h2⟩ := hs; exact ⟨v, hv, ih v h2⟩
 | store m a v k ih => intro h K hs; exact ⟨hs.1, hs.2.1, hs.2.2.1, ih hs.2.2.2⟩
 | new o k ih => intro h K hs; exact ih _ hs
 | shape r k ih => intro h K hs; exact ih _ hs
 | freeze a n k ih => intro h K hs; exact hs
 | frozen a k ih => intro h K hs; exact ih _ hs
 | getObj r k ih => intro h K hs; obtain ⟨o, ho, hc, h2⟩ := hs; exact ⟨o, ho, hc, ih o h2⟩
 | setObj r o k ih => intro h K hs; exact ⟨hs.1, ih hs.2⟩
 | choose q k ih => intro h K hs; exact ⟨fun hq => ih 0 (hs.1 hq), fun hq t => ih _ (hs.2 hq t)⟩
 | sys c k ih => intro h K hs; exact hs
 | program k ih => intro h K hs; exact ih P hs
 | mark m k ih => intro h K hs; exact ih hs
 | halt x => intro h K hs; exact hs
theorem SWp.pure_iff {α : Type} {P : Program} {a : α} {h : zab} {K : α → zab → Prop} : SWp P (pure a) h K ↔ K a h := Iff.rfl
def zdc (P : Program) (f : FuncId) : Prop := ∃ fn, P.funcs[f]? = some fn ∧ (fn.name == "runtime.NumGoroutine") = false ∧ fn.body.isNone = false
def Run (P : Program) (f : FuncId) (args : List Value) (h : zab) (R : Value → zab → Prop) : Prop :=
 zdc P f ∧ ∀ w : World, w.heap = h → Calls P f args.toArray w fun e w' => ∃ v, e = .returned v ∧ R v w'.heap ∧ Same w w'
theorem Run.mono {P : Program} {f : FuncId} {args : List Value} {h : zab} {R R' : Value → zab → Prop} (hr : Run P f args h R)
 (hi : ∀ v h', R v h' → R' v h') : Run P f args h R' :=
 ⟨hr.1, fun w hw => (hr.2 w hw).mono fun _ _ ⟨v, he, hR, hS⟩ => ⟨v, he, hi _ _ hR, hS⟩⟩
theorem zff {P : Program} {f : FuncId} (hc : zdc P f) (args : Array Value) (w : World) :
 (callFunc f args).run P w = .ok (.enter f args) w := by
 obtain ⟨fn, hf, hn, hb⟩ := hc
 unfold callFunc
 show Sem.run P (Sem.bind program _) w = _
 simp only [program, Sem.bind, Sem.run, hf]
 rw [if_neg (by rw [hn]; simp), if_neg (by rw [hb]; simp)]
 rfl
def zd0 : List Value → Nat → Value
 | [], _ => undef
 | v :: _, 0 => v
 | _ :: l, n + 1 => zd0 l n
def znk : List Value → Nat → Value → List Value
 | [], _, _ => []
 | _ :: l, 0, v => v :: l
 | x :: l, n + 1, v => x :: znk l n v
def lput (t : List Value) (d : Option Tmp) (v : Value) : List Value :=
 match d with
 | some i => znk t i v
 | none => t
def ev (t : List Value) : Operand → Value
 | .tmp i => zd0 t i
 | .const v => v
 | .global g => .pointer (some ⟨g, 0, none⟩)
 | .func f => .func (.func f) #[] #[]
inductive Sh where
 | i (k : IntKind) | b | s | p | sl | m | v
def shOf : Value → Sh
 | .int k _ => .i k
 | .bool _ => .b
 | .string _ => .s
 | .pointer _ => .p
 | .slice .. => .sl
 | .map _ => .m
 | _ => .v
def Sh.Ex (x : Sh) (f : Value → Prop) : Prop :=
 match x with
 | .i k => ∃ n : Int, f (.int k n)
 | .b => ∃ c : Bool, f (.bool c)
 | .s => ∃ s : ByteArray, f (.string s)
 | .p => ∃ a : Option Addr, f (.pointer a)
 | .sl => ∃ (a : Option Addr) (n c : Nat), f (.slice a n c)
 | .m => ∃ r : Option Nat, f (.map r)
 | .v => ∃ v : Value, f v
def exL : List Value → (List Value → Prop) → Prop
 | [], f => f []
 | z :: l, f => (shOf z).Ex fun v => exL l fun vs => f (v :: vs)
def exE (z : Value) (f : Value → Prop) : Prop :=
 match z with
 | .agg cs => exL cs.toList fun vs => f (.agg vs.toArray)
 | z => (shOf z).Ex f
def exT : List Value → (List Value → Prop) → Prop
 | [], f => f []
 | z :: l, f => exE z fun v => exT l fun vs => f (v :: vs)
def exZ (z : Value) (f : Value → Prop) : Prop :=
 match z with
 | .tuple cs => exT cs.toList fun vs => f (.tuple vs.toArray)
 | z => exE z f
def zbj (a : Option Addr) (K : Nat → Nat → Prop) : Prop :=
 match a with
 | some ⟨b, o, none⟩ => K b o
 | _ => False
def addO (o n : Nat) : Nat := cond (Nat.beq n 0) o (o + n)
def bcase (v : Value) (A B : Prop) : Prop :=
 match v with
 | .bool c => cond c A B
 | _ => False
inductive Lay where
 | one (z : Value)
 | many (cs : List Value)
def zdn (P : Program) (t : TypeId) : Option Lay :=
 match P.underlying t, P.info? t with
 | some (.struct _), some i | some (.array ..), some i =>
   match i.zero with
   | some (.agg cs) => if cs.size = i.size then some (.many cs.toList) else none
   | _ => none
 | some _, some i =>
   match i.zero with
   | some z => if single z = true ∧ i.size = 1 then some (.one z) else none
   | none => none
 | _, _ => none
def loadS (h : zab) (b o : Nat) : List Value → Nat → (List Value → Prop) → Prop
 | [], _, K => K []
 | z :: l, i, K => (shOf z).Ex fun v => hcell h ⟨b, addO o i, none⟩ = some v ∧ loadS h b o l (i + 1) fun vs => K (v :: vs)
def loadK (P : Program) (t : TypeId) (a : Option Addr) (h : zab) (K : Value → Prop) : Prop :=
 match zdn P t with
 | some (.one z) => zbj a fun b o => (shOf z).Ex fun v => hcell h ⟨b, o, none⟩ = some v ∧ K v
 | some (.many cs) => zbj a fun b o => loadS h b o cs 0 fun vs => K (.agg vs.toArray)
 | none => False
def stK (h : zab) (a : Addr) (v : Value) (K : zab → Prop) : Prop :=
 single v = true ∧ (∃ u, hcell h a = some u) ∧ hfroz h a = false ∧ K (hset h a v)
def zhx (h : zab) (o : Obj) (K : Nat → zab → Prop) : Prop := K h.size (h.push o)
def zc2 (b o : Nat) : List Value → Nat → zab → (zab → Prop) → Prop
 | [], _, h, K => K h
 | v :: l, i, h, K => stK h ⟨b, addO o i, none⟩ v fun h' => zc2 b o l (i + 1) h' K
def zhj (P : Program) (t : TypeId) (a : Option Addr) (x : Value) (h : zab) (K : zab → Prop) : Prop :=
 match zdn P t, x with
 | some (.one _), x => zbj a fun b o => stK h ⟨b, o, none⟩ x K
 | some (.many cs), .agg vs => zbj a fun b o => cond (Nat.beq cs.length vs.toList.length) (zc2 b o vs.toList 0 h K) False
 | _, _ => False
def XWp {α : Type} (P : Program) : Sem α → (α → Prop) → Prop
 | .pure a, K => K a
 | .program k, K => XWp P (k P) K
 | .mark _ k, K => XWp P k K
 | _, _ => False
def PWp {α : Type} (P : Program) : Sem α → zab → (α → Prop) → Prop
 | .pure a, _, K => K a
 | .load _ a k, h, K => ∃ v, hcell h a = some v ∧ PWp P (k v) h K
 | .shape r k, h, K => PWp P (k (hshape h r)) h K
 | .frozen a k, h, K => PWp P (k (hfroz h a)) h K
 | .getObj r k, h, K => ∃ o, h[r]? = some o ∧ ziv o = false ∧ PWp P (k o) h K
 | .program k, h, K => PWp P (k P) h K
 | .mark _ k, h, K => PWp P k h K
 | _, _, _ => False
def zaq : IntKind → Nat
 | .i8 => 0 | .i16 => 1 | .i32 => 2 | .i64 => 3 | .u8 => 4 | .u16 => 5 | .u32 => 6 | .u64 => 7
def eqV : Value → Value → Option Bool
 | .int k a, .int k' b => cond (Nat.beq (zaq k) (zaq k')) (some (a == b)) none
 | .bool a, .bool b => some (a == b)
 | .string a, .string b => some (a.toList == b.toList)
 | _, _ => none
def eqL : List Value → List Value → Option Bool
 | [], [] => some true
 | x :: xs, y :: ys =>
   match eqV x y, eqL xs ys with
   | some a, some b => some (a && b)
   | _, _ => none
 | _, _ => none
def flat (P : Program) : List Field → Nat → Bool
 | [], _ => true
 | f :: l, i => (f.offset == i) && (f.name != "_") && (match P.underlying f.type with | some .bool | some (.int _) | some .string => true | _ => false) && flat P l (i + 1)
def fits (P : Program) : List Field → List Value → Bool
 | [], [] => true
 | f :: fs, v :: vs => (match P.underlying f.type, v with | some .bool, .bool _ => true | some (.int _), .int _ _ => true | some .string, .string _ => true | _, _ => false) && fits P fs vs
 | _, _ => false
def intK (op : BinOp) (k : IntKind) (x y : Int) (K : Value → Prop) : Prop :=
 match op with
 | .add => K (.int k (k.wrap (x + y)))
 | .sub => K (.int k (k.wrap (x - y)))
 | .mul => K (.int k (k.wrap (x * y)))
 | .quo => y ≠ 0 ∧ K (.int k (k.wrap (x.tdiv y)))
 | .rem => y ≠ 0 ∧ K (.int k (x.tmod y))
 | .eql => K (.bool (x == y))
 | .neq => K (.bool (x != y))
 | .lss => K (.bool (x < y))
 | .leq => K (.bool (x ≤ y))
 | .gtr => K (.bool (x > y))
 | .geq => K (.bool (x ≥ y))
 | .and => K (.int k (k.wrap (BitVec.ofInt k.bits x &&& BitVec.ofInt k.bits y).toNat))
 | .or => K (.int k (k.wrap (BitVec.ofInt k.bits x ||| BitVec.ofInt k.bits y).toNat))
 | .xor => K (.int k (k.wrap (BitVec.ofInt k.bits x ^^^ BitVec.ofInt k.bits y).toNat))
 | .andNot => K (.int k (k.wrap (BitVec.ofInt k.bits x &&& ~~~BitVec.ofInt k.bits y).toNat))
 | .shl => 0 ≤ y ∧ K (.int k (k.wrap (x * 2 ^ (min y.toNat k.bits))))
 | .shr => 0 ≤ y ∧ K (.int k (x.fdiv (2 ^ (min y.toNat k.bits))))
def ze7 (op : BinOp) (z : Bool) (K : Value → Prop) : Prop :=
 match op with
 | .eql => K (.bool z)
 | .neq => K (.bool !z)
 | _ => False
def strK (op : BinOp) (x y : ByteArray) (K : Value → Prop) : Prop :=
 match op with
 | .add => x.size + y.size < 9223372036854775808 ∧ K (.string (x ++ y))
 | .eql => K (.bool (x.toList == y.toList))
 | .neq => K (.bool !(x.toList == y.toList))
 | .lss => K (.bool (Op.bytesLess x.toList y.toList))
 | .leq => K (.bool (Op.bytesLess x.toList y.toList || x.toList == y.toList))
 | .gtr => K (.bool !(Op.bytesLess x.toList y.toList || x.toList == y.toList))
 | .geq => K (.bool !(Op.bytesLess x.toList y.toList))
 | _ => False
def zmb (k k' : IntKind) (A : Prop) : Prop := cond (Nat.beq (zaq k) (zaq k')) A False
def binK (P : Program) (op : BinOp) (T : TypeId) (x y : Value) (K : Value → Prop) : Prop :=
 match x, y with
 | .int k a, .int k' b =>
   match op with
   | .shl => 0 ≤ b ∧ K (.int k (k.wrap (a * 2 ^ (min b.toNat k.bits))))
   | .shr => 0 ≤ b ∧ K (.int k (a.fdiv (2 ^ (min b.toNat k.bits))))
   | op => zmb k k' (intK op k a b K)
 | .string a, .string b => strK op a b K
 | .bool a, .bool b => match P.underlying T with | some .bool => ze7 op (a == b) K | _ => False
 | .pointer a, .pointer none => match P.underlying T with | some (.pointer _) => ze7 op a.isNone K | _ => False
 | .slice a _ _, .slice none _ _ => match P.underlying T with | some (.slice _) => ze7 op a.isNone K | _ => False
 | .map a, .map none => match P.underlying T with | some (.map ..) => ze7 op a.isNone K | _ => False
 | .agg xs, .agg ys =>
   match P.underlying T with
   | some (.struct fs) => cond (flat P fs.toList 0 && !P.stoodInHeld T && !P.eqGuardType P.depth T)
    (cond (fits P fs.toList xs.toList && Nat.beq xs.toList.length fs.toList.length && Nat.beq ys.toList.length fs.toList.length)
     (match eqL xs.toList ys.toList with | some c => ze7 op c K | none => False) False) False
   | _ => False
 | _, _ => False
def pickK (c a b : Value) (K : Value → Prop) : Prop :=
 match c, a, b with
 | .bool c, .bool x, .bool y => K (.bool (cond c x y))
 | .bool c, a, b => cond c (K a) (K b)
 | _, _, _ => False
def zah (P : Program) (t : TypeId) : Nat := ((P.info? t).map (·.size)).getD 0
def zhi (a b : Nat) : Nat := cond (Nat.beq b 0) a (a - b)
def slA (a : Option Addr) (c l s : Nat) : Option Addr := cond (Nat.beq l 0) a (if c = l then a else a.map fun x => ⟨x.block, x.off + l * s, none⟩)
def leK (c : Bool) (l r : Int) (K : Prop) : Prop := cond c K (l ≤ r ∧ K)
def nz (n : Nat) (A : Prop) : Prop := cond (Nat.beq n 0) False A
def zar : List Value → Nat → List Value → List Value
 | l, _, [] => l
 | [], _, _ => []
 | _ :: l, 0, v :: vs => v :: zar l 0 vs
 | x :: l, n + 1, v :: vs => x :: zar l n (v :: vs)
def zmi (place : Nat → Option (Nat × Nat)) : List Value → List (Nat × Value) → Option (List Value)
 | l, [] => some l
 | l, (i, v) :: rest =>
   match place i with
   | none => none
   | some (o, s) => cond (Nat.beq v.cells.toList.length s && Nat.ble (o + v.cells.toList.length) l.length) (zmi place (zar l o v.cells.toList) rest) none
def zil (P : Program) (fs : List Field) (i : Nat) : Option (Nat × Nat) :=
 match fs[i]? with
 | some f => some (f.offset, zah P f.type)
 | none => none
def zi4 (P : Program) : List Field → Bool
 | [] => true
 | f :: fs => !Nat.beq (zah P f.type) 0 && zi4 P fs
def zcs (o : Oper) : Bool :=
 match o.op with
 | .move _ | .assign _ | .pick .. | .nilCheck _ | .binOp .. | .unOp .. | .convert .. | .makeFunc .. | .fieldAddr .. | .field .. | .indexAddr .. | .index .. | .extract .. | .slice .. | .build .. => true
 | .call { callee := .builtin .len, argTypes := _, args := _ } => false
 | .call { callee := .builtin .min, .. } | .call { callee := .builtin .max, .. } => true
 | _ => false
def zll (o : Oper) : Bool :=
 match o.op with
 | .load .. | .lookup .. => true
 | .call { callee := .builtin .len, .. } => true
 | _ => false
def nextV (K : Value → Prop) : Next → Prop
 | .value v => K v
 | _ => False
def bnd (t : List Value) (x : Option Operand) (d : Int) : Option Int :=
 match x with
 | none => some d
 | some x => match ev t x with | .int _ i => some i | _ => none
def zfj (P : Program) (t : List Value) (o : Oper) (K : Value → Prop) : Prop :=
 match o.op with
 | .move x | .assign x => K (ev t x)
 | .pick c a b => pickK (ev t c) (ev t a) (ev t b) K
 | .nilCheck x =>
   match ev t x with
   | .pointer a => zbj a fun b o => K (.pointer (some ⟨b, o, none⟩))
   | .func (.func f) a b => K (.func (.func f) a b)
   | _ => False
 | .binOp op T x y _ => binK P op T (ev t x) (ev t y) K
 | .fieldAddr s x f =>
   match P.underlying s, ev t x with
   | some (.struct fs), .pointer a =>
     match fs[f]? with
     | some fd => nz (zah P fd.type) (zbj a fun b o => K (.pointer (some ⟨b, addO o fd.offset, none⟩)))
     | none => False
   | _, _ => False
 | .indexAddr T x i =>
   match P.underlying T, ev t x, ev t i with
   | some (.slice e), .slice a n _, .int _ i => zbj a fun b o => 0 ≤ i ∧ i < n ∧ nz (zah P e) (K (.pointer (some ⟨b, o + i.toNat * zah P e, none⟩)))
   | some (.array n e), .pointer a, .int _ i => zbj a fun b o => 0 ≤ i ∧ i < n ∧ nz (zah P e) (K (.pointer (some ⟨b, o + i.toNat * zah P e, none⟩)))
   | _, _, _ => False
 | .index T x i =>
   match P.underlying T, ev t x, ev t i with
   | some .string, .string s, .int _ i => 0 ≤ i ∧ i < s.size ∧ K (.int .u8 (s.data.getD i.toNat 0).toNat)
   | _, _, _ => XWp P (execOp (ev t) o) (nextV K)
 | .build T ps =>
   match P.underlying T, P.info? T with
   | some (.struct fs), some i =>
     match i.zero with
     | some (.agg cs) => cond (zi4 P fs.toList)
       (match zmi (zil P fs.toList) cs.toList (ps.toList.map fun p => (p.1, ev t p.2)) with
        | some l => K (.agg l.toArray)
        | none => False) False
     | _ => False
   | _, _ => XWp P (execOp (ev t) o) (nextV K)
 | .slice T x lo hi mx =>
   match P.underlying T, ev t x, mx with
   | some (.slice e), .slice a n c, none =>
     match bnd t lo 0, bnd t hi n with
     | some l, some r => leK lo.isNone 0 l (l ≤ r ∧ r ≤ c ∧ nz (zah P e) (K (.slice (slA a c l.toNat (zah P e)) (zhi r.toNat l.toNat) (zhi c l.toNat))))
     | _, _ => False
   | some .string, .string s, none =>
     match bnd t lo 0, bnd t hi s.size with
     | some l, some r => leK lo.isNone 0 l (l ≤ r ∧ r ≤ s.size ∧ K (.string (s.extract l.toNat r.toNat)))
     | _, _ => False
   | some (.slice e), .slice a n c, some mx =>
     match bnd t lo 0, bnd t hi n, bnd t (some mx) 0 with
     | some l, some r, some m => cond hi.isSome (leK lo.isNone 0 l (l ≤ r ∧ r ≤ m ∧ m ≤ c ∧ nz (zah P e) (K (.slice (slA a m.toNat l.toNat (zah P e)) (zhi r.toNat l.toNat) (zhi m.toNat l.toNat))))) False
     | _, _, _ => False
   | some (.pointer A), .pointer a, none =>
     match P.underlying A with
     | some (.array n e) =>
       match bnd t lo 0, bnd t hi n with
       | some l, some r => zbj a fun b o => leK lo.isNone 0 l (l ≤ r ∧ r ≤ n ∧ nz (zah P e) (K (.slice (slA (some ⟨b, o, none⟩) n l.toNat (zah P e)) (zhi r.toNat l.toNat) (zhi n l.toNat))))
       | _, _ => False
     | _ => False
   | some (.array n e), .pointer a, none =>
     match bnd t lo 0, bnd t hi n with
     | some l, some r => zbj a fun b o => leK lo.isNone 0 l (l ≤ r ∧ r ≤ n ∧ nz (zah P e) (K (.slice (slA (some ⟨b, o, none⟩) n l.toNat (zah P e)) (zhi r.toNat l.toNat) (zhi n l.toNat))))
     | _, _ => False
   | _, _, _ => False
 | _ => XWp P (execOp (ev t) o) (nextV K)
def zeroOf (P : Program) (t : TypeId) : Value := (((P.info? t).bind (·.zero))).getD undef
def zfp (P : Program) (T : TypeId) (m k : Value) (ok : Bool) (h : zab) (K : Value → Prop) : Prop := PWp P (Instr.lookup T m k ok) h K
def zcp (h : zab) (r : Option Nat) (K : Int → Prop) : Prop :=
 match r with
 | none => K 0
 | some b => ∃ es c, h[b]? = some (.map es c) ∧ K es.size
def readK (P : Program) (t : List Value) (o : Oper) (h : zab) (K : Value → Prop) : Prop :=
 match o.op with
 | .load T a =>
   match ev t a with
   | .pointer a => loadK P T a h K
   | _ => False
 | .lookup T m k ok => zfp P T (ev t m) (ev t k) ok h fun v => exZ (zeroOf P o.type) fun v' => v = v' ∧ K v'
 | .call c =>
   match c.callee with
   | .builtin .len =>
     match c.args[0]?, c.argTypes[0]? with
     | some x, some T =>
       match P.underlying T, ev t x with
       | some .string, .string s => K (.int .i64 s.size)
       | some (.slice _), .slice _ n _ => K (.int .i64 n)
       | some (.map ..), .map r => zcp h r fun n => K (.int .i64 n)
       | _, _ => False
     | _, _ => False
   | _ => False
 | _ => False
abbrev Hints := List (Nat × List (Nat × Sh))
structure Hn where
 hs : Hints
 js : Hints
 rs : List (Nat × TypeId)
def rsOf : List (Nat × TypeId) → Operand → TypeId
 | (s, T) :: l, .tmp n => cond (Nat.beq s n) T (rsOf l (.tmp n))
 | _, _ => 0
def zie (P : Program) (f : Value) (args : List Value) (h : zab) (R : Value → zab → Prop) : Prop :=
 match f with
 | .func (.func g) first captured => Run P g (first.toList ++ args ++ captured.toList) h R
 | _ => False
def zlw (P : Program) (K : Value → zab → Prop) : Next → zab → Prop
 | .value v, h => K v h
 | .skip, h => K undef h
 | .enter f args, h => Run P f args.toList h K
 | _, _ => False
def ze5 (P : Program) (ts : Array TypeId) (T : TypeId) (s x : Value) (h : zab) (K : Value → zab → Prop) : Prop := SWp P (Builtin.append_ ts T #[s, x]) h K
def zjx (P : Program) (ts : Array TypeId) (T : TypeId) (s x : Value) (h : zab) (K : Value → zab → Prop) : Prop := SWp P (Builtin.copy_ ts T #[s, x]) h K
def delK (P : Program) (ts : Array TypeId) (T : TypeId) (s x : Value) (h : zab) (K : Value → zab → Prop) : Prop := SWp P (Builtin.delete_ ts T #[s, x]) h K
def zjk (P : Program) (ts : Array TypeId) (T : TypeId) (x : Value) (h : zab) (K : Value → zab → Prop) : Prop := SWp P (Builtin.clear_ ts T #[x]) h K
def zov (P : Program) (T : TypeId) (m k v : Value) (h : zab) (K : zab → Prop) : Prop := SWp P (Instr.mapUpdate T m k v) h fun _ h' => K h'
def zjq (P : Program) (T : TypeId) (l c : Value) (h : zab) (K : Value → zab → Prop) : Prop := SWp P (Instr.makeSlice T l c) h K
def zdj (P : Program) (T : TypeId) (x : Value) (h : zab) (K : Value → zab → Prop) : Prop := SWp P (Instr.range T x) h K
def zgx (P : Program) (it : Value) (h : zab) (E : zab → Prop) (K : Value → Value → zab → Prop) : Prop :=
 SWp P (Instr.next it false 0) h fun v h' => (v = .tuple #[.bool false] ∧ E h') ∨ ∃ k x : Value, v = .tuple #[.bool true, k, x] ∧ K k x h'
def nextS (P : Program) (it : Value) (h : zab) (E : zab → Prop) (K : Int → Int → zab → Prop) : Prop :=
 SWp P (Instr.next it true 0) h fun v h' => (v = .tuple #[.bool false] ∧ E h') ∨ ∃ i c : Int, v = .tuple #[.bool true, .int .i64 i, .int .i32 c] ∧ K i c h'
def zcw (P : Program) (it : Value) (h : zab) (K : Value → zab → Prop) : Prop := SWp P (Instr.entry it) h K
def entryK (P : Program) (T : TypeId) (it : Value) (h : zab) (K : Value → zab → Prop) : Prop :=
 match P.underlying T with
 | some (.map k e) => zcw P it h fun v h' => exE (zeroOf P k) fun a => exE (zeroOf P e) fun b => v = .tuple #[a, b] ∧ K (.tuple #[a, b]) h'
 | _ => False
def zbe (P : Program) (T : TypeId) (m k : Value) (h : zab) (K : Value → zab → Prop) : Prop := SWp P (Instr.mapEntry T m k) h K
def zb0 (P : Program) (T : TypeId) (m s v : Value) (h : zab) (K : zab → Prop) : Prop := SWp P (Instr.entryStore T m s v) h fun _ h' => K h'
def typed (P : Program) (T : TypeId) (K : Value → zab → Prop) (v : Value) (h : zab) : Prop := exZ (zeroOf P T) fun v' => v = v' ∧ K v' h
def effK (P : Program) (H : Hn) (t : List Value) (o : Oper) (h : zab) (K : Value → zab → Prop) : Prop :=
 match o.op with
 | .store T a x =>
   match ev t a with
   | .pointer a => zhj P T a (ev t x) h (K undef)
   | _ => False
 | .box T x => zhx h (.cells (ev t x).cells T) fun b h' => K (.pointer (some ⟨b, 0, none⟩)) h'
 | .alloc T => match (P.info? T).bind (·.zero) with
   | some z => zhx h (.cells z.cells T) fun b h' => K (.pointer (some ⟨b, 0, none⟩)) h'
   | none => False
 | .buildSlice T n ps =>
   match P.underlying T with
   | some (.slice e) =>
     match P.info? e with
     | some i =>
       match i.zero with
       | some z => cond (Nat.ble (n * i.size) 16777216 && !Nat.beq (n * i.size) 0)
         (match zmi (fun j => some (j * i.size, i.size)) ((List.range (n * i.size)).map fun j => z.cells[j % z.cells.size]!) (ps.toList.map fun p => (p.1, ev t p.2)) with
         | some l => zhx h (.cells l.toArray e) fun b h' => K (.slice (some ⟨b, 0, none⟩) n n) h'
         | none => False) False
       | none => False
     | none => False
   | _ => False
 | .makeMap _ none => zhx h (.map #[] 0) fun b h' => K (.map (some b)) h'
 | .mapUpdate T m k v => zov P T (ev t m) (ev t k) (ev t v) h (K undef)
 | .makeSlice T l c => zjq P T (ev t l) (ev t c) h (typed P o.type K)
 | .range T x => zdj P T (ev t x) h K
 | .mapEntry T m k => zbe P T (ev t m) (ev t k) h K
 | .entryStore T m s v => zb0 P T (ev t m) (ev t s) (ev t v) h (K undef)
 | .call c =>
   match c.callee with
   | .value f => zie P (ev t f) (c.args.toList.map (ev t)) h (typed P o.type K)
   | .builtin .append => match c.args.toList with
     | [s, x] => ze5 P c.argTypes o.type (ev t s) (ev t x) h (typed P o.type K)
     | _ => False
   | .builtin .copy => match c.args.toList with
     | [s, x] => zjx P c.argTypes o.type (ev t s) (ev t x) h (typed P o.type K)
     | _ => False
   | .builtin .delete => match c.args.toList with
     | [s, x] => delK P c.argTypes o.type (ev t s) (ev t x) h K
     | _ => False
   | .builtin .clear => match c.args.toList with
     | [x] => zjk P c.argTypes o.type (ev t x) h K
     | _ => False
   | _ => SWp P (execOp (ev t) o) h (zlw P K)
 | .next it false => zgx P (ev t it) h (fun h' => K (.tuple #[.bool false]) h') (fun a b h' => K (.tuple #[.bool true, a, b]) h')
 | .next it true => nextS P (ev t it) h (fun h' => K (.tuple #[.bool false]) h') (fun i c h' => K (.tuple #[.bool true, .int .i64 i, .int .i32 c]) h')
 | .entry it => entryK P (rsOf H.rs it) (ev t it) h K
 | .panic _ => False
 | .makeInterface _ _ => False
 | _ => SWp P (execOp (ev t) o) h (zlw P K)
def opK (P : Program) (H : Hn) (t : List Value) (o : Oper) (h : zab) (K : Value → zab → Prop) : Prop :=
 cond (zcs o) (zfj P t o fun v => K v h) (cond (zll o) (readK P t o h fun v => K v h) (effK P H t o h K))
def zdq (ops : List Oper) (o : Oper) : Option (Option Nat × Bool) :=
 match o.guard with
 | none => none
 | some (j, want) => some ((ops[j]?).bind (·.dst), want)
def zg1 (ops : List Oper) (o : Oper) (t : List Value) (A B : List Value → Prop) : Prop :=
 match zdq ops o with
 | none => A t
 | some (none, _) => B t
 | some (some d, want) =>
   match zd0 t d with
   | .bool c => cond c (cond want (A (znk t d (.bool true))) (B (znk t d (.bool true)))) (cond want (B (znk t d (.bool false))) (A (znk t d (.bool false))))
   | _ => B t
def vcOps (P : Program) (H : Hn) (ops : List Oper) (K : List Value → zab → Prop) : List Oper → List Value → zab → Prop
 | [], t, h => K t h
 | o :: rest, t, h => zg1 ops o t (fun t => opK P H t o h fun v h' => vcOps P H ops K rest (lput t o.dst v) h') (fun t => vcOps P H ops K rest (lput t o.dst undef) h)
def readyL (ops : List Oper) (done : List Nat) (i : Nat) : Bool :=
 !done.contains i && match ops[i]? with
  | some o => o.after.toList.all fun e => !Region.binds .any e || done.contains e.on
  | none => false
def zjp (ops : List Oper) (done : List Nat) : Option Nat :=
 (List.range ops.length).find? fun i => readyL ops done i && (match ops[i]? with | some o => zcs o || zll o | none => false)
def zbi (ops : List Oper) (done : List Nat) : List Nat := (List.range ops.length).filter (readyL ops done)
def conjL : List Nat → (Nat → Prop) → Prop
 | [], _ => False
 | [i], f => f i
 | i :: l, f => f i ∧ conjL l f
def zc7 (ops : List Oper) : Nat → Nat → Nat → Bool
 | 0, _, _ => false
 | n + 1, i, j =>
   match ops[j]? with
   | some o => o.after.toList.any fun e => Region.binds .any e && (e.on == i || zc7 ops n i e.on)
   | none => false
def again (P : Program) (ops : List Oper) (e : Nat) (h : zab) : List (Nat × Oper × List Value × Value) → Prop → Prop
 | [], K => K
 | (i, o, t, v) :: l, K => cond (zc7 ops ops.length i e) (again P ops e h l K) (readK P t o h (fun v' => v' = v) ∧ again P ops e h l K)
def zhf (P : Program) (H : Hn) (ops : List Oper) (K : List Value → zab → Prop) : Nat → List Nat → List (Nat × Oper × List Value × Value) → List Value → zab → Prop
 | 0, _, _, t, h => K t h
 | n + 1, done, held, t, h =>
   match zjp ops done with
   | some i =>
     match ops[i]? with
     | none => False
     | some o => zg1 ops o t
      (fun t => cond (zcs o) (zfj P t o fun v => zhf P H ops K n (i :: done) held (lput t o.dst v) h)
       (readK P t o h fun v => zhf P H ops K n (i :: done) ((i, o, t, v) :: held) (lput t o.dst v) h))
      (fun t => zhf P H ops K n (i :: done) held (lput t o.dst undef) h)
   | none => conjL (zbi ops done) fun i =>
     match ops[i]? with
     | none => False
     | some o => zg1 ops o t
      (fun t => effK P H t o h fun v h' => again P ops i h' held (zhf P H ops K n (i :: done) held (lput t o.dst v) h'))
      (fun t => zhf P H ops K n (i :: done) held (lput t o.dst undef) h)
def zg2 (ops : List Oper) : Nat → List Nat → Bool
 | 0, done => (List.range ops.length).all fun i => done.contains i
 | n + 1, done =>
   match zjp ops done with
   | some i =>
     match ops[i]? with
     | none => false
     | some o =>
       ((List.range ops.length).all fun j => j == i || done.contains j || match ops[j]? with
        | some oj => oj.after.toList.any (fun e => Region.binds .any e && e.on == i) || o.apart ops.toArray oj
        | none => true) && zg2 ops n (i :: done)
   | none => (zbi ops done).all fun i => (match ops[i]? with | some o => !(zcs o || zll o) | none => false) && zg2 ops n (i :: done)
inductive Ex where
 | nrm
 | ext (id : Nat)
 | ret
abbrev Post := Ex → List Value → zab → Prop
def InvT : List Sh → Type
 | [] => zab → Prop
 | .i _ :: l => Int → InvT l
 | .b :: l => Bool → InvT l
 | .s :: l => ByteArray → InvT l
 | .p :: l => Option Addr → InvT l
 | .sl :: l => Option Addr → Nat → Nat → InvT l
 | .m :: l => Option Nat → InvT l
 | .v :: l => Value → InvT l
def MeaT : List Sh → Type
 | [] => zab → Nat
 | .i _ :: l => Int → MeaT l
 | .b :: l => Bool → MeaT l
 | .s :: l => ByteArray → MeaT l
 | .p :: l => Option Addr → MeaT l
 | .sl :: l => Option Addr → Nat → Nat → MeaT l
 | .m :: l => Option Nat → MeaT l
 | .v :: l => Value → MeaT l
def app : (l : List Sh) → InvT l → List Value → zab → Prop
 | [], I, [], h => I h
 | .i k :: l, I, .int k' n :: vs, h => zmb k k' (app l (I n) vs h)
 | .b :: l, I, .bool c :: vs, h => app l (I c) vs h
 | .s :: l, I, .string s :: vs, h => app l (I s) vs h
 | .p :: l, I, .pointer a :: vs, h => app l (I a) vs h
 | .sl :: l, I, .slice a n c :: vs, h => app l (I a n c) vs h
 | .m :: l, I, .map r :: vs, h => app l (I r) vs h
 | .v :: l, I, v :: vs, h => app l (I v) vs h
 | _, _, _, _ => False
def appM : (l : List Sh) → MeaT l → List Value → zab → Nat
 | [], m, [], h => m h
 | .i _ :: l, m, .int _ n :: vs, h => appM l (m n) vs h
 | .b :: l, m, .bool c :: vs, h => appM l (m c) vs h
 | .s :: l, m, .string s :: vs, h => appM l (m s) vs h
 | .p :: l, m, .pointer a :: vs, h => appM l (m a) vs h
 | .sl :: l, m, .slice a n c :: vs, h => appM l (m a n c) vs h
 | .m :: l, m, .map r :: vs, h => appM l (m r) vs h
 | .v :: l, m, v :: vs, h => appM l (m v) vs h
 | _, _, _, _ => 0
def allI : (l : List Sh) → InvT l → zab → (List Value → Prop) → Prop
 | [], I, h, f => I h → f []
 | .i k :: l, I, h, f => ∀ n : Int, allI l (I n) h fun vs => f (.int k n :: vs)
 | .b :: l, I, h, f => ∀ c : Bool, allI l (I c) h fun vs => f (.bool c :: vs)
 | .s :: l, I, h, f => ∀ s : ByteArray, allI l (I s) h fun vs => f (.string s :: vs)
 | .p :: l, I, h, f => ∀ a : Option Addr, allI l (I a) h fun vs => f (.pointer a :: vs)
 | .sl :: l, I, h, f => ∀ (a : Option Addr) (n c : Nat), allI l (I a n c) h fun vs => f (.slice a n c :: vs)
 | .m :: l, I, h, f => ∀ r : Option Nat, allI l (I r) h fun vs => f (.map r :: vs)
 | .v :: l, I, h, f => ∀ v : Value, allI l (I v) h fun vs => f (v :: vs)
def zbl : Code → List Nat
 | .region _ ops _ => ops.toList.filterMap (·.dst) ++ ops.toList.filterMap fun o => match o.guard with | some (j, _) => (ops.toList[j]?).bind (·.dst) | none => none
 | .seq x y => zbl x ++ zbl y
 | .cond _ x y => zbl x ++ zbl y
 | .block _ c => zbl c
 | .loop c => zbl c
 | .scope c => zbl c
 | _ => []
def garb (md : List Nat) (g : Nat → Value) : List Value → Nat → List Value
 | [], _ => []
 | v :: l, k => cond (md.contains k) (g k) v :: garb md g l (k + 1)
def zhk : List Value → List Nat → List Value → List Value
 | t, i :: is, v :: vs => zhk (znk t i v) is vs
 | t, _, _ => t
def zai : Code → Nat
 | .region id _ _ => id
 | .seq x _ => zai x
 | .cond _ x _ => zai x
 | .block _ c => zai c
 | .loop c => zai c
 | .scope c => zai c
 | _ => 0
def zd3 (hs : Hints) (n : Nat) : List (Nat × Sh) :=
 match hs with
 | [] => []
 | (k, l) :: r => cond (Nat.beq k n) l (zd3 r n)
def hasHint (hs : Hints) (n : Nat) : Bool :=
 match hs with
 | [] => false
 | (k, _) :: r => cond (Nat.beq k n) true (hasHint r n)
def zqn : (l : List Sh) → InvT l → zab → (List Value → Prop) → Prop
 | [], I, h, f => f [] → I h
 | .i k :: l, I, h, f => ∀ n : Int, zqn l (I n) h fun vs => f (.int k n :: vs)
 | .b :: l, I, h, f => ∀ c : Bool, zqn l (I c) h fun vs => f (.bool c :: vs)
 | .s :: l, I, h, f => ∀ s : ByteArray, zqn l (I s) h fun vs => f (.string s :: vs)
 | .p :: l, I, h, f => ∀ a : Option Addr, zqn l (I a) h fun vs => f (.pointer a :: vs)
 | .sl :: l, I, h, f => ∀ (a : Option Addr) (n c : Nat), zqn l (I a n c) h fun vs => f (.slice a n c :: vs)
 | .m :: l, I, h, f => ∀ r : Option Nat, zqn l (I r) h fun vs => f (.map r :: vs)
 | .v :: l, I, h, f => ∀ v : Value, zqn l (I v) h fun vs => f (v :: vs)
def slots : List (Nat × Sh) → List Nat
 | [] => []
 | p :: l => p.1 :: slots l
def shapes : List (Nat × Sh) → List Sh
 | [] => []
 | p :: l => p.2 :: shapes l
def vals (t : List Value) : List (Nat × Sh) → List Value
 | [] => []
 | p :: l => zd0 t p.1 :: vals t l
def ziw (md : List Nat) (t : List Value) (l : List (Nat × Sh)) (g : Nat → Value) (vs : List Value) : List Value :=
 zhk (garb md g t 0) (slots l) vs
def thenQ (K : List Value → zab → Prop) (Q : Post) : Post
 | .nrm, t, h => K t h
 | .ext i, t, h => Q (.ext i) t h
 | .ret, t, h => Q .ret t h
def blockQ (id : Nat) (Q : Post) : Post
 | .nrm, t, h => Q .nrm t h
 | .ext j, t, h => cond (Nat.beq j id) (Q .nrm t h) (Q (.ext j) t h)
 | .ret, t, h => Q .ret t h
def vc (P : Program) (H : Hn) : Code → Post → List Value → zab → Prop
 | .skip, Q, t, h => Q .nrm t h
 | .region _ ops d, Q, t, h =>
   cond d (cond (zg2 ops.toList ops.toList.length [] && Region.noSelect ops.toList.toArray) (zhf P H ops.toList (Q .nrm) ops.toList.length [] [] t h) False) (vcOps P H ops.toList (Q .nrm) ops.toList t h)
 | .seq x y, Q, t, h =>
   cond (hasHint H.js (zai y))
    (∀ k : InvT (shapes (zd3 H.js (zai y))),
     (∀ h' : zab, zqn _ k h' fun vs => ∀ g : Nat → Value, vc P H y Q (ziw (zbl x) t (zd3 H.js (zai y)) g vs) h') →
     vc P H x (thenQ (fun t' h' => app _ k (vals t' (zd3 H.js (zai y))) h') Q) t h)
    (vc P H x (thenQ (vc P H y Q) Q) t h)
 | .cond c x y, Q, t, h => bcase (ev t c) (vc P H x Q t h) (vc P H y Q t h)
 | .block id c, Q, t, h => vc P H c (blockQ id Q) t h
 | .loop c, Q, t, h =>
   ∃ (I : InvT (shapes (zd3 H.hs (zai c)))) (m : MeaT (shapes (zd3 H.hs (zai c)))),
     app _ I (vals t (zd3 H.hs (zai c))) h ∧
     ∀ (g : Nat → Value) (h' : zab), allI _ I h' fun vs =>
       vc P H c (thenQ (fun t2 h2 => app _ I (vals t2 (zd3 H.hs (zai c))) h2 ∧ appM _ m (vals t2 (zd3 H.hs (zai c))) h2 < appM _ m vs h') Q)
        (ziw (zbl c) t (zd3 H.hs (zai c)) g vs) h'
 | .exit id, Q, t, h => Q (.ext id) t h
 | .ret, Q, t, h => Q .ret t h
 | .scope c, Q, t, h => vc P H c Q t h
 | .label _, Q, t, h => Q .nrm t h
 | _, _, _, _ => False
def resS (P : Program) : List ResultVar → List Value → zab → (List Value → Prop) → Prop
 | [], _, _, K => K []
 | .tmp i :: l, t, h, K => resS P l t h fun vs => K (zd0 t i :: vs)
 | .cell i T :: l, t, h, K =>
   match zd0 t i with
   | .pointer a => loadK P T a h fun v => resS P l t h fun vs => K (v :: vs)
   | _ => False
def one : List Value → Value
 | [v] => v
 | vs => .tuple vs.toArray
def vcFun (P : Program) (H : Hn) (fn : Func) (args : List Value) (h : zab) (R : Value → zab → Prop) : Prop :=
 match fn.body with
 | none => False
 | some c => vc P H c (fun e t h => match e with | .ext _ => False | .nrm => resS P fn.results.toList t h fun vs => R (one vs) h | .ret => resS P fn.results.toList t h fun vs => R (one vs) h)
  (args ++ List.replicate (fn.ntmps - args.length) undef) h
section
variable {P : Program}
theorem XWp.sound {α : Type} {s : Sem α} : ∀ {K : α → Prop}, XWp P s K → ∃ a, K a ∧ ∀ w, s.run P w = .ok a w := by
 induction s with
 | pure a => intro K h; exact ⟨a, h, fun _ => rfl⟩
 | program k ih => intro K h; exact ih P h
 | mark m k ih => intro K h; exact ih h
 | _ => intro K h; exact h.elim
theorem PWp.sound {α : Type} {s : Sem α} {h : zab} : ∀ {K : α → Prop}, PWp P s h K → ∃ a, K a ∧ ∀ w : World, w.heap = h → s.run P w = .ok a w := by
 induction s with
 | pure a => intro K hs; exact ⟨a, hs, fun _ _ => rfl⟩
 | load m a k ih =>
   intro K hs
   obtain ⟨v, hv, hk⟩ := hs
   obtain ⟨x, hx, hr⟩ := ih v hk
   refine ⟨x, hx, fun w hw => ?_⟩
   have hv' : w.cell? a = some v := by subst hw; exact hv
   simp only [Sem.run, hv']
   exact hr w hw
 | shape r k ih =>
   intro K hs
   obtain ⟨x, hx, hr⟩ := ih _ hs
   exact ⟨x, hx, fun w hw => by subst hw; exact hr w rfl⟩
 | frozen a k ih =>
   intro K hs
   obtain ⟨x, hx, hr⟩ := ih _ hs
   exact ⟨x, hx, fun w hw => by subst hw; exact hr w rfl⟩
 | getObj r k ih =>
   intro K hs
   obtain ⟨o, ho, hc, hk⟩ := hs
   obtain ⟨x, hx, hr⟩ := ih o hk
   refine ⟨x, hx, fun w hw => ?_⟩
   rw [← hr w hw]
   subst hw
   cases o <;> simp [ziv] at hc <;> simp [Sem.run, ho]
 | program k ih => intro K hs; exact ih P hs
 | mark m k ih => intro K hs; exact ih hs
 | _ => intro K hs; exact hs.elim
theorem zbg {a : Option Addr} {K : Nat → Nat → Prop} (h : zbj a K) : ∃ b o, a = some ⟨b, o, none⟩ ∧ K b o := by
 unfold zbj at h
 split at h
 · exact ⟨_, _, rfl, h⟩
 · exact h.elim
theorem zaa {c : Bool} {A : Prop} (h : cond c A False) : c = true ∧ A := by
 cases c
 · exact h.elim
 · exact ⟨rfl, h⟩
theorem zcm {n : Nat} {A : Prop} (h : nz n A) : n ≠ 0 ∧ A := by
 unfold nz at h
 cases hb : Nat.beq n 0 with
 | true => rw [hb] at h; exact h.elim
 | false => rw [hb] at h; exact ⟨fun hn => by subst hn; simp at hb, h⟩
theorem zdh {k k' : IntKind} (h : zaq k = zaq k') : k = k' := by
 cases k <;> cases k' <;> first | rfl | (simp [zaq] at h)
theorem ze0 {k k' : IntKind} {A : Prop} (h : zmb k k' A) : k = k' ∧ A := by
 obtain ⟨h1, h2⟩ := zaa h
 exact ⟨zdh (Nat.eq_of_beq_eq_true h1), h2⟩
theorem zd8 (a b : Nat) : zhi a b = a - b := by
 unfold zhi
 cases h : Nat.beq b 0 with
 | true => have := Nat.eq_of_beq_eq_true h; subst this; rfl
 | false => rfl
theorem slA_eq (a : Option Addr) (c l s : Nat) (hs : s ≠ 0) : slA a c l s = if c = l then a else a.map (·.add (l * s)) := by
 unfold slA
 cases h : Nat.beq l 0 with
 | true =>
   have := Nat.eq_of_beq_eq_true h; subst this
   cases a <;> simp [Addr.add]
 | false =>
   have hl : l ≠ 0 := fun hn => by subst hn; simp at h
   simp only [cond_false]
   split
   · rfl
   · cases a with
     | none => rfl
     | some x =>
       simp only [Option.map_some, Addr.add]
       split
       · rename_i h2
         rcases Nat.mul_eq_zero.1 h2 with h3 | h3
         · exact absurd h3 hl
         · exact absurd h3 hs
       · rfl
theorem zcd {lo : Option Operand} {t : List Value} {l : Int} {K : Prop} (hl : bnd t lo 0 = some l) (h : leK lo.isNone 0 l K) : 0 ≤ l ∧ K := by
 cases lo with
 | none => simp [bnd] at hl; subst hl; exact ⟨Int.le_refl 0, h⟩
 | some x => exact h
theorem zdw (o n : Nat) : addO o n = o + n := by
 unfold addO
 cases h : Nat.beq n 0 with
 | true => have := Nat.eq_of_beq_eq_true h; subst this; rfl
 | false => rfl
theorem za3 (b o n : Nat) : (⟨b, o, none⟩ : Addr).add n = ⟨b, o + n, none⟩ := by
 unfold Addr.add
 split
 · rename_i h; subst h; rfl
 · rfl
def YP (P : Program) (t : List Value) (o : Oper) (v : Value) : Prop := ∀ w, (execOp (ev t) o).run P w = .ok (.value v) w
theorem nextV_spec {K : Value → Prop} {n : Next} (h : nextV K n) : ∃ v, n = .value v ∧ K v := by
 cases n <;> simp only [nextV] at h
 exact ⟨_, rfl, h⟩
theorem zo9 {t : List Value} {o : Oper} {K : Value → Prop} (h : XWp P (execOp (ev t) o) (nextV K)) : ∃ v, K v ∧ YP P t o v := by
 obtain ⟨n, hn, hr⟩ := XWp.sound h
 obtain ⟨v, rfl, hv⟩ := nextV_spec hn
 exact ⟨v, hv, hr⟩
theorem int_run {op : BinOp} {k : IntKind} {x y : Int} {K : Value → Prop} (T : TypeId) (hop : op ≠ .shl ∧ op ≠ .shr) (h : intK op k x y K) :
 ∃ v, K v ∧ ∀ w, (binOp op T (.int k x) (.int k y)).run P w = .ok v w := by
 cases op <;> simp only [intK] at h <;>
  first
   | exact absurd rfl hop.1
   | exact absurd rfl hop.2
   | (refine ⟨_, h, fun w => ?_⟩; simp [binOp, Op.intArith, Op.intCmp, Op.intBits]; done)
   | (refine ⟨_, h.2, fun w => ?_⟩; simp [binOp, Op.intDiv, h.1]; done)
   | (refine ⟨_, h, fun w => ?_⟩; rfl)
theorem str_run {op : BinOp} {x y : ByteArray} {K : Value → Prop} (T : TypeId) (h : strK op x y K) :
 ∃ v, K v ∧ ∀ w, (binOp op T (.string x) (.string y)).run P w = .ok v w := by
 cases op <;> simp only [strK] at h <;>
  first
   | exact h.elim
   | (refine ⟨_, h, fun w => ?_⟩; simp [binOp, Op.stringOp]; done)
   | (refine ⟨_, h.2, fun w => ?_⟩; have := h.1; have hm : IntKind.i64.max = 9223372036854775807 := (by rfl); simp only [binOp, Op.stringOp]; rw [if_neg (by rw [hm]; omega)]; rfl)
theorem zbw {op : BinOp} {T : TypeId} {x y : Operand} {a b : Value} (ha : ∀ cs, a ≠ .agg cs) (hn : a ≠ .nilIface) (w : World) : (eqGuard op T x y a b).run P w = .ok () w := by
 unfold eqGuard
 cases op <;> first | rfl | (cases a <;> first | rfl | exact absurd rfl (ha _) | exact absurd rfl hn)
theorem zir {op : BinOp} {T : TypeId} {x y : Value} {z : Bool} {K : Value → Prop} (hsh : ∀ w, (Op.equal T x y).run P w = .ok z w)
 (hx : (∃ a, x = .pointer a) ∨ (∃ a n c, x = .slice a n c) ∨ (∃ a, x = .map a) ∨ (∃ a, x = .bool a) ∨ (∃ a, x = .agg a))
 (hy : (∃ a, y = .pointer a) ∨ (∃ a n c, y = .slice a n c) ∨ (∃ a, y = .map a) ∨ (∃ a, y = .bool a) ∨ (∃ a, y = .agg a)) (h : ze7 op z K) :
 ∃ v, K v ∧ ∀ w, (binOp op T x y).run P w = .ok v w := by
 cases op <;> simp only [ze7] at h
 case eql =>
  refine ⟨_, h, fun w => ?_⟩
  rcases hx with ⟨a, rfl⟩ | ⟨a, n, c, rfl⟩ | ⟨a, rfl⟩ | ⟨a, rfl⟩ | ⟨a, rfl⟩ <;> rcases hy with ⟨b, rfl⟩ | ⟨b, n', c', rfl⟩ | ⟨b, rfl⟩ | ⟨b, rfl⟩ | ⟨b, rfl⟩ <;> simp [binOp, hsh]
 case neq =>
  refine ⟨_, h, fun w => ?_⟩
  rcases hx with ⟨a, rfl⟩ | ⟨a, n, c, rfl⟩ | ⟨a, rfl⟩ | ⟨a, rfl⟩ | ⟨a, rfl⟩ <;> rcases hy with ⟨b, rfl⟩ | ⟨b, n', c', rfl⟩ | ⟨b, rfl⟩ | ⟨b, rfl⟩ | ⟨b, rfl⟩ <;> simp [binOp, hsh]
theorem zfe {T : TypeId} {d : TypeDesc} (h : P.underlying T = some d) (hd : (match d with | .struct _ | .array _ _ => true | _ => false) = false) (w : World) :
 (isAgg T).run P w = .ok false w := by
 simp only [isAgg, Sem.run_bind, run_underlying h, Result.andThen_ok]
 cases d <;> simp at hd <;> rfl
theorem zew {T : TypeId} (hT : (match P.underlying T with | some .bool | some (.int _) | some .string => true | _ => false) = true) {xs : Array Value} {i : Nat} {v : Value}
 (hv : xs[i]? = some v) (w : World) : (part T xs i).run P w = .ok v w := by
 have h1 : (isAgg T).run P w = .ok false w := by
  cases hu : P.underlying T with
  | none => simp [hu] at hT
  | some d => exact zfe hu (by cases d <;> simp [hu] at hT <;> rfl) w
 simp only [part, Sem.run_bind, h1, Result.andThen_ok, Bool.false_eq_true, if_false, hv]
 rfl
theorem run_eqV {T : TypeId} {a b : Value} {c : Bool} (d : Nat) (hT : (match P.underlying T with | some .bool | some (.int _) | some .string => true | _ => false) = true)
 (hw : (match P.underlying T, a with | some .bool, .bool _ => true | some (.int _), .int _ _ => true | some .string, .string _ => true | _, _ => false) = true) (h : eqV a b = some c) (w : World) :
 (Op.equalIn (d + 1) T a b).run P w = .ok c w := by
 cases hu : P.underlying T with
 | none => simp [hu] at hT
 | some e =>
   cases a <;> cases b <;> simp only [eqV] at h <;> try cases h
   · cases e <;> simp [hu] at hw
     exact run_equalIn_bool' w d T _ _ hu
   · rename_i k x k' y
     cases e <;> simp [hu] at hw
     cases hk : Nat.beq (zaq k) (zaq k') with
     | false => rw [hk] at h; cases h
     | true =>
       rw [hk] at h
       obtain rfl := zdh (Nat.eq_of_beq_eq_true hk)
       cases h; exact run_equalIn_int w d T _ _ _ _ hu
   · cases e <;> simp [hu] at hw
     exact run_equalIn_string w d T _ _ hu
theorem zjb (d : Nat) (w : World) : ∀ (fs : List Field) (i : Nat) (xs ys : Array Value) (l m : List Value) (c : Bool), flat P fs i = true → fits P fs l = true →
 (∀ j v, l[j]? = some v → xs[i + j]? = some v) → (∀ j v, m[j]? = some v → ys[i + j]? = some v) → l.length = fs.length → m.length = fs.length →
 eqL l m = some c → (Op.eqFields (d + 1) xs ys fs).run P w = .ok c w
 | [], i, xs, ys, l, m, c, _, _, _, _, hl, hm, he => by
   cases l with
   | cons a l => simp at hl
   | nil => cases m with
     | cons a l => simp at hm
     | nil => simp only [eqL, Option.some.injEq] at he; subst he; simp [Op.eqFields]
 | f :: fs, i, xs, ys, l, m, c, hf, hk, h1, h2, hl, hm, he => by
   cases l with
   | nil => simp at hl
   | cons a l => cases m with
     | nil => simp at hm
     | cons b m =>
       simp only [flat, Bool.and_eq_true, beq_iff_eq, bne_iff_ne] at hf
       simp only [fits, Bool.and_eq_true] at hk
       obtain ⟨⟨⟨ho, hn⟩, hT⟩, hr⟩ := hf
       simp only [eqL] at he
       cases hab : eqV a b with
       | none => simp [hab] at he
       | some x => cases hlm : eqL l m with
         | none => simp [hab, hlm] at he
         | some y =>
           simp only [hab, hlm, Option.some.injEq] at he
           have hx := run_eqV (P := P) d hT hk.1 hab w
           have pa := zew (P := P) hT (h1 0 a rfl) w
           have pb := zew (P := P) hT (h2 0 b rfl) w
           simp only [Nat.add_zero] at pa pb
           have ih := zjb d w fs (i + 1) xs ys l m y hr hk.2 (fun j v hv => by have := h1 (j + 1) v (by simpa using hv); rw [← this]; congr 1; omega)
            (fun j v hv => by have := h2 (j + 1) v (by simpa using hv); rw [← this]; congr 1; omega) (by simpa using hl) (by simpa using hm) hlm
           simp only [Op.eqFields, if_pos hn, Sem.run_bind, ho, pa, pb, hx, Result.andThen_ok, Sem.run_ite]
           cases x
           · simp only [Bool.not_false, if_true, Sem.run_pure]; subst he; rfl
           · simp only [Bool.not_true, Bool.false_eq_true, if_false]; subst he; rw [ih]; rfl
theorem zng {T : TypeId} {fs : Array Field} {xs ys : Array Value} {c : Bool} (hu : P.underlying T = some (.struct fs)) (hp : P.stoodInHeld T = false) (hf : flat P fs.toList 0 = true)
 (hk : fits P fs.toList xs.toList = true) (hl : xs.size = fs.size) (hm : ys.size = fs.size) (he : eqL xs.toList ys.toList = some c) (w : World) : (Op.equal T (.agg xs) (.agg ys)).run P w = .ok c w := by
 have hfo : P.fieldsOf T = fs := by simp [Program.fieldsOf, hu]
 unfold Op.equal Op.maxDepth
 rw [show (10000 : Nat) = 9998 + 1 + 1 from rfl, run_equalIn_struct w (9998 + 1) T xs ys (by rw [hfo]; exact hu) hp, hfo]
 refine zjb 9998 w fs.toList 0 xs ys xs.toList ys.toList c hf hk ?_ ?_ (by simpa using hl) (by simpa using hm) he
 · intro j v hv; simpa using hv
 · intro j v hv; simpa using hv
theorem run_eqPtr (d : Nat) {T e : TypeId} (hu : P.underlying T = some (.pointer e)) (p : Option Addr) (w : World) : (Op.equalIn (d + 1) T (.pointer p) (.pointer none)).run P w = .ok p.isNone w := by
 simp only [Op.equalIn, Sem.run_bind, run_underlying hu, Result.andThen_ok]
 cases p <;> rfl
theorem run_eqSl (d : Nat) {T e : TypeId} (hu : P.underlying T = some (.slice e)) (p : Option Addr) (n c n' c' : Nat) (w : World) : (Op.equalIn (d + 1) T (.slice p n c) (.slice none n' c')).run P w = .ok p.isNone w := by
 simp only [Op.equalIn, Sem.run_bind, run_underlying hu, Result.andThen_ok]
 cases p <;> rfl
theorem run_eqMap (d : Nat) {T k e : TypeId} (hu : P.underlying T = some (.map k e)) (p : Option Nat) (w : World) : (Op.equalIn (d + 1) T (.map p) (.map none)).run P w = .ok p.isNone w := by
 simp only [Op.equalIn, Sem.run_bind, run_underlying hu, Result.andThen_ok]
 cases p <;> rfl
theorem zmv {op : BinOp} {T : TypeId} {x y : Operand} {a b : Value} {K : Value → Prop} (h : binK P op T a b K) :
 ∃ v, K v ∧ ∀ w, (do eqGuard op T x y a b; binOp op T a b : Sem Value).run P w = .ok v w := by
 unfold binK at h
 split at h
 · rename_i k p k' q
   have hg : ∀ w, (eqGuard op T x y (.int k p) (.int k' q)).run P w = .ok () w := zbw (by simp) (by simp)
   split at h
   · obtain ⟨h0, hK⟩ := h
     refine ⟨_, hK, fun w => ?_⟩
     simp only [Sem.run_bind, hg, Result.andThen_ok]
     simp [binOp, Op.shift, show ¬ q < 0 by omega]
   · obtain ⟨h0, hK⟩ := h
     refine ⟨_, hK, fun w => ?_⟩
     simp only [Sem.run_bind, hg, Result.andThen_ok]
     simp [binOp, Op.shift, show ¬ q < 0 by omega]
   · rename_i n1 n2
     obtain ⟨hk, h2⟩ := ze0 h
     · subst hk
       obtain ⟨v, hv, hr⟩ := int_run (P := P) T ⟨n1, n2⟩ h2
       exact ⟨v, hv, fun w => by simp only [Sem.run_bind, hg, Result.andThen_ok, hr]⟩
 · obtain ⟨v, hv, hr⟩ := str_run (P := P) T h
   exact ⟨v, hv, fun w => by simp only [Sem.run_bind, zbw (P := P) (a := .string _) (by simp) (by simp), Result.andThen_ok, hr]⟩
 · split at h
   · rename_i hu
     obtain ⟨v, hv, hr⟩ := zir (P := P) (T := T) (fun w => run_equalIn_bool' w 9999 T _ _ hu) (.inr (.inr (.inr (.inl ⟨_, rfl⟩)))) (.inr (.inr (.inr (.inl ⟨_, rfl⟩)))) h
     exact ⟨v, hv, fun w => by simp only [Sem.run_bind, zbw (P := P) (a := .bool _) (by simp) (by simp), Result.andThen_ok, hr]⟩
   · exact h.elim
 · rename_i p
   split at h
   · rename_i hu
     obtain ⟨v, hv, hr⟩ := zir (P := P) (T := T) (x := .pointer p) (y := .pointer none) (fun w => run_eqPtr 9999 hu p w) (.inl ⟨_, rfl⟩) (.inl ⟨_, rfl⟩) h
     exact ⟨v, hv, fun w => by simp only [Sem.run_bind, zbw (P := P) (a := .pointer _) (by simp) (by simp), Result.andThen_ok, hr]⟩
   · exact h.elim
 · rename_i p n c n' c'
   split at h
   · rename_i hu
     obtain ⟨v, hv, hr⟩ := zir (P := P) (T := T) (x := .slice p n c) (y := .slice none n' c') (fun w => run_eqSl 9999 hu p n c n' c' w) (.inr (.inl ⟨_, _, _, rfl⟩)) (.inr (.inl ⟨_, _, _, rfl⟩)) h
     exact ⟨v, hv, fun w => by simp only [Sem.run_bind, zbw (P := P) (a := .slice ..) (by simp) (by simp), Result.andThen_ok, hr]⟩
   · exact h.elim
 · rename_i p
   split at h
   · rename_i hu
     obtain ⟨v, hv, hr⟩ := zir (P := P) (T := T) (x := .map p) (y := .map none) (fun w => run_eqMap 9999 hu p w) (.inr (.inr (.inl ⟨_, rfl⟩))) (.inr (.inr (.inl ⟨_, rfl⟩))) h
     exact ⟨v, hv, fun w => by simp only [Sem.run_bind, zbw (P := P) (a := .map _) (by simp) (by simp), Result.andThen_ok, hr]⟩
   · exact h.elim
 · rename_i xs ys
   split at h
   · rename_i fs hu
     obtain ⟨hc, h⟩ := zaa h
     · obtain ⟨hc2, h⟩ := zaa h
       simp only [Bool.and_eq_true, Bool.not_eq_true'] at hc hc2
       obtain ⟨⟨hf, hp⟩, hq⟩ := hc
       obtain ⟨⟨hk, hl⟩, hm⟩ := hc2
       have hl : xs.size = fs.size := by simpa using Nat.eq_of_beq_eq_true hl
       have hm : ys.size = fs.size := by simpa using Nat.eq_of_beq_eq_true hm
       split at h
       · rename_i c he
         have hg : ∀ w, (eqGuard op T x y (.agg xs) (.agg ys)).run P w = .ok () w := by
          intro w
          unfold eqGuard
          cases op <;> first | rfl | (simp [hq]; done) | (simp [hq]; rfl)
         obtain ⟨v, hv, hr⟩ := zir (P := P) (T := T) (x := .agg xs) (y := .agg ys) (zng hu hp hf hk hl hm he) (.inr (.inr (.inr (.inr ⟨_, rfl⟩)))) (.inr (.inr (.inr (.inr ⟨_, rfl⟩)))) h
         exact ⟨v, hv, fun w => by simp only [Sem.run_bind, hg, Result.andThen_ok, hr]⟩
       · exact h.elim
   · exact h.elim
 · exact h.elim
theorem zan {T : TypeId} {i : TypeInfo} (h : P.info? T = some i) (w : World) : (sizeOf T).run P w = .ok i.size w := by
 simp [sizeOf, run_typeInfo w h]
theorem zbz {T : TypeId} (h : zah P T ≠ 0) : ∃ i, P.info? T = some i ∧ i.size = zah P T := by
 unfold zah at *
 cases hi : P.info? T with
 | none => simp [hi] at h
 | some i => exact ⟨i, rfl, by simp⟩
theorem zb3 {T e : TypeId} {a : Option Addr} {n c b o : Nat} {k : IntKind} {z : Int} (hu : P.underlying T = some (.slice e)) (h0 : 0 ≤ z) (h1 : z < n) (ha : a = some ⟨b, o, none⟩) (hs : zah P e ≠ 0) (w : World) :
 (Instr.indexAt T (.slice a n c) (.int k z)).run P w = .ok (.pointer (some ⟨b, o + z.toNat * zah P e, none⟩)) w := by
 subst ha
 obtain ⟨i, hi, his⟩ := zbz hs
 simp [Instr.indexAt, asIntOf, run_underlying hu, zan hi, his, h0, h1, za3]
theorem zbp {T e : TypeId} {a : Option Addr} {n b o : Nat} {k : IntKind} {z : Int} (hu : P.underlying T = some (.array n e)) (h0 : 0 ≤ z) (h1 : z < n) (ha : a = some ⟨b, o, none⟩) (hs : zah P e ≠ 0) (w : World) :
 (Instr.indexAt T (.pointer a) (.int k z)).run P w = .ok (.pointer (some ⟨b, o + z.toNat * zah P e, none⟩)) w := by
 subst ha
 obtain ⟨i, hi, his⟩ := zbz hs
 simp [Instr.indexAt, asIntOf, Instr.sureAddr, run_underlying hu, zan hi, his, h0, h1, za3]
theorem zca {v : Value} {k : IntKind} {i : Int} (hv : v = .int k i) {y : Nat} (h0 : 0 ≤ i) (h1 : i ≤ y) (code : BoundsCode) (w : World) : (Instr.sliceBound v y code).run P w = .ok i.toNat w := by
 subst hv
 simp [Instr.sliceBound, asIntOf, h0, h1]
theorem zf9 {t : List Value} {lo hi : Option Operand} {n c : Nat} {l r : Int} (sl : Bool) (hl : bnd t lo 0 = some l) (hr : bnd t hi n = some r) (h0 : 0 ≤ l) (h1 : l ≤ r) (h2 : r ≤ c) (w : World) :
 (Instr.sliceBounds sl n c (lo.map (ev t)) (hi.map (ev t)) none).run P w = .ok (l.toNat, r.toNat, c) w := by
 have H : ∀ (x : Option Operand) (d : Int) (i : Int), bnd t x d = some i → (x = none ∧ i = d) ∨ ∃ o k, x = some o ∧ ev t o = .int k i := by
  intro x d i h
  cases x with
  | none => simp [bnd] at h; exact .inl ⟨rfl, h.symm⟩
  | some o =>
    simp only [bnd] at h
    split at h
    · rename_i k z hz; simp at h; subst h; exact .inr ⟨o, k, rfl, hz⟩
    · cases h
 rcases H _ _ _ hl with ⟨rfl, rfl⟩ | ⟨ol, kl, rfl, hel⟩ <;> rcases H _ _ _ hr with ⟨rfl, rfl⟩ | ⟨oh, kh, rfl, heh⟩
 · simp [Instr.sliceBounds]
 · simp [Instr.sliceBounds, zca (P := P) heh (show 0 ≤ r by omega) h2]
 · simp [Instr.sliceBounds, zca (P := P) hel h0 (show l ≤ (n : Nat) by omega)]
 · simp [Instr.sliceBounds, zca (P := P) heh (show 0 ≤ r by omega) h2, zca (P := P) hel h0 (show l ≤ (r.toNat : Nat) by omega)]
theorem run_bounds3 {t : List Value} {lo hi : Option Operand} {mx : Operand} {n c : Nat} {l r m : Int} (sl : Bool) (hh : hi.isSome = true) (hl : bnd t lo 0 = some l) (hr : bnd t hi n = some r) (hm : bnd t (some mx) 0 = some m) (h0 : 0 ≤ l) (h1 : l ≤ r) (h2 : r ≤ m) (h3 : m ≤ c) (w : World) :
 (Instr.sliceBounds sl n c (lo.map (ev t)) (hi.map (ev t)) (some (ev t mx))).run P w = .ok (l.toNat, r.toNat, m.toNat) w := by
 have H : ∀ (x : Option Operand) (d : Int) (i : Int), bnd t x d = some i → (x = none ∧ i = d) ∨ ∃ o k, x = some o ∧ ev t o = .int k i := by
  intro x d i h
  cases x with
  | none => simp [bnd] at h; exact .inl ⟨rfl, h.symm⟩
  | some o =>
    simp only [bnd] at h
    split at h
    · rename_i k z hz; simp at h; subst h; exact .inr ⟨o, k, rfl, hz⟩
    · cases h
 obtain ⟨hN, -⟩ | ⟨om, km, hom, hem⟩ := H _ _ _ hm
 · cases hN
 cases hom
 rcases H _ _ _ hl with ⟨rfl, rfl⟩ | ⟨ol, kl, rfl, hel⟩ <;> rcases H _ _ _ hr with ⟨rfl, rfl⟩ | ⟨oh, kh, rfl, heh⟩
 · simp at hh
 · simp [Instr.sliceBounds, zca (P := P) hem (show 0 ≤ m by omega) h3, zca (P := P) heh (show 0 ≤ r by omega) (show r ≤ (m.toNat : Nat) by omega)]
 · simp at hh
 · simp [Instr.sliceBounds, zca (P := P) hem (show 0 ≤ m by omega) h3, zca (P := P) heh (show 0 ≤ r by omega) (show r ≤ (m.toNat : Nat) by omega), zca (P := P) hel h0 (show l ≤ (r.toNat : Nat) by omega)]
theorem zbu (l : List Value) (o : Nat) : zar l o [] = l := by cases l <;> cases o <;> rfl
theorem zev : ∀ (l : List Value) (o : Nat) (v : Value) (vs : List Value), o < l.length → zar l o (v :: vs) = zar (l.set o v) (o + 1) vs
 | [], _, _, _, h => by simp at h
 | x :: l, 0, v, [], _ => by simp [zar, zbu]
 | x :: l, 0, v, u :: vs, _ => by simp [zar]
 | x :: l, o + 1, v, [], h => by
   simp only [zar, List.set_cons_succ]
   rw [zev l o v [] (by simpa using h)]
   simp [zbu]
 | x :: l, o + 1, v, u :: vs, h => by
   simp only [zar, List.set_cons_succ]
   rw [zev l o v (u :: vs) (by simpa using h)]
theorem zas : ∀ (l : List Value) (o : Nat) (vs : List Value), (zar l o vs).length = l.length
 | l, o, [] => by rw [zbu]
 | [], o, v :: vs => by simp [zar]
 | x :: l, 0, v :: vs => by simp [zar, zas l 0 vs]
 | x :: l, o + 1, v :: vs => by simp [zar, zas l o (v :: vs)]
theorem zmf : ∀ (vs : List Value) (l : List Value) (o k : Nat), o + k + vs.length ≤ l.length →
 (vs.zipIdx k).foldl (fun (cs : Array Value) (x : Value × Nat) => cs.setIfInBounds (o + x.2) x.1) l.toArray = (zar l (o + k) vs).toArray
 | [], l, o, k, _ => by simp [zbu]
 | v :: vs, l, o, k, h => by
   simp only [List.length_cons] at h
   rw [List.zipIdx_cons, List.foldl_cons, List.setIfInBounds_toArray, zmf vs _ o (k + 1) (by simp; omega), zev _ _ _ _ (by omega)]
   rfl
theorem zh3 {place : Nat → Option (Nat × Nat)} : ∀ {ps : List (Nat × Value)} {l l' : List Value}, zmi place l ps = some l' → Instr.fill place l.toArray ps = some l'.toArray
 | [], l, l', h => by simp only [zmi, Option.some.injEq] at h; subst h; rfl
 | (i, v) :: ps, l, l', h => by
   simp only [zmi] at h
   cases hp : place i with
   | none => rw [hp] at h; cases h
   | some os =>
     obtain ⟨o, s⟩ := os
     rw [hp] at h
     simp only at h
     cases hc : (Nat.beq v.cells.toList.length s && Nat.ble (o + v.cells.toList.length) l.length) with
     | false => rw [hc] at h; cases h
     | true =>
       rw [hc] at h
       rw [Bool.and_eq_true] at hc
       have h1 : v.cells.size = s := by simpa using Nat.eq_of_beq_eq_true hc.1
       have h2 : o + v.cells.toList.length ≤ l.length := Nat.le_of_ble_eq_true hc.2
       have h3 : o + v.cells.size ≤ l.length := by simpa using h2
       unfold Instr.fill
       rw [hp]
       simp only [h1, ne_eq, not_true_eq_false, decide_false, Bool.false_or]
       rw [if_neg (by simp; omega)]
       have key := zmf v.cells.toList l o 0 (by simpa using h2)
       rw [← Array.foldl_toList, Array.toList_zipIdx]
       rw [key]
       exact zh3 h
theorem run_places (fs : List Field) (h : zi4 P fs = true) (w : World) :
 (fs.mapM (m := Sem) fun f => do pure (f.offset, ← sizeOf f.type)).run P w = .ok (fs.map fun f => (f.offset, zah P f.type)) w := by
 induction fs with
 | nil => rfl
 | cons f fs ih =>
   simp only [zi4, Bool.and_eq_true, Bool.not_eq_true'] at h
   obtain ⟨i, hi, hs⟩ := zbz (P := P) (T := f.type) (fun h0 => by rw [h0] at h; simp at h)
   simp only [List.mapM_cons, Sem.run_bind, zan hi, Result.andThen_ok, Sem.run_pure, ih h.2, hs]
   rfl
theorem zik {t : List Value} {o : Oper} {K : Value → Prop} (h : zfj P t o K) : ∃ v, K v ∧ YP P t o v := by
 obtain ⟨dst, op, ty, pos, after, guard⟩ := o
 cases op <;> simp only [zfj] at h
 case move x => exact ⟨_, h, fun w => rfl⟩
 case assign x => exact ⟨_, h, fun w => rfl⟩
 case pick c a b =>
  unfold pickK at h
  split at h
  · rename_i c' x y hc ha hb
    refine ⟨_, h, fun w => ?_⟩
    simp only [execOp, hc, ha, hb]
    cases c' <;> rfl
  · rename_i c' hno hc
    cases c'
    · exact ⟨_, h, fun w => by simp [execOp, hno, asBool]⟩
    · exact ⟨_, h, fun w => by simp [execOp, hno, asBool]⟩
  · exact h.elim
 case nilCheck x =>
  split at h
  · rename_i a ha
    obtain ⟨b, o, rfl, hK⟩ := zbg h
    exact ⟨_, hK, fun w => by simp [execOp, ha]⟩
  · rename_i f a b ha
    exact ⟨_, h, fun w => by simp [execOp, ha]⟩
  · exact h.elim
 case binOp op' T x y yt =>
  obtain ⟨v, hv, hr⟩ := zmv (x := x) (y := y) h
  exact ⟨v, hv, fun w => by
   have := hr w
   simp only [execOp]
   rw [Sem.run_bind, this]
   rfl⟩
 case fieldAddr s x f =>
  split at h
  · rename_i fs a hu ha
    split at h
    · rename_i fd hfd
      obtain ⟨hz, h⟩ := zcm h
      · obtain ⟨b, o, rfl, hK⟩ := zbg h
        obtain ⟨i, hi, his⟩ := zbz hz
        refine ⟨_, hK, fun w => ?_⟩
        simp [execOp, Instr.fieldAt, ha, run_underlying hu, hfd, Instr.sureAddr, fieldPlace, zan hi, his, hz, za3, zdw]
    · exact h.elim
  · exact h.elim
 case indexAddr T x i =>
  split at h
  · rename_i e a n c k z hu ha hz
    obtain ⟨b, o, ho, h0, h1, hK⟩ := zbg h
    obtain ⟨hs, hK⟩ := zcm hK
    exact ⟨_, hK, fun w => by simp [execOp, ha, hz, zb3 hu h0 h1 ho hs]⟩
  · rename_i n e a k z hu ha hz
    obtain ⟨b, o, ho, h0, h1, hK⟩ := zbg h
    obtain ⟨hs, hK⟩ := zcm hK
    exact ⟨_, hK, fun w => by simp [execOp, ha, hz, zbp hu h0 h1 ho hs]⟩
  · exact h.elim
 case index T x i =>
  split at h
  · rename_i s k z hu ha hz
    obtain ⟨h0, h1, hK⟩ := h
    refine ⟨_, hK, fun w => ?_⟩
    have hlt : z.toNat < s.size := by omega
    have hg : s[z.toNat]? = some (s.data.getD z.toNat 0) := by
     rw [getElem?_pos s z.toNat hlt]
     have : s.data.size = s.size := rfl
     simp [Array.getD, this, hlt]
     rfl
    simp [execOp, Instr.index, ha, hz, asIntOf, run_underlying hu, h0, hg]
  · exact zo9 h
 case build T ps =>
  split at h
  · rename_i fs i hu hi
    split at h
    · rename_i cs hz
      obtain ⟨hl, h⟩ := zaa h
      split at h
      · rename_i l hf
        refine ⟨_, h, fun w => ?_⟩
        have hzero : (zeroValue T).run P w = .ok (.agg cs) w := by simp [zeroValue, run_typeInfo w hi, hz]
        have hpl : (fs.mapM (m := Sem) fun f => do pure (f.offset, ← sizeOf f.type)).run P w = .ok ((fs.toList.map fun f => (f.offset, zah P f.type)).toArray) w := by
         rw [Array.mapM_eq_mapM_toList, Sem.run_map, run_places _ hl w]; rfl
        have hfn : (fun i => ((fs.toList.map fun f => (f.offset, zah P f.type)).toArray)[i]?) = zil P fs.toList := by
         funext j
         simp only [zil, List.getElem?_toArray, List.getElem?_map]
         cases fs.toList[j]? <;> rfl
        have hpa : (ps.map fun (x : Nat × Operand) => (x.1, ev t x.2)).toList = ps.toList.map fun p => (p.1, ev t p.2) := by simp
        have hfill := zh3 hf
        simp only [Array.toArray_toList] at hfill
        simp only [execOp, Instr.build, Sem.run_bind, hzero, Result.andThen_ok, run_underlying hu, hpl]
        show Result.andThen (Sem.run P (match Instr.fill (fun i => ((fs.toList.map fun f => (f.offset, zah P f.type)).toArray)[i]?) (Value.agg cs).cells (ps.map fun (x : Nat × Operand) => (x.1, ev t x.2)).toList with
         | some cells => pure (Value.agg cells) | _ => stuck "build: no such field, or a part of the wrong size") w) _ = _
        rw [hfn, hpa]
        show Result.andThen (Sem.run P (match Instr.fill (zil P fs.toList) cs (ps.toList.map fun p => (p.1, ev t p.2)) with
         | some cells => pure (Value.agg cells) | _ => stuck "build: no such field, or a part of the wrong size") w) _ = _
        rw [hfill]
        rfl
      · exact h.elim
    · exact h.elim
  · exact zo9 h
 case slice T x lo hi mx =>
  split at h
  · rename_i e a n c hu ha
    split at h
    · rename_i l r hl hr
      obtain ⟨h0, h1, h2, hK⟩ := zcd hl h
      obtain ⟨hs, hK⟩ := zcm hK
      rw [slA_eq _ _ _ _ hs, zd8, zd8] at hK
      obtain ⟨i, hi', his⟩ := zbz hs
      refine ⟨_, hK, fun w => ?_⟩
      have hb := zf9 (P := P) (t := t) (n := n) (c := c) true hl hr h0 h1 h2
      simp [execOp, Instr.sliceAt, Instr.slice, ha, run_underlying hu, hb, zan hi', his]
    · exact h.elim
  · rename_i s hu ha
    split at h
    · rename_i l r hl hr
      obtain ⟨h0, h1, h2, hK⟩ := zcd hl h
      refine ⟨_, hK, fun w => ?_⟩
      have hb := zf9 (P := P) (t := t) (n := s.size) (c := s.size) false hl hr h0 h1 h2
      simp [execOp, Instr.sliceAt, Instr.slice, ha, run_underlying hu, hb]
    · exact h.elim
  · rename_i e a n c mx hu ha
    split at h
    · rename_i l r m hl hr hm
      obtain ⟨hh, h⟩ := zaa h
      obtain ⟨h0, h1, h2, h3, hK⟩ := zcd hl h
      obtain ⟨hs, hK⟩ := zcm hK
      rw [slA_eq _ _ _ _ hs, zd8, zd8] at hK
      obtain ⟨i, hi', his⟩ := zbz hs
      refine ⟨_, hK, fun w => ?_⟩
      have hb := run_bounds3 (P := P) (t := t) (n := n) (c := c) true hh hl hr hm h0 h1 h2 h3
      simp [execOp, Instr.sliceAt, Instr.slice, ha, run_underlying hu, hb, zan hi', his]
    · exact h.elim
  · rename_i A a hu ha
    split at h
    · rename_i n e hA
      split at h
      · rename_i l r hl hr
        obtain ⟨b, o, rfl, h⟩ := zbg h
        obtain ⟨h0, h1, h2, hK⟩ := zcd hl h
        obtain ⟨hs, hK⟩ := zcm hK
        rw [slA_eq _ _ _ _ hs, zd8, zd8] at hK
        obtain ⟨i, hi', his⟩ := zbz hs
        refine ⟨_, hK, fun w => ?_⟩
        have hb := zf9 (P := P) (t := t) (n := n) (c := n) false hl hr h0 h1 h2
        simp [execOp, Instr.sliceAt, Instr.slice, ha, run_underlying hu, run_underlying hA, hb, zan hi', his, asAddr]
        by_cases hc : n = l.toNat <;> simp [hc]
      · exact h.elim
    · exact h.elim
  · rename_i n e a hu ha
    split at h
    · rename_i l r hl hr
      obtain ⟨b, o, rfl, h⟩ := zbg h
      obtain ⟨h0, h1, h2, hK⟩ := zcd hl h
      obtain ⟨hs, hK⟩ := zcm hK
      rw [slA_eq _ _ _ _ hs, zd8, zd8] at hK
      obtain ⟨i, hi', his⟩ := zbz hs
      refine ⟨_, hK, fun w => ?_⟩
      have hb := zf9 (P := P) (t := t) (n := n) (c := n) false hl hr h0 h1 h2
      simp [execOp, Instr.sliceAt, Instr.sureAddr, ha, run_underlying hu, hb, zan hi', his]
      by_cases hc : n = l.toNat <;> simp [hc]
    · exact h.elim
  · exact h.elim
 all_goals exact zo9 h
end
section
variable {P : Program}
theorem Sh.Ex_spec {y : Sh} {f : Value → Prop} (h : y.Ex f) : ∃ v, f v := by
 cases y <;> simp only [Sh.Ex] at h
 case sl => obtain ⟨a, n, c, h⟩ := h; exact ⟨_, h⟩
 all_goals (obtain ⟨x, h⟩ := h; exact ⟨_, h⟩)
theorem exL_spec : ∀ {l : List Value} {f : List Value → Prop}, exL l f → ∃ vs, f vs
 | [], _, h => ⟨[], h⟩
 | _ :: _, _, h => let ⟨_, h1⟩ := Sh.Ex_spec h; let ⟨_, h2⟩ := exL_spec h1; ⟨_, h2⟩
theorem zkb {z : Value} {f : Value → Prop} (h : exE z f) : ∃ v, f v := by
 unfold exE at h
 split at h
 · obtain ⟨vs, h⟩ := exL_spec h; exact ⟨_, h⟩
 · exact Sh.Ex_spec h
theorem exT_spec : ∀ {l : List Value} {f : List Value → Prop}, exT l f → ∃ vs, f vs
 | [], _, h => ⟨[], h⟩
 | _ :: _, _, h => let ⟨_, h1⟩ := zkb h; let ⟨_, h2⟩ := exT_spec h1; ⟨_, h2⟩
theorem exZ_spec {z : Value} {f : Value → Prop} (h : exZ z f) : ∃ v, f v := by
 unfold exZ at h
 split at h
 · obtain ⟨vs, h⟩ := exT_spec h; exact ⟨_, h⟩
 · exact zkb h
theorem zf7 {T : TypeId} {K : Value → zab → Prop} {v : Value} {h : zab} (hh : typed P T K v h) : K v h := by
 obtain ⟨v', rfl, hK⟩ := exZ_spec hh
 exact hK
def YR (P : Program) (t : List Value) (o : Oper) (h : zab) (v : Value) : Prop := ∀ w : World, w.heap = h → (execOp (ev t) o).run P w = .ok (.value v) w
theorem zen {T : TypeId} {z : Value} (h : zdn P T = some (.one z)) : (∀ w, (isAgg T).run P w = .ok false w) ∧ single z = true ∧ ∃ i, P.info? T = some i ∧ i.size = 1 := by
 unfold zdn at h
 split at h
 · split at h <;> (try split at h) <;> simp at h
 · split at h <;> (try split at h) <;> simp at h
 · rename_i d i n1 n2 hu hi
   split at h
   · rename_i z' hz
     split at h
     · rename_i hs
       simp at h; subst h
       exact ⟨fun w => zfe hu (by cases d <;> first | rfl | exact absurd rfl (n1 _) | exact absurd rfl (n2 _ _)) w, hs.1, i, hi, hs.2⟩
     · cases h
   · cases h
 · cases h
theorem zdg {T : TypeId} {cs : List Value} (h : zdn P T = some (.many cs)) : (∀ w, (isAgg T).run P w = .ok true w) ∧ ∃ i, P.info? T = some i ∧ i.size = cs.length := by
 unfold zdn at h
 split at h
 · rename_i fs i hu hi
   split at h
   · rename_i cs' hz
     split at h
     · rename_i hs
       simp at h; subst h
       exact ⟨fun w => by simp [isAgg, run_underlying hu], i, hi, by simpa using hs.symm⟩
     · cases h
   · cases h
 · rename_i n e i hu hi
   split at h
   · rename_i cs' hz
     split at h
     · rename_i hs
       simp at h; subst h
       exact ⟨fun w => by simp [isAgg, run_underlying hu], i, hi, by simpa using hs.symm⟩
     · cases h
   · cases h
 · split at h <;> (try split at h) <;> simp at h
 · cases h
theorem zoc {h : zab} {b o : Nat} : ∀ {l : List Value} {i : Nat} {K : List Value → Prop}, loadS h b o l i K →
 ∃ vs, vs.length = l.length ∧ (∀ j v, vs[j]? = some v → hcell h ⟨b, o + (i + j), none⟩ = some v) ∧ K vs
 | [], i, K, hh => ⟨[], rfl, fun j v hv => by simp at hv, hh⟩
 | z :: l, i, K, hh => by
   obtain ⟨v, hv, h2⟩ := Sh.Ex_spec hh
   obtain ⟨vs, hl, hc, hK⟩ := zoc h2
   refine ⟨v :: vs, by simp [hl], fun j u hu => ?_, hK⟩
   cases j with
   | zero => simp at hu; subst hu; rw [zdw] at hv; simpa using hv
   | succ j => have := hc j u (by simpa using hu); rw [show i + (j + 1) = i + 1 + j by omega]; exact this
theorem zod {T : TypeId} {a : Option Addr} {h : zab} {K : Value → Prop} (hh : loadK P T a h K) :
 ∃ b o v, a = some ⟨b, o, none⟩ ∧ K v ∧ ∀ w : World, w.heap = h → (loadVar T ⟨b, o, none⟩).run P w = .ok v w := by
 unfold loadK at hh
 split at hh
 · rename_i z hl
   obtain ⟨b, o, rfl, h1⟩ := zbg hh
   obtain ⟨v, hv, hK⟩ := Sh.Ex_spec h1
   obtain ⟨ha, -, -⟩ := zen hl
   refine ⟨b, o, v, rfl, hK, fun w hw => ?_⟩
   have hv' : w.cell? ⟨b, o, none⟩ = some v := by subst hw; exact hv
   simp [loadVar, ha, Go.load, Sem.run, hv']
 · rename_i cs hl
   obtain ⟨b, o, rfl, h1⟩ := zbg hh
   obtain ⟨vs, hlen, hc, hK⟩ := zoc h1
   obtain ⟨ha, i, hi, hs⟩ := zdg hl
   refine ⟨b, o, _, rfl, hK, fun w hw => ?_⟩
   have hr : (loadCells ⟨b, o, none⟩ vs.length).run P w = .ok vs.toArray w :=
    run_loadCells_list (P := P) w ⟨b, o, none⟩ vs (fun j v hv => by subst hw; rw [za3]; have := hc j v hv; rw [Nat.zero_add] at this; exact this)
   simp [loadVar, ha, zan hi, hs, ← hlen, hr]
 · exact hh.elim
theorem zih {t : List Value} {o : Oper} {h : zab} {K : Value → Prop} (hh : readK P t o h K) : ∃ v, K v ∧ YR P t o h v := by
 obtain ⟨dst, op, ty, pos, after, guard⟩ := o
 cases op <;> simp only [readK] at hh
 case load T a =>
  split at hh
  · rename_i ad ha
    obtain ⟨b, o, v, rfl, hK, hr⟩ := zod hh
    exact ⟨v, hK, fun w hw => by simp [execOp, Instr.loadAt, Instr.sureAddr, ha, hr w hw]⟩
  · exact hh.elim
 case lookup T m k ok =>
  obtain ⟨v, hK, hr⟩ := PWp.sound hh
  obtain ⟨v', rfl, hK'⟩ := exZ_spec hK
  exact ⟨v, hK', fun w hw => by simp [execOp, hr w hw]⟩
 case call c =>
  obtain ⟨callee, args, argTypes⟩ := c
  simp only at hh
  split at hh
  · split at hh
    · rename_i x T hx hT
      have hx' : (args.map (ev t))[0]? = some (ev t x) := by rw [Array.getElem?_map, hx]; rfl
      split at hh
      · rename_i s hu hs
        exact ⟨_, hh, fun w hw => by simp [execOp, resolve, invoke, Go.builtin, Builtin.len_, goInt, hT, hx', hs, run_underlying hu]⟩
      · rename_i e a n c hu hs
        exact ⟨_, hh, fun w hw => by simp [execOp, resolve, invoke, Go.builtin, Builtin.len_, goInt, hT, hx', hs, run_underlying hu]⟩
      · rename_i k e r hu hs
        unfold zcp at hh
        split at hh
        · exact ⟨_, hh, fun w hw => by simp [execOp, resolve, invoke, Go.builtin, Builtin.len_, goInt, hT, hx', hs, run_underlying hu]⟩
        · rename_i b
          obtain ⟨es, cl, hm, hK⟩ := hh
          refine ⟨_, hK, fun w hw => ?_⟩
          subst hw
          simp [execOp, resolve, invoke, Go.builtin, Builtin.len_, goInt, hT, hx', hs, run_underlying hu, Go.getObj, Sem.run, hm]
      · exact hh.elim
    · exact hh.elim
  · exact hh.elim
 all_goals exact hh.elim
theorem gen_sound {t : List Value} {o : Oper} {h : zab} {K : Value → zab → Prop} (hh : SWp P (execOp (ev t) o) h (zlw P K)) {a : Act} (ha : a.eval = ev t) {w : World} (hw : w.heap = h)
 {next : Act → World → Prop} {Q : Exit → Act → World → Prop} (hn : ∀ v w', K v w'.heap → Same w w' → next (a.put o.dst v) w') : o.wp P a w next Q := by
 obtain ⟨n, w', hr, hK, hS⟩ := SWp.sound hh w hw
 unfold Oper.wp
 rw [ha, hr]
 cases n <;> simp only [zlw] at hK
 case value v => exact hn _ _ hK hS
 case skip => exact hn _ _ hK hS
 case enter f args =>
  have h1 := hK.2 w' rfl
  simp only [Array.toArray_toList] at h1
  exact h1.mono fun e w'' ⟨v, he, hv, hS'⟩ => by subst he; exact hn _ _ hv (hS.trans hS')
theorem zbo {b o : Nat} : ∀ {vs : List Value} {i : Nat} {h : zab} {K : zab → Prop}, zc2 b o vs i h K → SWp P (storeCells ⟨b, o, none⟩ vs i) h fun _ h' => K h'
 | [], _, _, _, hh => hh
 | v :: vs, i, h, K, hh => by
   obtain ⟨h1, h2, h3, h4⟩ := hh
   unfold storeCells
   refine SWp.bind ?_
   rw [zdw] at h2 h3 h4
   exact ⟨h1, by rw [za3]; exact h2, by rw [za3]; exact h3, by rw [za3]; exact zbo h4⟩
theorem zqp {α : Type} {s : Sem α} {h : zab} {K : α → zab → Prop} {a : α} (_hr : ∀ w, s.run P w = .ok a w) (hx : XWp P s (fun b => b = a)) (hK : K a h) : SWp P s h K := by
 clear _hr
 induction s with
 | pure b => cases hx; exact hK
 | program k ih => exact ih P hx
 | mark m k ih => exact ih hx
 | _ => exact hx.elim
theorem zi7 {T : TypeId} {i : TypeInfo} (h : P.info? T = some i) : XWp P (sizeOf T) (fun b => b = i.size) := by
 show XWp P (Sem.bind (typeInfo T) _) _
 unfold typeInfo
 show XWp P (Sem.bind (Sem.bind program _) _) _
 simp only [program, Sem.bind, XWp, h]
 rfl
theorem storeVar_one {T : TypeId} {b o : Nat} {v : Value} {h : zab} {K : zab → Prop} {z : Value} (hl : zdn P T = some (.one z)) (hh : stK h ⟨b, o, none⟩ v K) : SWp P (storeVar T ⟨b, o, none⟩ v) h fun _ h' => K h' := by
 obtain ⟨-, -, i, hi, hs⟩ := zen hl
 unfold storeVar
 refine SWp.bind (zqp (a := i.size) (zan hi) (zi7 hi) ?_)
 obtain ⟨h1, h2, h3, h4⟩ := hh
 have hc : v.cells = #[v] := by cases v <;> simp [single] at h1 <;> rfl
 rw [hs, hc, if_neg (by simp)]
 refine SWp.bind ?_
 exact zbo (vs := [v]) (i := 0) ⟨h1, by rw [zdw]; exact h2, by rw [zdw]; exact h3, by rw [zdw]; exact h4⟩
theorem zo0 {T : TypeId} {b o : Nat} {vs : Array Value} {h : zab} {K : zab → Prop} {cs : List Value} (hl : zdn P T = some (.many cs)) (hn : cs.length = vs.size) (hh : zc2 b o vs.toList 0 h K) :
 SWp P (storeVar T ⟨b, o, none⟩ (.agg vs)) h fun _ h' => K h' := by
 obtain ⟨-, i, hi, hs⟩ := zdg hl
 unfold storeVar
 refine SWp.bind (zqp (a := i.size) (zan hi) (zi7 hi) ?_)
 rw [hs, if_neg (by simp [Value.cells, hn])]
 exact zbo hh
theorem zqb {g : FuncId} (hc : zdc P g) {args : Array Value} {h : zab} {K : Next → zab → Prop} (hK : K (.enter g args) h) : SWp P (callFunc g args) h K := by
 obtain ⟨fn, hf, hn, hb⟩ := hc
 unfold callFunc
 show SWp P (Sem.bind program _) h K
 simp only [program, Sem.bind, SWp, hf]
 rw [if_neg (by rw [hn]; simp), if_neg (by rw [hb]; simp)]
 exact hK
theorem zcf {H : Hn} {t : List Value} {o : Oper} {h : zab} {K : Value → zab → Prop} (hh : effK P H t o h K) : SWp P (execOp (ev t) o) h (zlw P K) := by
 obtain ⟨dst, op, ty, pos, after, guard⟩ := o
 cases op <;> simp only [effK] at hh
 case store T a x =>
  split at hh
  · rename_i ad ha
    simp only [execOp]
    refine SWp.bind ?_
    simp only [Instr.storeAt]
    refine SWp.bind ?_
    rw [ha]
    unfold zhj at hh
    split at hh
    · rename_i z x' hl
      obtain ⟨b, o, rfl, h1⟩ := zbg hh
      exact storeVar_one hl h1
    · rename_i cs vs hl hx
      obtain ⟨b, o, rfl, h1⟩ := zbg hh
      obtain ⟨h1, h2⟩ := zaa h1
      rw [hx]
      exact zo0 hl (by simpa using Nat.eq_of_beq_eq_true h1) h2
    · exact hh.elim
  · exact hh.elim
 case box T x => exact hh
 case alloc T =>
  split at hh
  · rename_i z hz
    cases hi : P.info? T with
    | none => simp [hi] at hz
    | some i =>
      simp [hi] at hz
      simp only [execOp, Instr.alloc]
      refine SWp.bind (SWp.bind ?_)
      unfold zeroValue typeInfo
      refine SWp.bind (SWp.bind ?_)
      show SWp P (match P.info? T with | some i => pure i | none => stuck "no such type") h _
      rw [hi]
      show SWp P (match i.zero with | some v => pure v | none => unsupported (.resourceLimit "a value of more than 2^22 cells")) h _
      rw [hz]
      exact hh
  · exact hh.elim
 case buildSlice T n ps =>
  split at hh
  · rename_i e hu
    split at hh
    · rename_i i hi
      split at hh
      · rename_i z hz
        obtain ⟨hc, hh⟩ := zaa hh
        rw [Bool.and_eq_true, Bool.not_eq_true'] at hc
        split at hh
        · rename_i cells hf
          have h1 : ¬ n * i.size > 2 ^ 24 := by have := Nat.le_of_ble_eq_true hc.1; omega
          have h2 : n * i.size ≠ 0 := fun h0 => by rw [h0] at hc; simp at hc
          simp only [execOp, Instr.buildSlice]
          refine SWp.bind (SWp.bind ?_)
          unfold underlying
          refine SWp.bind ?_
          show SWp P (match P.underlying T with | some d => pure d | none => stuck "no such type") h _
          rw [hu]
          show SWp P (sizeOf e >>= _) h _
          refine SWp.bind (zqp (a := i.size) (zan hi) (zi7 hi) ?_)
          rw [if_neg h1]
          rw [if_neg h2]
          refine SWp.bind (SWp.bind ?_)
          unfold typeInfo
          refine SWp.bind ?_
          show SWp P (match P.info? e with | some i => pure i | none => stuck "no such type") h _
          rw [hi]
          show SWp P (match i.zero with | some v => pure v | none => unsupported (.resourceLimit "a value of more than 2^22 cells")) h _
          rw [hz]
          refine SWp.bind ?_
          have hpa : (ps.map fun (x : Nat × Operand) => (x.1, ev t x.2)).toList = ps.toList.map fun p => (p.1, ev t p.2) := by simp
          have hra : (Array.range (n * i.size)).map (fun j => z.cells[j % z.cells.size]!) = ((List.range (n * i.size)).map fun j => z.cells[j % z.cells.size]!).toArray := by
           apply Array.ext'; simp
          have hfill := zh3 hf
          show SWp P (match Instr.fill (fun j => some (j * i.size, i.size)) ((Array.range (n * i.size)).map (z.cells[· % z.cells.size]!)) (ps.map fun (j, x) => (j, ev t x)).toList with
           | some cells => (do let a ← newRow e cells; pure (Value.slice (some a) n n) : Sem Value) | _ => stuck "buildSlice: a part of the wrong size") h _
          rw [hra]
          show SWp P (match Instr.fill (fun j => some (j * i.size, i.size)) ((List.range (n * i.size)).map fun j => z.cells[j % z.cells.size]!).toArray (ps.map fun (x : Nat × Operand) => (x.1, ev t x.2)).toList with
           | some cells => (do let a ← newRow e cells; pure (Value.slice (some a) n n) : Sem Value) | _ => stuck "buildSlice: a part of the wrong size") h _
          rw [hpa, hfill]
          exact hh
        · exact hh.elim
      · exact hh.elim
    · exact hh.elim
  · exact hh.elim
 case makeMap T r =>
  cases r with
  | none => exact hh
  | some x => exact hh
 case mapUpdate T m k v =>
  simp only [execOp]
  exact SWp.bind hh
 case makeSlice T l c =>
  simp only [execOp]
  exact SWp.bind (SWp.mono (fun v h' hv => zf7 hv) hh)
 case range T x =>
  simp only [execOp]
  exact SWp.bind hh
 case mapEntry T m k =>
  simp only [execOp]
  exact SWp.bind hh
 case entryStore T m s v =>
  simp only [execOp]
  exact SWp.bind hh
 case next it str =>
  cases str
  · simp only [execOp]
    refine SWp.bind (SWp.mono (fun v h' hv => ?_) hh)
    rcases hv with ⟨rfl, hK⟩ | ⟨k, x, rfl, hK⟩
    · exact hK
    · exact hK
  · simp only [execOp]
    refine SWp.bind (SWp.mono (fun v h' hv => ?_) hh)
    rcases hv with ⟨rfl, hK⟩ | ⟨k, x, rfl, hK⟩
    · exact hK
    · exact hK
 case entry it =>
  simp only [execOp]
  unfold entryK at hh
  split at hh
  · refine SWp.bind (SWp.mono (fun v h' hv => ?_) hh)
    obtain ⟨a, ha⟩ := zkb hv
    obtain ⟨b, rfl, hK⟩ := zkb ha
    exact hK
  · exact hh.elim
 case call c =>
  obtain ⟨callee, args, argTypes⟩ := c
  have hargs : args.map (ev t) = (args.toList.map (ev t)).toArray := by apply Array.ext'; rw [Array.toList_map]
  simp only at hh
  split at hh
  · rename_i f
    unfold zie at hh
    split at hh
    · rename_i g first captured hf
      simp only [execOp, resolve, hf, Deferred.ofValue]
      refine zqb hh.1 ?_
      refine Run.mono (R := typed P ty K) ?_ (fun v h' hv => zf7 hv)
      have he : (first ++ args.map (ev t) ++ captured).toList = first.toList ++ args.toList.map (ev t) ++ captured.toList := by simp
      rw [he]; exact hh
    · exact hh.elim
  · split at hh
    · rename_i s x hl
      have hm : args.map (ev t) = #[ev t s, ev t x] := by rw [hargs, hl]; rfl
      simp only [execOp, resolve, hm]
      exact SWp.bind (SWp.bind (SWp.mono (fun v h' hv => zf7 hv) hh))
    · exact hh.elim
  · split at hh
    · rename_i s x hl
      have hm : args.map (ev t) = #[ev t s, ev t x] := by rw [hargs, hl]; rfl
      simp only [execOp, resolve, hm]
      exact SWp.bind (SWp.bind (SWp.mono (fun v h' hv => zf7 hv) hh))
    · exact hh.elim
  · split at hh
    · rename_i s x hl
      have hm : args.map (ev t) = #[ev t s, ev t x] := by rw [hargs, hl]; rfl
      simp only [execOp, resolve, hm]
      exact SWp.bind (SWp.bind hh)
    · exact hh.elim
  · split at hh
    · rename_i x hl
      have hm : args.map (ev t) = #[ev t x] := by rw [hargs, hl]; rfl
      simp only [execOp, resolve, hm]
      exact SWp.bind (SWp.bind hh)
    · exact hh.elim
  · exact hh
 all_goals exact hh
end
section
variable {P : Program}
theorem zg0 : ∀ (l : List Value) (i : Nat), zd0 l i = l.getD i undef
 | [], i => by simp [zd0]
 | v :: l, 0 => by simp [zd0]
 | v :: l, i + 1 => by simp only [zd0, zg0 l i]; simp
theorem lset_eq : ∀ (l : List Value) (i : Nat) (v : Value), znk l i v = l.set i v
 | [], i, v => by simp [znk]
 | x :: l, 0, v => by simp [znk]
 | x :: l, i + 1, v => by simp only [znk, lset_eq l i]; simp
theorem za0 (a : Act) : a.eval = ev a.tmps.toList := by
 funext x
 cases x with
 | tmp i => simp only [Act.eval, ev, zg0]; simp [Array.getD_eq_getD_getElem?]
 | _ => rfl
theorem zcb (a : Act) (d : Option Tmp) (v : Value) : (a.put d v).tmps.toList = lput a.tmps.toList d v := by
 cases d with
 | none => rfl
 | some i => simp [Act.put, lput, lset_eq]
theorem zaj (a : Act) (d : Option Tmp) (v : Value) : (a.put d v).defers = a.defers := by cases d <;> rfl
theorem zjh : ∀ (l : List Value) {i j : Nat} (v : Value), i ≠ j → zd0 (znk l i v) j = zd0 l j
 | [], _, _, _, _ => rfl
 | x :: l, 0, 0, v, h => absurd rfl h
 | x :: l, 0, j + 1, v, _ => rfl
 | x :: l, i + 1, 0, v, _ => rfl
 | x :: l, i + 1, j + 1, v, h => zjh l v (by omega)
theorem zl9 : ∀ (l : List Value) (i : Nat) (v : Value), (znk l i v).length = l.length
 | [], _, _ => rfl
 | _ :: _, 0, _ => rfl
 | _ :: l, i + 1, v => by simp [znk, zl9 l i v]
theorem lset_self : ∀ (l : List Value) (i : Nat) (c : Bool), zd0 l i = .bool c → znk l i (.bool c) = l
 | [], _, _, _ => rfl
 | x :: l, 0, c, h => by simp only [zd0] at h; subst h; rfl
 | x :: l, i + 1, c, h => by simp only [znk]; rw [lset_self l i c h]
structure Agr (md : List Nat) (t t' : List Value) : Prop where
 len : t'.length = t.length
 same : ∀ i, i ∉ md → zd0 t' i = zd0 t i
theorem Agr.refl (md : List Nat) (t : List Value) : Agr md t t := ⟨rfl, fun _ _ => rfl⟩
theorem Agr.trans {md : List Nat} {a b c : List Value} (h : Agr md a b) (k : Agr md b c) : Agr md a c :=
 ⟨k.len.trans h.len, fun i hi => (k.same i hi).trans (h.same i hi)⟩
theorem Agr.mono {md md' : List Nat} {a b : List Value} (h : Agr md a b) (hm : ∀ i, i ∈ md → i ∈ md') : Agr md' a b :=
 ⟨h.len, fun i hi => h.same i fun hc => hi (hm i hc)⟩
theorem Agr.put {md : List Nat} {t : List Value} {d : Option Tmp} (v : Value) (hd : ∀ i, d = some i → i ∈ md) : Agr md t (lput t d v) := by
 cases d with
 | none => exact .refl _ _
 | some i => exact ⟨zl9 _ _ _, fun j hj => zjh _ _ fun e => hj (e ▸ hd i rfl)⟩
theorem zqr {ops : List Oper} {a : Act} {j : Nat} : yielded ops.toArray a.tmps j = match (ops[j]?).bind (·.dst) with
 | some d => (match zd0 a.tmps.toList d with | .bool c => some c | _ => none)
 | none => none := by
 unfold yielded
 simp only [List.getElem?_toArray]
 cases hd : (ops[j]?).bind (·.dst) with
 | none => rfl
 | some d =>
   simp only [Option.bind_some, zg0]
   cases ht : a.tmps[d]? with
   | none => simp [ht, undef]
   | some v =>
     simp only [List.getD_eq_getElem?_getD, Array.getElem?_toList, ht, Option.getD_some]
     cases v <;> rfl
theorem zd4 {ops : List Oper} {o : Oper} {a : Act} {A B : List Value → Prop} (h : zg1 ops o a.tmps.toList A B) :
 (Region.wanted o (yielded ops.toArray a.tmps) = true ∧ A a.tmps.toList) ∨ (Region.wanted o (yielded ops.toArray a.tmps) = false ∧ B a.tmps.toList) := by
 unfold zg1 zdq at h
 unfold Region.wanted
 cases hg : o.guard with
 | none => rw [hg] at h; exact .inl ⟨rfl, h⟩
 | some jw =>
   obtain ⟨j, want⟩ := jw
   rw [hg] at h
   simp only [zqr]
   simp only at h
   cases hd : (ops[j]?).bind (·.dst) with
   | none => rw [hd] at h; exact .inr ⟨by simp, h⟩
   | some d =>
     rw [hd] at h
     simp only at h ⊢
     cases hv : zd0 a.tmps.toList d with
     | bool c =>
       rw [hv] at h
       simp only at h ⊢
       cases c <;> cases want <;> simp only [cond_true, cond_false, lset_self _ _ _ hv] at h <;> simp [h]
     | _ => rw [hv] at h; exact .inr ⟨by simp, h⟩
theorem op_sound {H : Hn} {o : Oper} {h : zab} {K : Value → zab → Prop} {a : Act} (hh : opK P H a.tmps.toList o h K) {w : World} (hw : w.heap = h)
 {next : Act → World → Prop} {Q : Exit → Act → World → Prop} (hn : ∀ v w', K v w'.heap → Same w w' → next (a.put o.dst v) w') : o.wp P a w next Q := by
 unfold opK at hh
 cases hp : zcs o with
 | true =>
   simp only [hp, cond_true] at hh
   obtain ⟨v, hK, hr⟩ := zik hh
   unfold Oper.wp
   rw [za0, hr w]
   exact hn v w (hw ▸ hK) (.refl w)
 | false =>
   simp only [hp, cond_false] at hh
   cases hq : zll o with
   | true =>
     simp only [hq, cond_true] at hh
     obtain ⟨v, hK, hr⟩ := zih hh
     unfold Oper.wp
     rw [za0, hr w hw]
     exact hn v w (hw ▸ hK) (.refl w)
   | false =>
     simp only [hq, cond_false] at hh
     exact gen_sound (zcf hh) (za0 a) hw hn
def Up (md : List Nat) (t : List Value) (w : World) (K : List Value → zab → Prop) (a' : Act) (w' : World) : Prop :=
 a'.defers = [] ∧ Same w w' ∧ Agr md t a'.tmps.toList ∧ K a'.tmps.toList w'.heap
theorem zls {H : Hn} {ops : List Oper} {K : List Value → zab → Prop} {md : List Nat} {Q : Exit → Act → World → Prop} : ∀ (l : List Oper) (a : Act) (w : World),
 vcOps P H ops K l a.tmps.toList w.heap → a.defers = [] → (∀ o ∈ l, ∀ d, o.dst = some d → d ∈ md) → (∀ a' w', Up md a.tmps.toList w K a' w' → Q .normal a' w') → wpList P ops.toArray Q l a w
 | [], a, w, hh, hd, _, hQ => hQ a w ⟨hd, .refl w, .refl _ _, hh⟩
 | o :: l, a, w, hh, hd, hm, hQ => by
   have hput : ∀ v, Agr md a.tmps.toList (a.put o.dst v).tmps.toList := fun v => by rw [zcb]; exact .put v fun i hi => hm o (by simp) i hi
   unfold wpList
   rcases zd4 hh with ⟨hw, h1⟩ | ⟨hw, h1⟩
   · rw [if_pos hw]
     refine .inl (op_sound h1 rfl fun v w' hK hS => ?_)
     refine zls l (a.put o.dst v) w' (by rw [zcb]; exact hK) (by rw [zaj]; exact hd) (fun o' ho' => hm o' (by simp [ho'])) fun a' w'' hU => ?_
     exact hQ a' w'' ⟨hU.1, hS.trans hU.2.1, (hput v).trans hU.2.2.1, hU.2.2.2⟩
   · rw [if_neg (by rw [hw]; simp)]
     refine zls l (a.put o.dst undef) w (by rw [zcb]; exact h1) (by rw [zaj]; exact hd) (fun o' ho' => hm o' (by simp [ho'])) fun a' w'' hU => ?_
     exact hQ a' w'' ⟨hU.1, hU.2.1, (hput undef).trans hU.2.2.1, hU.2.2.2⟩
def wpF (P : Program) (ops : List Oper) (Q : Exit → Act → World → Prop) (Cs : List (Nat × (World → Prop))) : Nat → Array Bool → Act → World → Prop
 | 0, listed, a, w => Region.ready .any ops.toArray listed = [] ∧ Q .normal a w
 | n + 1, listed, a, w => (Region.ready .any ops.toArray listed = [] → Q .normal a w) ∧
   ∀ i ∈ Region.ready .any ops.toArray listed, wpOp P ops.toArray Q i (fun a' w' => (∀ c ∈ Cs, zc7 ops ops.length c.1 i = false → c.2 w → c.2 w') ∧ wpF P ops Q Cs n (listed.setIfInBounds i true) a' w') a w
theorem wpF_any {ops : List Oper} {Q : Exit → Act → World → Prop} {Cs : List (Nat × (World → Prop))} : ∀ (n : Nat) (listed : Array Bool) (a : Act) (w : World), wpF P ops Q Cs n listed a w → wpAny P .any ops.toArray Q n listed a w
 | 0, _, _, _, h => h
 | n + 1, _, _, _, h => ⟨h.1, fun i hi => wpOp_mono (fun a' w' hh => wpF_any n _ a' w' hh.2) (h.2 i hi)⟩
def Closed (ops : List Oper) (listed : Array Bool) : Prop :=
 ∀ j oj, ops[j]? = some oj → listed.getD j false = true → ∀ e ∈ oj.after, Region.binds .any e = true → listed.getD e.on false = true
theorem Closed.set {ops : List Oper} {listed : Array Bool} (hc : Closed ops listed) {i : Nat} (hi : i ∈ Region.ready .any ops.toArray listed) : Closed ops (listed.setIfInBounds i true) := by
 intro j oj hj hl e he hb
 obtain ⟨_, oi, hoi, hall⟩ := mem_ready.1 hi
 by_cases hij : i = j
 · subst hij
   have : oj = oi := Option.some.inj (hj.symm.trans (by simpa using hoi))
   subst this
   exact getD_set_true (hall e he hb)
 · rw [getD_set_ne false hij] at hl
   exact getD_set_true (hc j oj hj hl e he hb)
theorem zfb {ops : List Oper} {listed : Array Bool} (hc : Closed ops listed) {i : Nat} : ∀ (n j : Nat) (oj : Oper), ops[j]? = some oj →
 (∀ e ∈ oj.after, Region.binds .any e = true → listed.getD e.on false = true) → zc7 ops n i j = true → listed.getD i false = true
 | 0, _, _, _, _, h => by simp [zc7] at h
 | n + 1, j, oj, hj, hall, h => by
   simp only [zc7, hj, List.any_eq_true, Bool.and_eq_true, Bool.or_eq_true, beq_iff_eq] at h
   obtain ⟨e, he, hb, h1⟩ := h
   have hl := hall e (by simpa using he) hb
   rcases h1 with h1 | h1
   · rw [← h1]; exact hl
   · cases hk : ops[e.on]? with
     | none =>
       cases n with
       | zero => simp [zc7] at h1
       | succ n => simp [zc7, hk] at h1
     | some ok => exact zfb hc n e.on ok hk (fun e' he' hb' => hc e.on ok hk hl e' he' hb') h1
def YieldC (P : Program) (ops : List Oper) (o : Oper) (v : Value) (C : World → Prop) (a : Act) : Prop :=
 (Region.wanted o (yielded ops.toArray a.tmps) = true ∧ ∀ w, C w → (execOp a.eval o).run P w = .ok (.value v) w) ∨ (Region.wanted o (yielded ops.toArray a.tmps) = false ∧ v = undef)
theorem YieldC.wpOp {ops : List Oper} {Q : Exit → Act → World → Prop} {i : Nat} {o : Oper} {v : Value} {C : World → Prop} {a : Act} (hi : ops[i]? = some o) (hy : YieldC P ops o v C a) {K : Act → World → Prop} {w : World} (hC : C w)
 (h : K (a.put o.dst v) w) : wpOp P ops.toArray Q i K a w := by
 unfold Go.wpOp
 simp only [List.getElem?_toArray, hi]
 rcases hy with ⟨hw, hv⟩ | ⟨hw, rfl⟩
 · simp only [hw, if_true, Oper.wp, hv w hC, Oper.upon]; exact .inl h
 · simp only [hw, Bool.false_eq_true, if_false]; exact h
theorem YieldC.of_same {ops : List Oper} {o : Oper} {v : Value} {C : World → Prop} {a a' : Act} (hy : YieldC P ops o v C a) (he : execOp a'.eval o = execOp a.eval o)
 (hw : Region.wanted o (yielded ops.toArray a'.tmps) = Region.wanted o (yielded ops.toArray a.tmps)) : YieldC P ops o v C a' := by
 unfold YieldC at *
 rw [he, hw]
 exact hy
theorem zqs {ops : List Oper} {Q : Exit → Act → World → Prop} {j : Nat} {oi oj : Oper} {v : Value} {C : World → Prop} (hj : ops[j]? = some oj) (hap : oi.apart ops.toArray oj = true)
 (hsi : ∀ cs b, oi.op ≠ .select cs b) (hsj : ∀ cs b, oj.op ≠ .select cs b) (hQ : ∀ c a w, ¬ Q (.panic c) a w) (hQo : ∀ a w, ¬ Q .outgrown a w) {K : Act → World → Prop} {a : Act} {w : World}
 (hy : YieldC P ops oi v C a) (h : wpOp P ops.toArray Q j K (a.put oi.dst v) w) :
 wpOp P ops.toArray Q j (fun a' w' => YieldC P ops oi v C a' ∧ K (a'.put oi.dst v) w') a w := by
 obtain ⟨h1, h2, h3⟩ := Oper.apart_spec hap
 have keep : ∀ (a : Act), YieldC P ops oi v C a → ∀ u, YieldC P ops oi v C (a.put oj.dst u) := fun a hy u =>
  hy.of_same (execOp_put oi hsi a oj.dst u h3) (wanted_put oi a oj.dst u h3)
 have keepD : ∀ d, YieldC P ops oi v C { a with defers := d :: a.defers } := fun d => hy.of_same rfl rfl
 unfold Go.wpOp at *
 simp only [List.getElem?_toArray, hj] at *
 rw [wanted_put oj a oi.dst v h1] at h
 split
 · rename_i hw
   simp only [hw, if_true] at h
   rcases h with h | ⟨_, a', w', hlets⟩
   case inr => exact absurd hlets (hQo _ _)
   refine .inl ?_
   unfold Oper.wp at *
   rw [execOp_put oj hsj a oi.dst v h1] at h
   generalize (execOp a.eval oj).run P w = r at *
   cases r with
   | ok n w' =>
     cases n <;> simp only [Oper.upon] at h ⊢
     case value u => exact ⟨keep a hy u, by rw [← Act.put_comm a v u h2]; exact h⟩
     case skip => exact ⟨keep a hy _, by rw [← Act.put_comm a v undef h2]; exact h⟩
     case defer d =>
      refine ⟨keep _ (keepD d) _, ?_⟩
      rw [← Act.put_comm _ v undef h2, ← Act.put_defers]
      exact h
     case enter f args =>
      refine Calls.mono h fun e w'' he => ?_
      cases e with
      | returned u => exact ⟨keep a hy u, by rw [← Act.put_comm a v u h2]; exact he⟩
      | panicked c => exact absurd he (hQ _ _ _)
      | outgrown => obtain ⟨a', w', hlets⟩ := he; exact absurd hlets (hQo _ _)
     case row row args => exact Rows.mono h fun u w'' he => ⟨keep a hy u, by rw [← Act.put_comm a v u h2]; exact he⟩
   | halt x w' =>
     cases x <;> simp only [Oper.upon] at h ⊢
     case panic u => exact absurd h (hQ _ _ _)
 · rename_i hw
   simp only [hw] at h
   exact ⟨keep a hy _, by rw [← Act.put_comm a v undef h2]; exact h⟩
theorem zkg {ops : List Oper} {Q : Exit → Act → World → Prop} {i : Nat} {oi : Oper} {v : Value} {C : World → Prop} (hi : ops[i]? = some oi)
 (hsel : ∀ (j : Nat) (o : Oper) cs b, ops[j]? = some o → o.op ≠ .select cs b) (hQ : ∀ c a w, ¬ Q (.panic c) a w) (hQo : ∀ a w, ¬ Q .outgrown a w)
 {Cs Cs' : List (Nat × (World → Prop))} (hsub : ∀ c ∈ Cs, c ∈ Cs')
 (hC : ∀ j w w', (∀ c ∈ Cs', zc7 ops ops.length c.1 j = false → c.2 w → c.2 w') → zc7 ops ops.length i j = false → C w → C w') :
 ∀ (fuel : Nat) (listed : Array Bool) (a : Act) (w : World), Closed ops listed →
   (∀ j oj, ops[j]? = some oj → j ≠ i → listed.getD j true = false → (∀ e ∈ oj.after, Region.binds .any e = true → e.on ≠ i) → oi.apart ops.toArray oj = true) →
   i ∈ Region.ready .any ops.toArray listed → YieldC P ops oi v C a → C w →
   wpF P ops Q Cs' fuel (listed.setIfInBounds i true) (a.put oi.dst v) w → wpF P ops Q Cs (fuel + 1) listed a w := by
 intro fuel
 induction fuel with
 | zero =>
   intro listed a w hcl _ hr hy hCw H
   refine ⟨fun h => (by rw [h] at hr; cases hr), fun j hj => ?_⟩
   by_cases hji : j = i
   · subst hji; exact hy.wpOp hi hCw ⟨fun _ _ _ h => h, H⟩
   · have := ready_mono hj hji
     rw [H.1] at this
     cases this
 | succ fuel ih =>
   intro listed a w hcl hfree hr hy hCw H
   refine ⟨fun h => (by rw [h] at hr; cases hr), fun j hj => ?_⟩
   by_cases hji : j = i
   · subst hji
     refine hy.wpOp hi hCw ⟨fun _ _ _ h => h, ?_⟩
     -- fewer constraints
     have mono : ∀ (n : Nat) (listed : Array Bool) (a : Act) (w : World), wpF P ops Q Cs' n listed a w → wpF P ops Q Cs n listed a w := by
      intro n
      induction n with
      | zero => intro _ _ _ h; exact h
      | succ n ihn => intro _ _ _ h; exact ⟨h.1, fun k hk => wpOp_mono (fun a' w' hh => ⟨fun c hc => hh.1 c (hsub c hc), ihn _ _ _ hh.2⟩) (h.2 k hk)⟩
     exact mono _ _ _ _ H
   · have h1 := H.2 j (ready_mono hj hji)
     obtain ⟨hjun, oj, hoj, hall⟩ := mem_ready.1 hj
     have hoj' : ops[j]? = some oj := by simpa using hoj
     have hiun := (mem_ready.1 hr).1
     have hil : listed.getD i false = false := by
      rcases Nat.lt_or_ge i listed.size with h' | h'
      · simp [h'] at hiun ⊢; exact hiun
      · simp [Array.getElem?_eq_none h'] at hiun
     have hnot : ∀ e ∈ oj.after, Region.binds .any e = true → e.on ≠ i := fun e he hb heq => by
      have h1 := hall e he hb
      rw [heq, hil] at h1
      cases h1
     have hnw : zc7 ops ops.length i j = false := by
      cases hw : zc7 ops ops.length i j with
      | false => rfl
      | true =>
        have := zfb hcl ops.length j oj hoj' hall hw
        rw [hil] at this; cases this
     have h2 := zqs hoj' (hfree j oj hoj' hji hjun hnot) (fun cs b => hsel i oi cs b hi) (fun cs b => hsel j oj cs b hoj') hQ hQo hy h1
     have hfree' : ∀ k ok, ops[k]? = some ok → k ≠ i → (listed.setIfInBounds j true).getD k true = false →
      (∀ e ∈ ok.after, Region.binds .any e = true → e.on ≠ i) → oi.apart ops.toArray ok = true := fun k ok hk hki hun hno => by
      refine hfree k ok hk hki ?_ hno
      by_cases hjk : j = k
      · subst hjk; exact hjun
      · rw [getD_set_ne true hjk] at hun; exact hun
     refine wpOp_mono (fun a' w' h3 => ⟨fun c hc => h3.2.1 c (hsub c hc), ih (listed.setIfInBounds j true) a' w' (hcl.set hj) hfree' (ready_mono hr (Ne.symm hji)) h3.1 (hC j w w' h3.2.1 hnw hCw) ?_⟩) h2
     rw [Array.setIfInBounds_comm _ _ hji]
     exact h3.2.2
end
section
variable {P : Program}
structure Lst (ops : List Oper) (done : List Nat) (listed : Array Bool) : Prop where
 size : listed.size = ops.length
 eq : ∀ k, k < ops.length → listed.getD k true = done.contains k
 bd : ∀ k, done.contains k = true → k < ops.length
theorem Lst.getF {ops : List Oper} {done : List Nat} {listed : Array Bool} (h : Lst ops done listed) {k : Nat} (hk : k < ops.length) : listed.getD k false = done.contains k := by
 have := h.eq k hk
 have hs : k < listed.size := by rw [h.size]; exact hk
 simp [hs] at this ⊢
 exact this
theorem Lst.set {ops : List Oper} {done : List Nat} {listed : Array Bool} (h : Lst ops done listed) (i : Nat) (hi : i < ops.length) : Lst ops (i :: done) (listed.setIfInBounds i true) := by
 refine ⟨by simp [h.size], fun k hk => ?_, fun k hk => ?_⟩
 rotate_left
 · rw [List.contains_cons, Bool.or_eq_true, beq_iff_eq] at hk
   rcases hk with rfl | hk
   · exact hi
   · exact h.bd k hk
 have hs : i < listed.size := by rw [h.size]; exact hi
 by_cases hik : i = k
 · subst hik; simp [hs]
 · rw [getD_set_ne true hik, h.eq k hk]
   have : (k == i) = false := by simpa using Ne.symm hik
   simp only [List.contains_cons, this, Bool.false_or]
theorem zdf {ops : List Oper} {done : List Nat} {listed : Array Bool} (h : Lst ops done listed) {i : Nat} :
 i ∈ Region.ready .any ops.toArray listed ↔ readyL ops done i = true := by
 rw [mem_ready]
 unfold readyL
 simp only [List.getElem?_toArray]
 cases ho : ops[i]? with
 | none => simp
 | some o =>
   have hlt : i < ops.length := (List.getElem?_eq_some_iff.1 ho).1
   rw [h.eq i hlt]
   simp only [Option.some.injEq, exists_eq_left', Bool.and_eq_true, Bool.not_eq_true', List.all_eq_true, Bool.or_eq_true]
   refine and_congr_right fun _ => ⟨fun hh e he => ?_, fun hh e he hb => ?_⟩
   · cases hb : Region.binds .any e with
     | false => exact .inl rfl
     | true =>
       refine .inr ?_
       have h1 := hh e (by simpa using he) hb
       rcases Nat.lt_or_ge e.on ops.length with h2 | h2
       · rw [← h.getF h2]; exact h1
       · simp [show listed.size ≤ e.on by rw [h.size]; exact h2] at h1
   · have h1 := (hh e (by simpa using he)).resolve_left (by simp [hb])
     rcases Nat.lt_or_ge e.on ops.length with h2 | h2
     · rw [h.getF h2]; exact h1
     · exact absurd (h.bd _ h1) (by omega)
theorem find_range {n : Nat} {p : Nat → Bool} {i : Nat} (h : (List.range n).find? p = some i) : i < n ∧ p i = true :=
 ⟨List.mem_range.1 (List.mem_of_find?_eq_some h), List.find?_some h⟩
theorem zn8 {ops : List Oper} {done : List Nat} {i : Nat} (h : zjp ops done = some i) : readyL ops done i = true ∧ ∃ o, ops[i]? = some o ∧ (zcs o || zll o) = true := by
 have := (find_range h).2
 simp only [Bool.and_eq_true] at this
 refine ⟨this.1, ?_⟩
 cases ho : ops[i]? with
 | none => rw [ho] at this; simp at this
 | some o => rw [ho] at this; exact ⟨o, rfl, this.2⟩
theorem ziz : ∀ {l : List Nat} {f : Nat → Prop}, conjL l f → l ≠ [] ∧ ∀ i ∈ l, f i
 | [], _, h => h.elim
 | [i], f, h => ⟨by simp, fun j hj => by simp only [List.mem_singleton] at hj; subst hj; exact h⟩
 | i :: j :: l, f, h => ⟨by simp, fun k hk => by
     simp only [List.mem_cons] at hk
     rcases hk with rfl | hk
     · exact h.1
     · exact (ziz (l := j :: l) h.2).2 k (by simpa using hk)⟩
def zmn (P : Program) (held : List (Nat × Oper × List Value × Value)) : List (Nat × (World → Prop)) :=
 held.map fun x => (x.1, fun w => (execOp (ev x.2.2.1) x.2.1).run P w = .ok (.value x.2.2.2) w)
theorem zi6 {ops : List Oper} {e : Nat} {h : zab} : ∀ {held : List (Nat × Oper × List Value × Value)} {K : Prop}, again P ops e h held K →
 K ∧ ∀ c ∈ zmn P held, zc7 ops ops.length c.1 e = false → ∀ w : World, w.heap = h → c.2 w
 | [], K, hh => ⟨hh, fun c hc => by simp [zmn] at hc⟩
 | (i, o, t, v) :: l, K, hh => by
   simp only [again] at hh
   cases hw : zc7 ops ops.length i e with
   | true =>
     rw [hw] at hh
     obtain ⟨hK, hc⟩ := zi6 hh
     refine ⟨hK, fun c hcm hcw => ?_⟩
     simp only [zmn, List.map_cons, List.mem_cons] at hcm
     rcases hcm with rfl | hcm
     · rw [hw] at hcw; cases hcw
     · exact hc c hcm hcw
   | false =>
     rw [hw] at hh
     obtain ⟨hK, hc⟩ := zi6 hh.2
     refine ⟨hK, fun c hcm hcw w hhw => ?_⟩
     simp only [zmn, List.map_cons, List.mem_cons] at hcm
     rcases hcm with rfl | hcm
     · obtain ⟨v', rfl, hr⟩ := zih hh.1
       exact hr w hhw
     · exact hc c hcm hcw w hhw
theorem draw_sound {H : Hn} {ops : List Oper} {K : List Value → zab → Prop} {md : List Nat} {Q : Exit → Act → World → Prop} (hsel : Region.noSelect ops.toArray = true)
 (hQ : ∀ c a w, ¬ Q (.panic c) a w) (hQo : ∀ a w, ¬ Q .outgrown a w) (hm : ∀ o ∈ ops, ∀ d, o.dst = some d → d ∈ md) :
 ∀ (n : Nat) (done : List Nat) (held : List (Nat × Oper × List Value × Value)) (listed : Array Bool) (a : Act) (w : World), zhf P H ops K n done held a.tmps.toList w.heap → zg2 ops n done = true →
   Lst ops done listed → Closed ops listed → a.defers = [] → (∀ a' w', Up md a.tmps.toList w K a' w' → Q .normal a' w') → wpF P ops Q (zmn P held) n listed a w := by
 intro n
 induction n with
 | zero =>
   intro done held listed a w hh hB hL hcl hd hK
   refine ⟨?_, hK a w ⟨hd, .refl w, .refl _ _, hh⟩⟩
   simp only [zg2, List.all_eq_true, List.mem_range] at hB
   rw [List.eq_nil_iff_forall_not_mem]
   intro i hi
   obtain ⟨h0, o, ho, -⟩ := mem_ready.1 hi
   have hlt : i < ops.length := by
    have := (Array.getElem?_eq_some_iff.1 ho).1
    simpa using this
   rw [hL.eq i hlt, hB i hlt] at h0
   cases h0
 | succ n ih =>
   intro done held listed a w hh hB hL hcl hd hK
   simp only [zhf] at hh
   simp only [zg2] at hB
   have sel : ∀ (j : Nat) (o : Oper) cs b, ops[j]? = some o → o.op ≠ .select cs b := fun j o cs b hj => Region.noSelect_spec hsel j o cs b (by simpa using hj)
   -- what is shown of the rest
   have rest : ∀ (i : Nat) (o : Oper) (ho : ops[i]? = some o) (hri : i ∈ Region.ready .any ops.toArray listed) (hB2 : zg2 ops n (i :: done) = true) (held' : List (Nat × Oper × List Value × Value)) (v : Value) (w' : World),
    zhf P H ops K n (i :: done) held' (lput a.tmps.toList o.dst v) w'.heap → Same w w' →
    wpF P ops Q (zmn P held') n (listed.setIfInBounds i true) (a.put o.dst v) w' := fun i o ho hri hB2 held' v w' h1 hS => by
    have hilt : i < ops.length := (List.getElem?_eq_some_iff.1 ho).1
    have homem : o ∈ ops := List.mem_of_getElem? ho
    have hput : ∀ v, Agr md a.tmps.toList (a.put o.dst v).tmps.toList := fun v => by rw [zcb]; exact .put v fun d hd => hm o homem d hd
    exact ih (i :: done) held' _ (a.put o.dst v) w' (by rw [zcb]; exact h1) hB2 (hL.set i hilt) (hcl.set hri) (by rw [zaj]; exact hd) fun a' w'' hU =>
     hK a' w'' ⟨hU.1, hS.trans hU.2.1, (hput v).trans hU.2.2.1, hU.2.2.2⟩
   cases hn : zjp ops done with
   | some i =>
     obtain ⟨hrd, o, ho, hq⟩ := zn8 hn
     rw [hn] at hh hB
     simp only [ho, Bool.and_eq_true] at hh hB
     obtain ⟨hB1, hB2⟩ := hB
     have hri : i ∈ Region.ready .any ops.toArray listed := (zdf hL).2 hrd
     have hcl' := hcl.set hri
     have rest := rest i o ho hri hB2
     have hfree : ∀ j oj, ops[j]? = some oj → j ≠ i → listed.getD j true = false → (∀ e ∈ oj.after, Region.binds .any e = true → e.on ≠ i) → o.apart ops.toArray oj = true := by
      intro j oj hj hji hun hno
      have hjlt : j < ops.length := (List.getElem?_eq_some_iff.1 hj).1
      have h1 := List.all_eq_true.1 hB1 j (List.mem_range.2 hjlt)
      rw [hj] at h1
      rw [hL.eq j hjlt] at hun
      simp only [Bool.or_eq_true, beq_iff_eq, hji, false_or, hun, Bool.false_eq_true, List.any_eq_true, Bool.and_eq_true] at h1
      rcases h1 with ⟨e, he, hb, hon⟩ | h1
      · exact absurd hon (hno e (by simpa using he) hb)
      · exact h1
     rcases zd4 hh with ⟨hw, h1⟩ | ⟨hw, h1⟩
     · cases hp : zcs o with
       | true =>
         simp only [hp, cond_true] at h1
         obtain ⟨v, hv, hr⟩ := zik h1
         refine zkg (C := fun _ => True) ho sel hQ hQo (fun _ h => h) (fun _ _ _ _ _ _ => trivial) n listed a w hcl hfree hri (.inl ⟨hw, fun w' _ => by rw [za0]; exact hr w'⟩) trivial (rest held v w hv (.refl w))
       | false =>
         simp only [hp, cond_false] at h1
         obtain ⟨v, hv, hr⟩ := zih h1
         refine zkg (C := fun w' => (execOp (ev a.tmps.toList) o).run P w' = .ok (.value v) w') ho sel hQ hQo (Cs' := zmn P ((i, o, a.tmps.toList, v) :: held)) (fun c hc => List.mem_cons_of_mem _ hc)
          (fun j w1 w2 hall hwt hC => hall (i, _) (List.mem_cons_self ..) hwt hC) n listed a w hcl hfree hri (.inl ⟨hw, fun w' hw' => by rw [za0]; exact hw'⟩) (hr w rfl) (rest _ v w hv (.refl w))
     · exact zkg (C := fun _ => True) ho sel hQ hQo (fun _ h => h) (fun _ _ _ _ _ _ => trivial) n listed a w hcl hfree hri (.inr ⟨hw, rfl⟩) trivial (rest held undef w h1 (.refl w))
   | none =>
     rw [hn] at hh hB
     simp only at hh hB
     obtain ⟨hne, hall⟩ := ziz hh
     have hmem : ∀ j, j ∈ Region.ready .any ops.toArray listed → j ∈ zbi ops done := fun j hj => by
      have hjr := (zdf hL).1 hj
      have hjlt : j < ops.length := by
       obtain ⟨oj, hoj, -⟩ := (mem_ready.1 hj).2
       have := (Array.getElem?_eq_some_iff.1 hoj).1
       simpa using this
      exact List.mem_filter.2 ⟨List.mem_range.2 hjlt, hjr⟩
     refine ⟨fun h0 => ?_, fun j hj => ?_⟩
     · cases hr : zbi ops done with
       | nil => exact (hne hr).elim
       | cons j l =>
         have h1 : j ∈ zbi ops done := by rw [hr]; exact List.mem_cons_self ..
         have h2 : j ∈ Region.ready .any ops.toArray listed := (zdf hL).2 (List.mem_filter.1 h1).2
         rw [h0] at h2; cases h2
     · have hjm := hmem j hj
       have hh := hall j hjm
       have hB := List.all_eq_true.1 hB j hjm
       cases ho : ops[j]? with
       | none => rw [ho] at hh; exact hh.elim
       | some o =>
         rw [ho] at hh hB
         simp only [Bool.and_eq_true, Bool.not_eq_true', Bool.or_eq_false_iff] at hh hB
         obtain ⟨⟨hp, hro⟩, hB2⟩ := hB
         have rest := rest j o ho hj hB2
         unfold wpOp
         simp only [List.getElem?_toArray, ho]
         rcases zd4 hh with ⟨hw, h1⟩ | ⟨hw, h1⟩
         · rw [if_pos hw]
           refine .inl (gen_sound (zcf h1) (za0 a) rfl fun v w' hA hS => ?_)
           obtain ⟨hA, hC⟩ := zi6 hA
           exact ⟨fun c hc hcw _ => hC c hc hcw w' rfl, rest held v w' hA hS⟩
         · rw [if_neg (by rw [hw]; simp)]
           exact ⟨fun _ _ _ h => h, rest held undef w h1 (.refl w)⟩
def mkI : (l : List Sh) → (List Value → zab → Prop) → InvT l
 | [], f => fun h => f [] h
 | .i k :: l, f => fun n => mkI l fun vs h => f (.int k n :: vs) h
 | .b :: l, f => fun c => mkI l fun vs h => f (.bool c :: vs) h
 | .s :: l, f => fun s => mkI l fun vs h => f (.string s :: vs) h
 | .p :: l, f => fun a => mkI l fun vs h => f (.pointer a :: vs) h
 | .sl :: l, f => fun a n c => mkI l fun vs h => f (.slice a n c :: vs) h
 | .m :: l, f => fun r => mkI l fun vs h => f (.map r :: vs) h
 | .v :: l, f => fun v => mkI l fun vs h => f (v :: vs) h
theorem app_mkI : ∀ (l : List Sh) (f : List Value → zab → Prop) (vs : List Value) (h : zab), app l (mkI l f) vs h → f vs h
 | [], f, vs, h, hh => by cases vs <;> first | exact hh | exact hh.elim
 | x :: l, f, vs, h, hh => by
   cases x <;> cases vs <;> first
    | exact hh.elim
    | (rename_i v vs
       cases v <;> first
        | exact hh.elim
        | (simp only [app] at hh; obtain ⟨h3, h2⟩ := ze0 hh; subst h3; exact app_mkI l _ vs h h2)
        | exact app_mkI l _ vs h hh)
theorem zmy : ∀ (l : List Sh) (f : List Value → zab → Prop) (h : zab), zqn l (mkI l f) h fun vs => f vs h
 | [], f, h => fun hh => hh
 | x :: l, f, h => by
   cases x
   case sl => intro a n c; exact zmy l _ h
   all_goals (intro y; exact zmy l _ h)
theorem zib : ∀ (l : List Sh) (I : InvT l) (h : zab) (C : List Value → Prop), allI l I h C → ∀ vs, app l I vs h → C vs
 | [], I, h, C, hh, vs, ha => by cases vs <;> first | exact hh ha | exact ha.elim
 | x :: l, I, h, C, hh, vs, ha => by
   cases x <;> cases vs <;> first
    | exact ha.elim
    | (rename_i v vs
       cases v <;> first
        | exact ha.elim
        | (simp only [app] at ha; obtain ⟨h3, h2⟩ := ze0 ha; subst h3; exact zib l _ h _ (hh _) vs h2)
        | exact zib l _ h _ (hh _) vs ha
        | exact zib l _ h _ (hh _ _ _) vs ha)
theorem zpp : ∀ (l : List Value) (i : Nat), znk l i (zd0 l i) = l
 | [], _ => rfl
 | _ :: _, 0 => rfl
 | x :: l, i + 1 => by simp only [znk, zd0]; rw [zpp l i]
theorem zld (t : List Value) : ∀ L : List (Nat × Sh), zhk t (slots L) (vals t L) = t
 | [] => rfl
 | p :: L => by simp only [slots, vals, zhk]; rw [zpp]; exact zld t L
theorem zpw (md : List Nat) (g : Nat → Value) : ∀ (t : List Value) (k : Nat), (garb md g t k).length = t.length
 | [], _ => rfl
 | _ :: t, k => by simp [garb, zpw md g t (k + 1)]
theorem garb_get (md : List Nat) (g : Nat → Value) : ∀ (t : List Value) (k i : Nat), i < t.length → zd0 (garb md g t k) i = cond (md.contains (k + i)) (g (k + i)) (zd0 t i)
 | [], _, _, h => by simp at h
 | v :: t, k, 0, _ => by simp [garb, zd0]
 | v :: t, k, i + 1, h => by
   simp only [garb, zd0]
   rw [garb_get md g t (k + 1) i (by simpa using h)]
   rw [show k + 1 + i = k + (i + 1) by omega]
theorem lget_ext : ∀ (a b : List Value), a.length = b.length → (∀ i, i < a.length → zd0 a i = zd0 b i) → a = b
 | [], [], _, _ => rfl
 | [], _ :: _, h, _ => by simp at h
 | _ :: _, [], h, _ => by simp at h
 | x :: a, y :: b, h, hh => by
   have h0 := hh 0 (by simp)
   simp only [zd0] at h0
   rw [h0, lget_ext a b (by simpa using h) fun i hi => by have := hh (i + 1) (by simpa using hi); simpa [zd0] using this]
theorem zji {md : List Nat} {t t' : List Value} (h : Agr md t t') (L : List (Nat × Sh)) : ziw md t L (zd0 t') (vals t' L) = t' := by
 have hg : garb md (zd0 t') t 0 = t' := by
  refine lget_ext _ _ (by rw [zpw, h.len]) fun i hi => ?_
  rw [zpw] at hi
  rw [garb_get md _ t 0 i hi, Nat.zero_add]
  cases hc : md.contains i with
  | true => rfl
  | false => exact (h.same i (by simpa using hc)).symm
 unfold ziw
 rw [hg]
 exact zld t' L
def Lift (Q : Post) (md : List Nat) (t : List Value) (w : World) : Exit → Act → World → Prop
 | .normal, a', w' => Up md t w (Q .nrm) a' w'
 | .exit id, a', w' => Up md t w (Q (.ext id)) a' w'
 | .ret, a', w' => Up md t w (Q .ret) a' w'
 | _, _, _ => False
theorem Up.mono {md md' : List Nat} {t : List Value} {w : World} {K K' : List Value → zab → Prop} {a' : Act} {w' : World} (h : Up md t w K a' w') (hm : ∀ i ∈ md, i ∈ md') (hK : ∀ t h, K t h → K' t h) : Up md' t w K' a' w' :=
 ⟨h.1, h.2.1, h.2.2.1.mono hm, hK _ _ h.2.2.2⟩
theorem Up.after {md md' mD : List Nat} {t : List Value} {w w1 : World} {a1 : Act} {K K' : List Value → zab → Prop} {a' : Act} {w' : World} (h1 : Up md t w K a1 w1) (h2 : Up md' a1.tmps.toList w1 K' a' w')
 (hm : ∀ i ∈ md, i ∈ mD) (hm' : ∀ i ∈ md', i ∈ mD) : Up mD t w K' a' w' :=
 ⟨h2.1, h1.2.1.trans h2.2.1, (h1.2.2.1.mono hm).trans (h2.2.2.1.mono hm'), h2.2.2.2⟩
theorem rep_get {n k : Nat} (d : Bool) (hk : k < n) : (Array.replicate n false).getD k d = false := by
 rw [Array.getD_eq_getD_getElem?, Array.getElem?_replicate, if_pos hk]; rfl
theorem rep_getF (n k : Nat) : (Array.replicate n false).getD k false = false := by
 rw [Array.getD_eq_getD_getElem?, Array.getElem?_replicate]; split <;> rfl
theorem vc_sound (hmix : P.follows .mixedOrders = true) {H : Hn} : ∀ (c : Code) (Q : Post) (a : Act) (w : World), vc P H c Q a.tmps.toList w.heap → a.defers = [] →
 c.wp P (Lift Q (zbl c) a.tmps.toList w) a w := by
 intro c
 induction c with
 | skip => intro Q a w hh hd; exact wp_skip ⟨hd, .refl w, .refl _ _, hh⟩
 | region id ops d =>
   intro Q a w hh hd
   simp only [vc] at hh
   have hm : ∀ o ∈ ops.toList, ∀ d', o.dst = some d' → d' ∈ zbl (.region id ops d) := fun o ho d' hd' => by
    simp only [zbl, List.mem_append]
    exact .inl (List.mem_filterMap.2 ⟨o, ho, hd'⟩)
   cases d with
   | false =>
     have := zls (P := P) (Q := Lift Q (zbl (.region id ops false)) a.tmps.toList w) ops.toList a w hh hd hm (fun a' w' hU => hU)
     refine wp_region_list ?_
     simpa using this
   | true =>
     obtain ⟨hB, hh⟩ := zaa hh
     refine wp_region_any hmix ?_
     rw [Bool.and_eq_true] at hB
     obtain ⟨hB, hsel⟩ := hB
     have key := draw_sound (P := P) (md := zbl (.region id ops true)) (Q := Lift Q (zbl (.region id ops true)) a.tmps.toList w) hsel (fun _ _ _ h => h) (fun _ _ h => h) hm ops.toList.length [] [] (Array.replicate ops.toList.length false) a
      { w with drawn := w.drawn + 1 } hh hB ⟨by simp, fun k hk => by rw [rep_get true hk]; simp, fun k hk => by simp at hk⟩ (fun j oj hj hl => by rw [rep_getF] at hl; cases hl)
      hd (fun a' w' hU => ⟨hU.1, ⟨hU.2.1.tape, hU.2.1.os, hU.2.1.output, Nat.le_trans (Nat.le_succ _) hU.2.1.drawn⟩, hU.2.2.1, hU.2.2.2⟩)
     have := wpF_any _ _ _ _ key
     simpa using this
 | seq x y ihx ihy =>
   intro Q a w hh hd
   simp only [vc] at hh
   have hmx : ∀ i ∈ zbl x, i ∈ zbl (.seq x y) := fun i hi => by simp only [zbl, List.mem_append]; exact .inl hi
   have hmy : ∀ i ∈ zbl y, i ∈ zbl (.seq x y) := fun i hi => by simp only [zbl, List.mem_append]; exact .inr hi
   have go : ∀ (K : List Value → zab → Prop), vc P H x (thenQ K Q) a.tmps.toList w.heap → (∀ a1 w1, Up (zbl x) a.tmps.toList w K a1 w1 → vc P H y Q a1.tmps.toList w1.heap) →
    (Code.seq x y).wp P (Lift Q (zbl (.seq x y)) a.tmps.toList w) a w := by
    intro K hx hK
    refine wp_seq (wp_mono (ihx _ a w hx hd) fun e a1 w1 hq => ?_)
    cases e with
    | normal =>
      refine wp_mono (ihy Q a1 w1 (hK a1 w1 hq) hq.1) fun e a2 w2 hq2 => ?_
      cases e with
      | normal => exact Up.after hq hq2 hmx hmy
      | exit id => exact Up.after hq hq2 hmx hmy
      | ret => exact Up.after hq hq2 hmx hmy
      | _ => exact hq2.elim
    | exit id => exact Up.mono hq hmx fun _ _ h => h
    | ret => exact Up.mono hq hmx fun _ _ h => h
    | _ => exact hq.elim
   cases hj : hasHint H.js (zai y) with
   | false =>
     rw [hj] at hh
     exact go _ hh fun a1 w1 hU => hU.2.2.2
   | true =>
     rw [hj] at hh
     refine go _ (hh (mkI _ fun vs h' => ∀ g : Nat → Value, vc P H y Q (ziw (zbl x) a.tmps.toList (zd3 H.js (zai y)) g vs) h') fun h' => ?_) fun a1 w1 hU => ?_
     · exact zmy _ (fun vs h' => ∀ g : Nat → Value, vc P H y Q (ziw (zbl x) a.tmps.toList (zd3 H.js (zai y)) g vs) h') h'
     · have h1 := app_mkI _ _ _ _ hU.2.2.2 (zd0 a1.tmps.toList)
       rw [zji hU.2.2.1] at h1
       exact h1
 | cond c x y ihx ihy =>
   intro Q a w hh hd
   simp only [vc] at hh
   unfold bcase at hh
   split at hh
   · rename_i b hb
     refine wp_cond (t := b) (by rw [za0]; exact hb) ?_
     have hmx : ∀ i ∈ zbl x, i ∈ zbl (.cond c x y) := fun i hi => by simp only [zbl, List.mem_append]; exact .inl hi
     have hmy : ∀ i ∈ zbl y, i ∈ zbl (.cond c x y) := fun i hi => by simp only [zbl, List.mem_append]; exact .inr hi
     cases b
     · exact wp_mono (ihy Q a w hh hd) fun e a' w' hq => by
        cases e <;> first | exact Up.mono hq hmy fun _ _ h => h | exact hq.elim
     · exact wp_mono (ihx Q a w hh hd) fun e a' w' hq => by
        cases e <;> first | exact Up.mono hq hmx fun _ _ h => h | exact hq.elim
   · exact hh.elim
 | block id c ih =>
   intro Q a w hh hd
   simp only [vc] at hh
   refine wp_block (wp_mono (ih _ a w hh hd) fun e a' w' hq => ?_)
   cases e with
   | normal => exact hq
   | exit j =>
     simp only [Exit.inBlock]
     by_cases hj : j = id
     · rw [if_pos hj]
       exact Up.mono hq (fun _ h => h) fun t h hk => by simpa [blockQ, hj] using hk
     · rw [if_neg hj]
       have hb : Nat.beq j id = false := by
        cases h : Nat.beq j id with
        | false => rfl
        | true => exact absurd (Nat.eq_of_beq_eq_true h) hj
       exact Up.mono hq (fun _ h => h) fun t h hk => by simpa [blockQ, hb] using hk
   | ret => exact hq
   | _ => exact hq.elim
 | loop c ih =>
   intro Q a w hh hd
   simp only [vc] at hh
   obtain ⟨I, m, h0, hr⟩ := hh
   refine wp_loop (fun a' w' => Up (zbl c) a.tmps.toList w (fun t h => app _ I (vals t (zd3 H.hs (zai c))) h) a' w')
    (fun a' w' => appM _ m (vals a'.tmps.toList (zd3 H.hs (zai c))) w'.heap) ⟨hd, .refl w, .refl _ _, h0⟩ fun a1 w1 hU => ?_
   have h1 := zib _ I _ _ (hr (zd0 a1.tmps.toList) w1.heap) _ hU.2.2.2
   rw [zji hU.2.2.1] at h1
   refine wp_mono (ih _ a1 w1 h1 hU.1) fun e a2 w2 hq => ?_
   cases e with
   | normal => exact ⟨Up.after hU (hq.mono (fun _ h => h) fun _ _ h => h.1) (fun _ h => h) fun _ h => h, hq.2.2.2.2⟩
   | exit id => exact Up.after hU hq (fun _ h => h) fun _ h => h
   | ret => exact Up.after hU hq (fun _ h => h) fun _ h => h
   | _ => exact hq.elim
 | exit id => intro Q a w hh hd; exact wp_exit ⟨hd, .refl w, .refl _ _, hh⟩
 | ret => intro Q a w hh hd; exact wp_ret ⟨hd, .refl w, .refl _ _, hh⟩
 | scope c ih =>
   intro Q a w hh hd
   refine wp_scope_straight (wp_mono (ih Q a w hh hd) fun e a' w' hq => ?_)
   cases e <;> first | exact hq | exact hq.elim
 | label l => intro Q a w hh hd; exact wp_label ⟨hd, .refl w, .refl _ _, hh⟩
 | _ => intro Q a w hh hd; exact hh.elim
def rvS (tmps : Array Value) : ResultVar → Sem Value
 | .tmp t => pure (tmps.getD t undef)
 | .cell a t => do loadVar t (← asAddr (tmps.getD a undef))
theorem zlk {t : List Value} {h : zab} {tmps : Array Value} (ht : tmps.toList = t) : ∀ {l : List ResultVar} {K : List Value → Prop}, resS P l t h K →
 ∃ vs, K vs ∧ ∀ w : World, w.heap = h → (l.mapM (rvS tmps)).run P w = .ok vs w
 | [], K, hh => ⟨[], hh, fun w _ => by simp⟩
 | .tmp i :: l, K, hh => by
   simp only [resS] at hh
   obtain ⟨vs, hK, hr⟩ := zlk ht hh
   refine ⟨_, hK, fun w hw => ?_⟩
   have he : tmps.getD i undef = zd0 t i := by rw [← ht, zg0]; simp [Array.getD_eq_getD_getElem?]
   have h1 : (rvS tmps (.tmp i)).run P w = .ok (zd0 t i) w := by rw [← he]; rfl
   simp only [List.mapM_cons, Sem.run_bind, h1, hr w hw, Result.andThen_ok]
   rfl
 | .cell i T :: l, K, hh => by
   simp only [resS] at hh
   split at hh
   · rename_i a ha
     obtain ⟨b, o, v, rfl, h1, h2⟩ := zod hh
     obtain ⟨vs, hK, hr⟩ := zlk ht h1
     refine ⟨_, hK, fun w hw => ?_⟩
     have he : tmps.getD i undef = .pointer (some ⟨b, o, none⟩) := by rw [← ha, ← ht, zg0]; simp [Array.getD_eq_getD_getElem?]
     have h3 : (rvS tmps (.cell i T)).run P w = .ok v w := by
      show Sem.run P (do loadVar T (← asAddr (tmps.getD i undef))) w = _
      rw [he]
      simp only [asAddr, Sem.run_bind, Sem.run_pure, Result.andThen_ok, h2 w hw]
     simp only [List.mapM_cons, Sem.run_bind, h3, hr w hw, Result.andThen_ok]
     rfl
   · exact hh.elim
theorem one_spec (vs : List Value) : (if h : vs.toArray.size = 1 then vs.toArray[0] else .tuple vs.toArray) = one vs := by
 match vs with
 | [] => rfl
 | [v] => rfl
 | v :: u :: vs => rw [dif_neg (by simp)]; rfl
theorem zgv {fn : Func} {t : List Value} {h : zab} {tmps : Array Value} (ht : tmps.toList = t) {R : Value → zab → Prop} (hh : resS P fn.results.toList t h fun vs => R (one vs) h) :
 ∃ v, R v h ∧ ∀ w : World, w.heap = h → (results fn tmps).run P w = .ok v w := by
 obtain ⟨vs, hK, hr⟩ := zlk ht hh
 refine ⟨_, hK, fun w hw => ?_⟩
 have hf : results fn tmps = (fn.results.mapM (rvS tmps) >>= fun vs => pure (if h : vs.size = 1 then vs[0] else .tuple vs)) := by
  unfold results
  refine congrArg (· >>= _) (congrArg (Array.mapM · fn.results) (funext fun x => ?_))
  cases x <;> rfl
 have : (fn.results.mapM (rvS tmps)).run P w = .ok vs.toArray w := by
  rw [Array.mapM_eq_mapM_toList, Sem.run_map, hr w hw]; rfl
 rw [hf, Sem.run_bind]
 rw [this]
 show Sem.run P (pure (if h : vs.toArray.size = 1 then vs.toArray[0] else .tuple vs.toArray)) w = _
 rw [one_spec]
 rfl
theorem fun_sound {f : FuncId} {fn : Func} (hmix : P.follows .mixedOrders = true) (hf : P.funcs[f]? = some fn) (hn : (fn.name == "runtime.NumGoroutine") = false) {H : Hn} {args : List Value} {h : zab} {R : Value → zab → Prop}
 (hh : vcFun P H fn args h R) : Run P f args h R := by
 unfold vcFun at hh
 split at hh
 · exact hh.elim
 · rename_i c hc
   refine ⟨⟨fn, hf, hn, by simp [hc]⟩, fun w hw => ?_⟩
   subst hw
   refine calls_of_wp hf hc ?_
   have hl : (args.toArray ++ Array.replicate (fn.ntmps - args.toArray.size) undef : Array Value).toList = args ++ List.replicate (fn.ntmps - args.length) undef := by simp
   refine wp_mono (vc_sound hmix c _ { tmps := args.toArray ++ Array.replicate (fn.ntmps - args.toArray.size) undef, defers := [] } w (by rw [hl]; exact hh) rfl) fun e a' w' hq => ?_
   cases e with
   | normal =>
     obtain ⟨v, hR, hr⟩ := zgv rfl hq.2.2.2
     exact ⟨hq.1, v, hr w' rfl, v, rfl, hR, hq.2.1⟩
   | ret =>
     obtain ⟨v, hR, hr⟩ := zgv rfl hq.2.2.2
     exact ⟨hq.1, v, hr w' rfl, v, rfl, hR, hq.2.1⟩
   | exit id => exact hq.2.2.2.elim
   | _ => exact hq.elim
theorem zap {V : Prop} {f : FuncId} {fn : Func} (hmix : P.follows .mixedOrders = true) (hf : P.funcs[f]? = some fn) (hn : (fn.name == "runtime.NumGoroutine") = false) {H : Hn} {args : List Value} {h : zab} {R : Value → zab → Prop}
 (hV : V = vcFun P H fn args h R) (hh : V) : Run P f args h R :=
 fun_sound hmix hf hn (hV ▸ hh)
end
def i64 (x : Int) : Prop := -9223372036854775808 ≤ x ∧ x ≤ 9223372036854775807
theorem w64 {x : Int} (h1 : -9223372036854775808 ≤ x) (h2 : x ≤ 9223372036854775807) : IntKind.wrap .i64 x = x := by
 have hb : (2 ^ IntKind.i64.bits : Int) = 18446744073709551616 := by decide
 have hb1 : (2 ^ (IntKind.i64.bits - 1) : Int) = 9223372036854775808 := by decide
 simp only [IntKind.wrap, IntKind.signed, hb, hb1, Bool.true_and, decide_eq_true_eq, ge_iff_le]
 split <;> omega
theorem w64n {n : Nat} (h : n < 9223372036854775807) : IntKind.wrap .i64 ((n : Int) + 1) = ((n + 1 : Nat) : Int) := by
 rw [w64 (by omega) (by omega)]; omega
theorem cIf {p : Prop} [Decidable p] {A B : Prop} (h1 : p → A) (h2 : ¬ p → B) : cond (decide p) A B := by
 by_cases h : p
 · rw [decide_eq_true h]; exact h1 h
 · rw [decide_eq_false h]; exact h2 h
theorem cEq {a b : Int} {A B : Prop} (h1 : a = b → A) (h2 : a ≠ b → B) : cond (a == b) A B := by
 by_cases h : a = b
 · rw [beq_iff_eq.2 h]; exact h1 h
 · rw [beq_eq_false_iff_ne.2 h]; exact h2 h
theorem cNe {a b : Int} {A B : Prop} (h1 : a ≠ b → A) (h2 : a = b → B) : cond (a != b) A B := by
 by_cases h : a = b
 · have : (a != b) = false := by simp [h]
   rw [this]; exact h2 h
 · have : (a != b) = true := by simpa using h
   rw [this]; exact h1 h
theorem zjm {b : Bool} {A B : Prop} (h : cond b B A) : cond (!b) A B := by cases b <;> exact h
theorem cB {b : Bool} {A B : Prop} (h1 : b = true → A) (h2 : b = false → B) : cond b A B := by cases b; exact h2 rfl; exact h1 rfl
structure KB (F : List Nat) (h h' : zab) : Prop where
 size : h.size ≤ h'.size
 blk : ∀ b, b < h.size → b ∉ F → h'[b]? = h[b]?
abbrev zg8 (h h' : zab) : Prop := KB [] h h'
theorem KB.refl (F : List Nat) (h : zab) : KB F h h := ⟨Nat.le_refl _, fun _ _ _ => rfl⟩
theorem KB.trans {F : List Nat} {a b c : zab} (h : KB F a b) (k : KB F b c) : KB F a c :=
 ⟨Nat.le_trans h.size k.size, fun x hx hf => (k.blk x (Nat.lt_of_lt_of_le hx h.size) hf).trans (h.blk x hx hf)⟩
theorem KB.mono {F G : List Nat} {a b : zab} (h : KB F a b) (hs : ∀ x, x ∈ F → x < a.size → x ∈ G) : KB G a b :=
 ⟨h.size, fun x hx hf => h.blk x hx fun hm => hf (hs x hm hx)⟩
theorem KB.keep {F : List Nat} {a b : zab} (h : KB F a b) (hs : ∀ x, x ∈ F → a.size ≤ x) : zg8 a b :=
 h.mono fun x hx hl => absurd (hs x hx) (by omega)
theorem KB.of_keep {F : List Nat} {a b : zab} (h : zg8 a b) : KB F a b := ⟨h.size, fun x hx _ => h.blk x hx (by simp)⟩
theorem KB.push (F : List Nat) (h : zab) (o : Obj) : KB F h (h.push o) :=
 ⟨by simp, fun b hb _ => by rw [Array.getElem?_push, if_neg (by omega)]⟩
theorem zj4 (h : zab) (o : Obj) : (h.push o)[h.size]? = some o := by simp
theorem hset_size (h : zab) (a : Addr) (v : Value) : (hset h a v).size = h.size := by simp [hset]
theorem hset_get_ne (h : zab) (a : Addr) (v : Value) {b : Nat} (hb : b ≠ a.block) : (hset h a v)[b]? = h[b]? := by
 simp only [hset, Array.getElem?_modify]
 rw [if_neg (by omega)]
theorem hset_get (h : zab) {b o : Nat} (v : Value) {c : Array Value} {e : TypeId} {f : Nat × Nat} (hb : h[b]? = some (.cells c e f)) : (hset h ⟨b, o, none⟩ v)[b]? = some (.cells (c.setIfInBounds o v) e f) := by
 simp only [hset, Array.getElem?_modify]
 simp [hb]
theorem KB.hset {F : List Nat} {h : zab} {a : Addr} {v : Value} (hb : a.block ∈ F) : KB F h (hset h a v) :=
 ⟨by rw [hset_size]; exact Nat.le_refl _, fun b _ hf => hset_get_ne h a v fun e => hf (e ▸ hb)⟩
theorem zaz {h : zab} {b : Nat} {o : Obj} (hb : h[b]? = some o) : b < h.size := (Array.getElem?_eq_some_iff.1 hb).1
theorem KB.get {F : List Nat} {h h' : zab} (k : KB F h h') {b : Nat} {o : Obj} (hb : h[b]? = some o) (hf : b ∉ F) : h'[b]? = some o := by
 rw [k.blk b (zaz hb) hf]; exact hb
theorem hcell_blk {h h' : zab} {b : Nat} (hb : h'[b]? = h[b]?) (o : Nat) : hcell h' ⟨b, o, none⟩ = hcell h ⟨b, o, none⟩ := by unfold hcell; simp only [hb]
theorem hcell_lt {h : zab} {b o : Nat} {v : Value} (hv : hcell h ⟨b, o, none⟩ = some v) : b < h.size := by
 unfold hcell at hv
 cases hb : h[b]? with
 | none => simp [hb] at hv
 | some x => exact zaz hb
theorem KB.cell {F : List Nat} {h h' : zab} (k : KB F h h') {b o : Nat} {v : Value} (hv : hcell h ⟨b, o, none⟩ = some v) (hf : b ∉ F) : hcell h' ⟨b, o, none⟩ = some v := by
 rw [hcell_blk (k.blk b (hcell_lt hv) hf)]; exact hv
theorem zao {h : zab} {b : Nat} {c : Array Value} {e : TypeId} {f : Nat × Nat} (hb : h[b]? = some (.cells c e f)) (o : Nat) : hcell h ⟨b, o, none⟩ = c[o]? := by
 unfold hcell; simp [hb]
theorem hfroz_of {h : zab} {b : Nat} {c : Array Value} {e : TypeId} (hb : h[b]? = some (.cells c e (0, 0))) (o : Nat) : hfroz h ⟨b, o, none⟩ = false := by
 unfold hfroz; simp [hb]
theorem zcn {h : zab} {o : Obj} {K : Nat → zab → Prop} (hK : ∀ h1 : zab, h1[h.size]? = some o → KB [] h h1 → h1.size = h.size + 1 → K h.size h1) : zhx h o K :=
 hK _ (zj4 h o) (.push _ h o) (by simp)
theorem stK_blk {h : zab} {b o : Nat} {v : Value} {K : zab → Prop} {c : Array Value} {e : TypeId} (hb : h[b]? = some (.cells c e (0, 0))) (ho : o < c.size) (hv : single v = true)
 (hK : ∀ h' : zab, h'[b]? = some (.cells (c.setIfInBounds o v) e (0, 0)) → KB [b] h h' → h'.size = h.size → K h') : stK h ⟨b, o, none⟩ v K :=
 ⟨hv, ⟨c[o], by rw [zao hb]; simp [ho]⟩, hfroz_of hb o, hK _ (hset_get h v hb) (.hset (by simp)) (hset_size _ _ _)⟩
theorem zf8 {b : Nat} {e : TypeId} : ∀ {vs : List Value} {o i : Nat} {h : zab} {K : zab → Prop} {l : List Value}, h[b]? = some (.cells l.toArray e (0, 0)) → o + i + vs.length ≤ l.length → (∀ v ∈ vs, single v = true) →
 (∀ h' : zab, h'[b]? = some (.cells (zar l (o + i) vs).toArray e (0, 0)) → KB [b] h h' → h'.size = h.size → K h') → zc2 b o vs i h K
 | [], o, i, h, K, l, hb, _, _, hK => hK h (by rw [zbu]; exact hb) (.refl _ _) rfl
 | v :: vs, o, i, h, K, l, hb, hl, hv, hK => by
   simp only [List.length_cons] at hl
   show stK h ⟨b, addO o i, none⟩ v _
   rw [zdw]
   refine stK_blk hb (by simp; omega) (hv v (by simp)) fun h1 h1b k1 s1 => ?_
   refine zf8 (e := e) (l := l.set (o + i) v) (by rw [h1b]; simp) (by simp; omega) (fun u hu => hv u (by simp [hu])) fun h2 h2b k2 s2 => ?_
   refine hK h2 ?_ (k1.trans k2) (s2.trans s1)
   rw [h2b, zev _ _ _ _ (by omega)]
   rfl
def SlOf {α : Type} (enc : α → List Value) (sz : Nat) (h : zab) (a : Option Addr) (n c : Nat) (xs : List α) : Prop :=
 xs.length = n ∧ n ≤ c ∧ ∀ i x, xs[i]? = some x → ∃ b o, a = some ⟨b, o, none⟩ ∧ ∀ j v, (enc x)[j]? = some v → hcell h ⟨b, o + i * sz + j, none⟩ = some v
theorem SlOf.nil {α : Type} (enc : α → List Value) (sz : Nat) (h : zab) (c : Nat) (a : Option Addr) : SlOf enc sz h a 0 c [] := ⟨rfl, Nat.zero_le _, fun i x hx => by simp at hx⟩
theorem SlOf.keep {α : Type} {enc : α → List Value} {sz : Nat} {h h' : zab} {a : Option Addr} {n c : Nat} {xs : List α} (s : SlOf enc sz h a n c xs) (k : zg8 h h') : SlOf enc sz h' a n c xs :=
 ⟨s.1, s.2.1, fun i x hx => let ⟨b, o, ha, hc⟩ := s.2.2 i x hx; ⟨b, o, ha, fun j v hv => k.cell (hc j v hv) (by simp)⟩⟩
theorem SlOf.kb {α : Type} {enc : α → List Value} {sz : Nat} {h h' : zab} {a : Option Addr} {n c : Nat} {xs : List α} {F : List Nat} (s : SlOf enc sz h a n c xs) (k : KB F h h') (hd : ∀ b o, a = some ⟨b, o, none⟩ → b ∉ F) : SlOf enc sz h' a n c xs :=
 ⟨s.1, s.2.1, fun i x hx => let ⟨b, o, ha, hc⟩ := s.2.2 i x hx; ⟨b, o, ha, fun j v hv => k.cell (hc j v hv) (hd b o ha)⟩⟩
theorem SlOf.el {α : Type} {enc : α → List Value} {sz : Nat} {h : zab} {a : Option Addr} {n c : Nat} {xs : List α} (s : SlOf enc sz h a n c xs) {z : Int} {i : Nat} (hz : z = i) (hi : i < xs.length) {K : Nat → Nat → Prop}
 (hK : ∀ b o, (∀ j v, (enc xs[i])[j]? = some v → hcell h ⟨b, o + z.toNat * sz + j, none⟩ = some v) → K b o) : zbj a K := by
 obtain ⟨b, o, rfl, hc⟩ := s.2.2 i xs[i] (by simp [hi])
 subst hz
 exact hK b o (by simpa using hc)
def OwnS (B : Nat) (e : TypeId) (sz : Nat) (h : zab) (a : Option Addr) (n c : Nat) (cs : List Value) : Prop :=
 (a = none ∧ n = 0 ∧ c = 0 ∧ cs = []) ∨ ∃ (b : Nat) (l : Array Value), a = some ⟨b, 0, none⟩ ∧ B ≤ b ∧ h[b]? = some (.cells l e (0, 0)) ∧ l.size = c * sz ∧ n ≤ c ∧ cs.length = n * sz ∧ ∀ (j : Nat) (v : Value), cs[j]? = some v → l[j]? = some v
theorem OwnS.nil (B : Nat) (e : TypeId) (sz : Nat) (h : zab) : OwnS B e sz h none 0 0 [] := .inl ⟨rfl, rfl, rfl, rfl⟩
theorem OwnS.kb {B : Nat} {e : TypeId} {sz : Nat} {h h' : zab} {a : Option Addr} {n c : Nat} {cs : List Value} {F : List Nat} (s : OwnS B e sz h a n c cs) (k : KB F h h') (hd : ∀ b o, a = some ⟨b, o, none⟩ → b ∉ F) : OwnS B e sz h' a n c cs := by
 rcases s with s | ⟨b, l, rfl, h1, h2, h3⟩
 · exact .inl s
 · exact .inr ⟨b, l, rfl, h1, k.get h2 (hd b 0 rfl), h3⟩
theorem OwnS.keep {B : Nat} {e : TypeId} {sz : Nat} {h h' : zab} {a : Option Addr} {n c : Nat} {cs : List Value} (s : OwnS B e sz h a n c cs) (k : zg8 h h') : OwnS B e sz h' a n c cs :=
 s.kb k fun _ _ _ => by simp
theorem OwnS.slOf {α : Type} {enc : α → List Value} {B : Nat} {e : TypeId} {sz : Nat} {h : zab} {a : Option Addr} {n c : Nat} {xs : List α} (he : ∀ x, (enc x).length = sz) (s : OwnS B e sz h a n c (xs.flatMap enc)) (hn : xs.length = n) : SlOf enc sz h a n c xs := by
 rcases s with ⟨rfl, rfl, rfl, hx⟩ | ⟨b, l, rfl, h1, h2, h3, h4, h5, h6⟩
 · have : xs = [] := List.eq_nil_of_length_eq_zero hn
   subst this; exact .nil _ _ _ _ _
 · refine ⟨hn, h4, fun i x hx => ⟨b, 0, rfl, fun j v hv => ?_⟩⟩
   rw [zao h2]
   refine h6 _ v ?_
   rw [Nat.zero_add]
   have key : ∀ (ys : List α) (i : Nat), ys[i]? = some x → (ys.flatMap enc)[i * sz + j]? = some v := by
    intro ys
    induction ys with
    | nil => intro i h; simp at h
    | cons y ys ih =>
      intro i hh
      rw [List.flatMap_cons]
      cases i with
      | zero =>
        simp at hh; subst hh
        have hj := (List.getElem?_eq_some_iff.1 hv).1
        rw [Nat.zero_mul, Nat.zero_add, List.getElem?_append_left hj]
        exact hv
      | succ i =>
        rw [List.getElem?_append_right (by rw [he]; rw [Nat.succ_mul]; omega)]
        rw [he, show (i + 1) * sz + j - sz = i * sz + j by rw [Nat.succ_mul]; omega]
        exact ih i (by simpa using hh)
   exact key xs i hx
section
variable {P : Program}
theorem zad {α β : Type} {s : Sem α} {f : α → Sem β} {h : zab} {K : β → zab → Prop} : SWp P s h (fun a h' => SWp P (f a) h' K) → SWp P (s >>= f) h K := SWp.bind
theorem zal {T : TypeId} {d : TypeDesc} (hd : P.underlying T = some d) {h : zab} {K : TypeDesc → zab → Prop} (hK : K d h) : SWp P (underlying T) h K := by
 show SWp P (match P.underlying T with | some d => pure d | none => stuck "no such type") h K
 rw [hd]; exact hK
theorem za4 {T : TypeId} {i : TypeInfo} (hi : P.info? T = some i) {h : zab} {K : TypeInfo → zab → Prop} (hK : K i h) : SWp P (typeInfo T) h K := by
 show SWp P (match P.info? T with | some i => pure i | none => stuck "no such type") h K
 rw [hi]; exact hK
theorem zdi {T : TypeId} {i : TypeInfo} (hi : P.info? T = some i) {h : zab} {K : Nat → zab → Prop} (hK : K i.size h) : SWp P (sizeOf T) h K :=
 zad (za4 hi hK)
theorem zid {T : TypeId} {i : TypeInfo} {z : Value} (hi : P.info? T = some i) (hz : i.zero = some z) {h : zab} {K : Value → zab → Prop} (hK : K z h) : SWp P (zeroValue T) h K := by
 refine zad (za4 hi ?_)
 rw [hz]; exact hK
theorem zcg {b o : Nat} {h : zab} : ∀ {vs : List Value} {i : Nat} {acc : Array Value} {K : Array Value → zab → Prop}, (∀ j v, vs[j]? = some v → hcell h ⟨b, o + (i + j), none⟩ = some v) → K (acc ++ vs.toArray) h →
 SWp P (loadCellsFrom ⟨b, o, none⟩ i vs.length acc) h K
 | [], i, acc, K, _, hK => by show K acc h; simpa using hK
 | v :: vs, i, acc, K, hc, hK => by
   show SWp P (load ((⟨b, o, none⟩ : Addr).add i) >>= fun v => loadCellsFrom ⟨b, o, none⟩ (i + 1) vs.length (acc.push v)) h K
   refine zad ⟨v, ?_, ?_⟩
   · rw [za3]; simpa using hc 0 v rfl
   · refine zcg (fun j u hu => ?_) (by simpa using hK)
     have := hc (j + 1) u (by simpa using hu)
     rw [show i + 1 + j = i + (j + 1) by omega]; exact this
theorem zd6 {b : Nat} {e : TypeId} {vs l : List Value} {o : Nat} {h : zab} {K : Unit → zab → Prop} (hb : h[b]? = some (.cells l.toArray e (0, 0))) (hl : o + vs.length ≤ l.length) (hv : ∀ v ∈ vs, single v = true)
 (hK : ∀ h' : zab, h'[b]? = some (.cells (zar l o vs).toArray e (0, 0)) → KB [b] h h' → h'.size = h.size → K () h') : SWp P (storeCells ⟨b, o, none⟩ vs) h K :=
 zbo (K := K ()) (zf8 (i := 0) hb (by omega) hv (by simpa using hK))
theorem zg6 {n : Nat} {h : zab} {K : Unit → zab → Prop} (hK : K () h) : SWp P (askRoom n) h K := by
 unfold askRoom
 split
 · exact hK
 · exact hK
def ownB (a : Option Addr) : List Nat :=
 match a with
 | some x => [x.block]
 | none => []
theorem za2 : ∀ (l : List Value) (o : Nat) (vs : List Value) (j : Nat), o + vs.length ≤ l.length → (zar l o vs)[j]? = if j < o then l[j]? else if j < o + vs.length then vs[j - o]? else l[j]?
 | l, o, [], j, _ => by
   rw [zbu]
   by_cases h1 : j < o
   · rw [if_pos h1]
   · rw [if_neg h1, if_neg (by simp only [List.length_nil]; omega)]
 | [], o, v :: vs, j, h => by simp at h
 | x :: l, 0, v :: vs, 0, _ => by simp [zar]
 | x :: l, 0, v :: vs, j + 1, h => by
   simp only [zar, List.getElem?_cons_succ, List.length_cons] at *
   rw [za2 l 0 vs j (by omega)]
   simp only [Nat.not_lt_zero, if_false, Nat.zero_add, Nat.sub_zero]
   by_cases hj : j < vs.length
   · rw [if_pos hj, if_pos (by omega)]; simp
   · rw [if_neg hj, if_neg (by omega)]
 | x :: l, o + 1, v :: vs, 0, _ => by simp [zar]
 | x :: l, o + 1, v :: vs, j + 1, h => by
   have hh : o + (v :: vs).length ≤ l.length := by simp only [List.length_cons] at *; omega
   simp only [zar, List.getElem?_cons_succ]
   rw [za2 l o (v :: vs) j hh]
   by_cases h1 : j < o
   · rw [if_pos h1, if_pos (show j + 1 < o + 1 by omega)]
   · rw [if_neg h1, if_neg (show ¬ j + 1 < o + 1 by omega)]
     by_cases h2 : j < o + (v :: vs).length
     · rw [if_pos h2, if_pos (by omega), show j + 1 - (o + 1) = j - o by omega]
     · rw [if_neg h2, if_neg (by omega)]
theorem growBy_le {n : Nat} : ∀ (r c : Nat), Builtin.growBy n r c ≤ c ∨ Builtin.growBy n r c ≤ n + (n + 768) / 4
 | 0, c => .inl (Nat.le_refl _)
 | r + 1, c => by
   unfold Builtin.growBy
   split
   · exact .inl (Nat.le_refl _)
   · rename_i h
     rcases growBy_le (n := n) r (c + (c + 768) / 4) with h1 | h1
     · exact .inr (by omega)
     · exact .inr h1
theorem zfm {n c : Nat} (h : c < n) : Builtin.nextslicecap n c ≤ 2 * n + 512 := by
 unfold Builtin.nextslicecap
 split
 · omega
 · split
   · omega
   · rcases growBy_le (n := n) 4 c with h1 | h1 <;> omega
theorem zqm {B : Nat} {T E : TypeId} {i : TypeInfo} {z : Value} {h : zab} {a : Option Addr} {n c m cx b2 o2 : Nat} {cs new : List Value} {K : Value → zab → Prop}
 (hu : P.underlying T = some (.slice E)) (hi : P.info? E = some i) (hz : i.zero = some z) (hzs : z.cells.size = i.size) (hb : i.bytes ≠ 0) (hown : OwnS B E i.size h a n c cs) (hB : B ≤ h.size)
 (hnew : ∀ j v, new[j]? = some v → hcell h ⟨b2, o2 + j, none⟩ = some v) (hlen : new.length = m * i.size) (hs : ∀ v ∈ new, single v = true) (hbd : (2 * (n + m) + 512) * i.bytes ≤ 281474976710656)
 (hK : ∀ (a' : Option Addr) (c' : Nat) (h' : zab), OwnS B E i.size h' a' (n + m) c' (cs ++ new) → KB (ownB a) h h' → (∀ b o, a' = some ⟨b, o, none⟩ → b ∈ ownB a ∨ h.size ≤ b) → K (.slice a' (n + m) c') h') :
 ze5 P #[T, T] T (.slice a n c) (.slice (some ⟨b2, o2, none⟩) m cx) h K := by
 unfold ze5
 have hfc : ∀ {K' : Array Value → zab → Prop}, K' new.toArray h → SWp P (Builtin.firstCells i.size m (.slice (some ⟨b2, o2, none⟩) m cx)) h K' := by
  intro K' hK'
  show SWp P (loadCells ⟨b2, o2, none⟩ (m * i.size)) h K'
  rw [← hlen]
  exact zcg (fun j v hv => by simpa using hnew j v hv) (by simpa using hK')
 show SWp P (underlying T >>= _) h K
 refine zad (zal hu ?_)
 refine zad (zdi hi ?_)
 refine zad (zad (zal hu ?_))
 refine zad ?_
 show SWp P (Builtin.lenOf (.slice (some ⟨b2, o2, none⟩) m cx) >>= _) h K
 refine zad ?_
 show SWp P (if n + m ≤ c then _ else _) h K
 by_cases hcap : n + m ≤ c
 · rw [if_pos hcap]
   refine zad (hfc ?_)
   rcases hown with ⟨rfl, rfl, rfl, rfl⟩ | ⟨b, l, rfl, h1, h2, h3, h4, h5, h6⟩
   · have hm : m = 0 := by omega
     subst hm
     have hn0 : new = [] := List.eq_nil_of_length_eq_zero (by simpa using hlen)
     subst hn0
     exact hK none 0 h (.nil _ _ _ _) (.refl _ _) fun b o hbo => by cases hbo
   · show SWp P (storeCells ((⟨b, 0, none⟩ : Addr).add (n * i.size)) new.toArray.toList >>= _) h K
     rw [za3, Nat.zero_add]
     have hsz : n * i.size + new.length ≤ l.toList.length := by
      rw [hlen, ← Nat.add_mul, Array.length_toList, h3]; exact Nat.mul_le_mul_right _ hcap
     refine zad (zd6 (l := l.toList) (by simpa using h2) (by simpa using hsz) hs fun h' h1b k1 s1 => ?_)
     refine hK (some ⟨b, 0, none⟩) c h' (.inr ⟨b, _, rfl, h1, h1b, ?_, hcap, ?_, ?_⟩) k1 fun b' o' hbo => .inl (by cases hbo; simp [ownB])
     · simp [zas, h3]
     · simp [h5, hlen, Nat.add_mul]
     · intro j v hv
       simp only [List.getElem?_toArray]
       rw [za2 _ _ _ _ hsz]
       by_cases hj : j < n * i.size
       · rw [if_pos hj]
         rw [List.getElem?_append_left (by omega)] at hv
         simpa using h6 j v hv
       · rw [if_neg hj]
         rw [List.getElem?_append_right (by omega), h5] at hv
         rw [if_pos (by have := (List.getElem?_eq_some_iff.1 hv).1; omega)]
         exact hv
 · rw [if_neg hcap]
   refine zad (za4 hi ?_)
   rw [if_neg (by rintro ⟨-, h1 | h1⟩; exact absurd h1 (by simp); exact hb h1)]
   refine zad ?_
   refine zad (za4 hi ?_)
   have hcap2 : ¬ Builtin.nextslicecap (n + m) c * i.bytes > 2 ^ 48 := by
    have h1 := zfm (n := n + m) (c := c) (by omega)
    have h2 := Nat.mul_le_mul_right i.bytes h1
    omega
   rw [if_neg hcap2]
   refine zad ?_
   refine ⟨fun hf => (by cases hf), fun _ t => ?_⟩
   have hge : n + m ≤ (Question.appendCap (n + m) c E).cut t := by simp [Question.cut]
   generalize (Question.appendCap (n + m) c E).cut t = c' at hge ⊢
   refine zad (za4 hi ?_)
   refine zad (zg6 ?_)
   have hold : ∀ {K' : Array Value → zab → Prop}, K' cs.toArray h → SWp P (Builtin.firstCells i.size n (.slice a n c)) h K' := by
    intro K' hK'
    rcases hown with ⟨rfl, rfl, rfl, rfl⟩ | ⟨b, l, rfl, h1, h2, h3, h4, h5, h6⟩
    · exact hK'
    · show SWp P (loadCells ⟨b, 0, none⟩ (n * i.size)) h K'
      rw [← h5]
      exact zcg (fun j v hv => by rw [zao h2, Nat.zero_add, Nat.zero_add]; exact h6 j v hv) (by simpa using hK')
   refine zad (hold ?_)
   refine zad ?_
   show SWp P (Builtin.firstCells i.size m (.slice (some ⟨b2, o2, none⟩) m cx)) h _
   refine hfc ?_
   refine zad (zid hi hz ?_)
   have hcn : cs.length = n * i.size := by
    rcases hown with ⟨rfl, rfl, rfl, rfl⟩ | ⟨b, l, rfl, h1, h2, h3, h4, h5, h6⟩
    · simp
    · exact h5
   refine hK (some ⟨h.size, 0, none⟩) c' (h.push (.cells (cs.toArray ++ new.toArray ++ Builtin.zeroCells z.cells (c' - (n + m))) E)) (.inr ⟨h.size, _, rfl, hB, zj4 _ _, ?_, hge, ?_, ?_⟩) (.push _ _ _) fun b o hbo => .inr (by cases hbo; exact Nat.le_refl _)
   · simp only [Array.size_append, List.size_toArray, Builtin.zeroCells, Array.size_map, Array.size_range, hcn, hlen, hzs]
     rw [← Nat.add_mul, ← Nat.add_mul, show n + m + (c' - (n + m)) = c' by omega]
   · simp [hcn, hlen, Nat.add_mul]
   · intro j v hv
     have hj := (List.getElem?_eq_some_iff.1 hv).1
     rw [Array.getElem?_append_left (by simpa using hj)]
     simpa using hv
end
section
abbrev zac := List (Nat × Obj)
abbrev Fz := Nat → Option Obj
def Le (D D' : Fz) : Prop := ∀ b o, D b = some o → D' b = some o
theorem Le.refl (D : Fz) : Le D D := fun _ _ h => h
theorem Le.trans {A B C : Fz} (h : Le A B) (k : Le B C) : Le A C := fun b o x => k b o (h b o x)
def ids (C : List zac) : List Nat := C.flatten.map (·.1)
structure St (D : Fz) (C : List zac) (h : zab) : Prop where
 nd : (ids C).Nodup
 own : ∀ p ∈ C.flatten, h[p.1]? = some p.2
 fz : ∀ b o, D b = some o → h[b]? = some o ∧ b ∉ ids C
variable {D D' : Fz} {C : List zac} {h h' : zab}
theorem St.perm {C' : List zac} (S : St D C h) (p : C.flatten.Perm C'.flatten) : St D C' h where
 nd := (p.map _).nodup_iff.1 S.nd
 own q hq := S.own q (p.mem_iff.2 hq)
 fz b o hb := ⟨(S.fz b o hb).1, fun hm => (S.fz b o hb).2 ((p.map _).mem_iff.2 hm)⟩
theorem zlq {α : Type} : ∀ {C : List (List α)} {i : Nat} {c : List α}, C[i]? = some c → C.flatten.Perm (c :: C.eraseIdx i).flatten
 | [], i, c, h => by simp at h
 | x :: C, 0, c, h => by simp at h; subst h; exact .refl _
 | x :: C, i + 1, c, h => by
   have := zlq (C := C) (i := i) (c := c) (by simpa using h)
   simp only [List.flatten_cons, List.eraseIdx_cons_succ] at this ⊢
   refine (this.append_left x).trans ?_
   rw [← List.append_assoc, ← List.append_assoc]
   exact List.perm_append_comm.append_right _
theorem St.pick (S : St D C h) (i : Nat) {c : zac} (hi : C[i]? = some c) : St D (c :: C.eraseIdx i) h := S.perm (zlq hi)
theorem St.drop {c : zac} (S : St D (c :: C) h) : St D C h where
 nd := by have := S.nd; simp only [ids, List.flatten_cons, List.map_append, List.nodup_append] at this; exact this.2.1
 own p hp := S.own p (by simp only [List.flatten_cons, List.mem_append]; exact .inr hp)
 fz b o hb := ⟨(S.fz b o hb).1, fun hm => (S.fz b o hb).2 (by simp only [ids, List.flatten_cons, List.map_append, List.mem_append]; exact .inr hm)⟩
theorem St.get {c : zac} {b : Nat} {o : Obj} (S : St D (c :: C) h) (hm : (b, o) ∈ c) : h[b]? = some o := S.own (b, o) (by simp [hm])
theorem St.upd {c c' : zac} (S : St D (c :: C) h) (k : KB (c.map (·.1)) h h') (hc : ∀ p ∈ c', h'[p.1]? = some p.2) (hn : (c'.map (·.1)).Nodup)
 (hi : ∀ p ∈ c', p.1 ∈ c.map (·.1) ∨ h.size ≤ p.1) : St D (c' :: C) h' := by
 have hnd := S.nd
 simp only [ids, List.flatten_cons, List.map_append, List.nodup_append] at hnd
 obtain ⟨h1, h2, h3⟩ := hnd
 have hlt : ∀ p ∈ C.flatten, p.1 < h.size := fun p hp => zaz (S.own p (by simp only [List.flatten_cons, List.mem_append]; exact .inr hp))
 have hout : ∀ p ∈ C.flatten, p.1 ∉ c.map (·.1) := fun p hp hm => h3 _ hm _ (List.mem_map.2 ⟨p, hp, rfl⟩) rfl
 refine ⟨?_, ?_, ?_⟩
 · simp only [ids, List.flatten_cons, List.map_append, List.nodup_append]
   refine ⟨hn, h2, fun x hx y hy e => ?_⟩
   subst e
   obtain ⟨p, hp, rfl⟩ := List.mem_map.1 hx
   obtain ⟨q, hq, he⟩ := List.mem_map.1 hy
   have := hlt q hq
   rcases hi p hp with hm | hm
   · exact hout q hq (he ▸ hm)
   · omega
 · intro p hp
   simp only [List.flatten_cons, List.mem_append] at hp
   rcases hp with hp | hp
   · exact hc p hp
   · exact k.get (S.own p (by simp only [List.flatten_cons, List.mem_append]; exact .inr hp)) (hout p hp)
 · intro b o hb
   obtain ⟨g1, g2⟩ := S.fz b o hb
   simp only [ids, List.flatten_cons, List.map_append, List.mem_append, not_or] at g2 ⊢
   refine ⟨k.get g1 g2.1, fun hm => ?_, g2.2⟩
   obtain ⟨p, hp, rfl⟩ := List.mem_map.1 hm
   rcases hi p hp with hm | hm
   · exact g2.1 hm
   · have := zaz g1; omega
theorem St.nil (S : St D C h) : St D ([] :: C) h := ⟨S.nd, S.own, S.fz⟩
theorem St.keep (S : St D C h) (k : zg8 h h') : St D C h' := (S.nil.upd (c' := []) (k.mono fun x hx => by simp at hx) (by simp) (by simp) (by simp)).drop
theorem St.new {o : Obj} {K : Nat → zab → Prop} (S : St D C h) (hK : ∀ (b : Nat) (h1 : zab), St D ([(b, o)] :: C) h1 → K b h1) : zhx h o K :=
 zcn fun h1 hb k s => hK _ h1 (S.nil.upd (k.mono fun x hx => by simp at hx) (by simpa using hb) (by simp) (by simp))
theorem St.freeze {c : zac} (S : St D (c :: C) h) : ∃ D', Le D D' ∧ (∀ p ∈ c, D' p.1 = some p.2) ∧ St D' C h := by
 have hnd := S.nd
 simp only [ids, List.flatten_cons, List.map_append, List.nodup_append] at hnd
 obtain ⟨h1, h2, h3⟩ := hnd
 have key : ∀ p ∈ c, ∀ q ∈ c, p.1 = q.1 → p = q := fun p hp q hq e => by
  have hp' := S.own p (by simp [hp])
  have hq' := S.own q (by simp [hq])
  rw [e, hq'] at hp'
  exact Prod.ext e (Option.some.inj hp').symm
 refine ⟨fun b => match c.find? (fun p => p.1 == b) with | some p => some p.2 | none => D b, fun b o hb => ?_, fun p hp => ?_, S.drop.nd, S.drop.own, fun b o hb => ?_⟩
 · have : c.find? (fun p => p.1 == b) = none := by
    rw [List.find?_eq_none]
    intro p hp he
    simp only [beq_iff_eq] at he
    exact (S.fz b o hb).2 (by simp only [ids, List.flatten_cons, List.map_append, List.mem_append]; exact .inl (List.mem_map.2 ⟨p, hp, he⟩))
   simp only [this]; exact hb
 · cases hf : c.find? (fun q => q.1 == p.1) with
   | none => rw [List.find?_eq_none] at hf; exact absurd (by simp) (hf p hp)
   | some q =>
     have h1 := List.mem_of_find?_eq_some hf
     have h2 := List.find?_some hf
     simp only [beq_iff_eq] at h2
     have := key q h1 p hp h2
     subst this
     simp only [hf]
 · cases hf : c.find? (fun q => q.1 == b) with
   | none => rw [hf] at hb; exact ⟨(S.drop.fz b o hb).1, (S.drop.fz b o hb).2⟩
   | some q =>
     rw [hf] at hb
     have h1 := List.mem_of_find?_eq_some hf
     have h2' := List.find?_some hf
     simp only [beq_iff_eq] at h2'
     cases hb
     refine ⟨h2' ▸ S.own q (by simp [h1]), fun hm => ?_⟩
     exact h3 b (List.mem_map.2 ⟨q, h1, h2'⟩) b hm rfl
def arr (is : List Nat) (C : List zac) : List zac := is.map (fun i => C.getD i []) ++ C.drop is.length
theorem zeb {b o : Nat} {K : Nat → Nat → Prop} (h : K b o) : zbj (some ⟨b, o, .none⟩) K := h
section
variable {b o : Nat} {c : Array Value} {T : TypeId} {f : Nat × Nat} {c0 c1 c2 c3 c4 c5 : zac}
theorem St.ld0 (S : St D ([(b, .cells c T f)] :: C) h) : hcell h ⟨b, o, .none⟩ = c[o]? := zao (S.get (List.mem_singleton_self _)) o
end
section
variable {b : Nat} {T : TypeId} {l : List Value} {c0 c1 c2 c3 c4 c5 : zac}
theorem St.swap {c0 c1 : zac} (S : St D (c0 :: c1 :: C) h) : St D (c1 :: c0 :: C) h := S.pick 1 rfl
theorem St.st0 {vs : List Value} {o i : Nat} {K : zab → Prop} (S : St D ([(b, .cells ⟨l⟩ T (0, 0))] :: C) h) (hl : Nat.ble (o + i + vs.length) l.length = true) (hv : vs.all single = true)
 (hK : ∀ h', St D ([(b, .cells ⟨zar l (o + i) vs⟩ T (0, 0))] :: C) h' → K h') : zc2 b o vs i h K :=
 zf8 (l := l) (e := T) (S.get (List.mem_singleton_self _)) (Nat.le_of_ble_eq_true hl) (List.all_eq_true.1 hv) fun h' hb k s => hK h' (S.upd (by simpa using k) (by simpa using hb) (by simp) (by simp))
theorem St.sk0 {v : Value} {o : Nat} {K : zab → Prop} (S : St D ([(b, .cells ⟨l⟩ T (0, 0))] :: C) h) (hl : Nat.ble (o + 1) l.length = true) (hv : single v = true)
 (hK : ∀ h', St D ([(b, .cells ⟨l.set o v⟩ T (0, 0))] :: C) h' → K h') : stK h ⟨b, o, .none⟩ v K :=
 stK_blk (S.get (List.mem_singleton_self _)) (by have := Nat.le_of_ble_eq_true hl; simp only [List.size_toArray]; omega) hv fun h' hb k s => hK h' (S.upd (by simpa using k) (by simpa using hb) (by simp) (by simp))
theorem St.sk1 {v : Value} {o : Nat} {K : zab → Prop} (S : St D (c0 :: [(b, .cells ⟨l⟩ T (0, 0))] :: C) h) (hl : Nat.ble (o + 1) l.length = true) (hv : single v = true)
 (hK : ∀ h', St D (c0 :: [(b, .cells ⟨l.set o v⟩ T (0, 0))] :: C) h' → K h') : stK h ⟨b, o, .none⟩ v K :=
 (S.pick 1 rfl).sk0 hl hv fun h' S' => hK h' (S'.pick 1 rfl)
end
inductive U where
 | i (k : IntKind) (n : Int)
 | b (c : Bool)
 | s (x : ByteArray)
 | l (sz : Nat) (rows : List (List U))
 | p (o : Option (List U))
abbrev U.n (x : Int) : U := .i .i64 x
inductive Rd (D : Fz) : Value → U → Prop
 | int (k : IntKind) (n : Int) : Rd D (.int k n) (.i k n)
 | bool (c : Bool) : Rd D (.bool c) (.b c)
 | str (x : ByteArray) : Rd D (.string x) (.s x)
 | nil (a : Option Addr) (c sz : Nat) : Rd D (.slice a 0 c) (.l sz [])
 | pn : Rd D (.pointer none) (.p none)
 | pp (b o : Nat) (arr : Array Value) (T : TypeId) (f : Nat × Nat) (us : List U) (v : Nat → Value) : D b = some (.cells arr T f) → (∀ j u, us[j]? = some u → arr[o + j]? = some (v j)) → (∀ j u, us[j]? = some u → Rd D (v j) u) →
  Rd D (.pointer (some ⟨b, o, none⟩)) (.p (some us))
 | row (b o c : Nat) (arr : Array Value) (T : TypeId) (f : Nat × Nat) (rows : List (List U)) (sz : Nat) (v : Nat → Nat → Value) : D b = some (.cells arr T f) → rows.length ≤ c → (∀ r ∈ rows, r.length = sz) →
  (∀ i j r u, rows[i]? = some r → r[j]? = some u → arr[o + i * sz + j]? = some (v i j)) → (∀ i j r u, rows[i]? = some r → r[j]? = some u → Rd D (v i j) u) →
  Rd D (.slice (some ⟨b, o, none⟩) rows.length c) (.l sz rows)
theorem Rd.mono {v : Value} {u : U} (hr : Rd D v u) (l : Le D D') : Rd D' v u := by
 induction hr with
 | int k n => exact .int k n
 | bool c => exact .bool c
 | str x => exact .str x
 | nil a c sz => exact .nil a c sz
 | pn => exact .pn
 | pp b o arr T f us v h1 h2 h3 ih => exact .pp b o arr T f us v (l _ _ h1) h2 ih
 | row b o c arr T f rows sz v h1 h2 h3 h4 h5 ih => exact .row b o c arr T f rows sz v (l _ _ h1) h2 h3 h4 ih
theorem Rd.int_iff {v : Value} {k : IntKind} {n : Int} : Rd D v (.i k n) ↔ v = .int k n := ⟨fun h => by cases h; rfl, fun h => h ▸ .int k n⟩
theorem Rd.bool_iff {v : Value} {c : Bool} : Rd D v (.b c) ↔ v = .bool c := ⟨fun h => by cases h; rfl, fun h => h ▸ .bool c⟩
theorem Rd.str_iff {v : Value} {x : ByteArray} : Rd D v (.s x) ↔ v = .string x := ⟨fun h => by cases h; rfl, fun h => h ▸ .str x⟩
theorem Rd.shape {v : Value} {sz : Nat} {rows : List (List U)} (h : Rd D v (.l sz rows)) : ∃ a c, v = .slice a rows.length c ∧ rows.length ≤ c ∧ ∀ r ∈ rows, r.length = sz := by
 cases h with
 | nil a c => exact ⟨a, c, rfl, by simp, by simp⟩
 | row b o c arr T f rows sz v h1 h2 h3 h4 h5 => exact ⟨_, _, rfl, h2, h3⟩
theorem Rd.len {a : Option Addr} {n c sz : Nat} {rows : List (List U)} (h : Rd D (.slice a n c) (.l sz rows)) : n = rows.length ∧ n ≤ c := by
 obtain ⟨a', c', e, hl, -⟩ := h.shape; cases e; exact ⟨rfl, hl⟩
inductive RdL (D : Fz) : List Value → List U → Prop
 | nil : RdL D [] []
 | cons {v : Value} {u : U} {vs : List Value} {us : List U} : Rd D v u → RdL D vs us → RdL D (v :: vs) (u :: us)
theorem RdL.nil_iff {vs : List Value} : RdL D vs [] ↔ vs = [] := ⟨fun h => by cases h; rfl, fun h => h ▸ .nil⟩
theorem RdL.cons_iff {vs : List Value} {u : U} {us : List U} : RdL D vs (u :: us) ↔ ∃ v vs', vs = v :: vs' ∧ Rd D v u ∧ RdL D vs' us :=
 ⟨fun h => by cases h with | cons a b => exact ⟨_, _, rfl, a, b⟩, fun ⟨v, vs', e, a, b⟩ => e ▸ .cons a b⟩
theorem RdL.mono {vs : List Value} {us : List U} (hr : RdL D vs us) (l : Le D D') : RdL D' vs us := by
 induction hr with
 | nil => exact .nil
 | cons a _ ih => exact .cons (a.mono l) ih
theorem RdL.len {vs : List Value} {us : List U} (hr : RdL D vs us) : vs.length = us.length := by
 induction hr with
 | nil => rfl
 | cons a _ ih => simp [ih]
theorem RdL.of_get {us : List U} (f : Nat → Value) (h : ∀ j u, us[j]? = some u → Rd D (f j) u) : RdL D ((List.range us.length).map f) us := by
 induction us generalizing f with
 | nil => exact .nil
 | cons u us ih =>
   rw [List.length_cons, List.range_succ_eq_map, List.map_cons, List.map_map]
   exact .cons (h 0 u rfl) (ih (f ∘ Nat.succ) fun j w hw => h (j + 1) w (by simpa using hw))
theorem RdL.get {vs : List Value} {us : List U} (hr : RdL D vs us) : ∀ {j : Nat} {u : U}, us[j]? = some u → ∃ v, vs[j]? = some v ∧ Rd D v u := by
 induction hr with
 | nil => intro j u h; simp at h
 | cons a _ ih =>
   intro j u h
   cases j with
   | zero => simp at h; subst h; exact ⟨_, rfl, a⟩
   | succ j => simpa using ih (by simpa using h)
theorem Rd.at {a : Option Addr} {n c sz i : Nat} {rows : List (List U)} {r : List U} (hx : Rd D (.slice a n c) (.l sz rows)) (hi : rows[i]? = some r) :
 ∃ b o, a = some ⟨b, o, none⟩ ∧ Rd D (.pointer (some ⟨b, o + i * sz, none⟩)) (.p (some r)) ∧ r.length = sz := by
 cases hx with
 | nil => simp at hi
 | row b o c arr T f rows sz v h1 h2 h3 h4 h5 =>
   exact ⟨b, o, rfl, .pp b _ arr T f r (v i) h1 (fun j u hu => h4 i j r u hi hu) fun j u hu => h5 i j r u hi hu, h3 r (List.mem_of_getElem? hi)⟩
inductive Own (D : Fz) (T : TypeId) (sz : Nat) : Option Addr → Nat → List (List U) → zac → Prop
 | nil : Own D T sz none 0 [] []
 | row (b c : Nat) (arr : Array Value) (rows : List (List U)) (v : Nat → Nat → Value) : arr.size = c * sz → rows.length ≤ c → (∀ r ∈ rows, r.length = sz) →
  (∀ i j r u, rows[i]? = some r → r[j]? = some u → arr[i * sz + j]? = some (v i j)) → (∀ i j r u, rows[i]? = some r → r[j]? = some u → Rd D (v i j) u) →
  Own D T sz (some ⟨b, 0, none⟩) c rows [(b, .cells arr T (0, 0))]
theorem Own.mono {T : TypeId} {sz c : Nat} {a : Option Addr} {rows : List (List U)} {ch : zac} (o : Own D T sz a c rows ch) (l : Le D D') : Own D' T sz a c rows ch := by
 cases o with
 | nil => exact .nil
 | row b c arr rows v h1 h2 h3 h4 h5 => exact .row b c arr rows v h1 h2 h3 h4 fun i j r u a b => (h5 i j r u a b).mono l
theorem Own.len {T : TypeId} {sz c : Nat} {a : Option Addr} {rows : List (List U)} {ch : zac} (o : Own D T sz a c rows ch) : rows.length ≤ c := by
 cases o with
 | nil => simp
 | row b c arr rows v h1 h2 h3 h4 h5 => exact h2
theorem Own.freeze {T : TypeId} {sz c : Nat} {a : Option Addr} {rows : List (List U)} {ch : zac} (o : Own D T sz a c rows ch) (S : St D (ch :: C) h) : ∃ D', Le D D' ∧ St D' C h ∧ Rd D' (.slice a rows.length c) (.l sz rows) := by
 cases o with
 | nil => exact ⟨D, .refl D, S.drop, .nil _ _ _⟩
 | row b c arr rows v h1 h2 h3 h4 h5 =>
   obtain ⟨D', l, g, S'⟩ := S.freeze
   exact ⟨D', l, S', .row b 0 c arr T (0, 0) rows sz v (g (b, _) (by simp)) h2 h3 (fun i j r u a b => by rw [Nat.zero_add]; exact h4 i j r u a b) fun i j r u a b => (h5 i j r u a b).mono l⟩
theorem Own.at {T : TypeId} {sz c i : Nat} {z : Int} {a : Option Addr} {rows : List (List U)} {r : List U} {ch : zac} (x : Own D T sz a c rows ch) (S : St D (ch :: C) h) (hz : z = (i : Int)) (hi : rows[i]? = some r) {K : Nat → Nat → Prop}
 (hK : ∀ b o vs, RdL D vs r → (∀ j, j < sz → hcell h ⟨b, o + z.toNat * sz + j, .none⟩ = vs[j]?) → K b o) : zbj a K := by
 subst hz
 cases x with
 | nil => simp at hi
 | row b c arr rows v h1 h2 h3 h4 h5 =>
   have hs : r.length = sz := h3 r (List.mem_of_getElem? hi)
   refine hK b 0 _ (RdL.of_get (v i) fun j u hu => h5 i j r u hi hu) fun j hj => ?_
   rw [S.ld0, Int.toNat_natCast, Nat.zero_add]
   have hjr : j < r.length := by omega
   rw [h4 i j r r[j] hi (List.getElem?_eq_getElem hjr)]
   simp [hjr]
theorem RdL.single {vs : List Value} {us : List U} (hr : RdL D vs us) : ∀ v ∈ vs, single v = true := by
 induction hr with
 | nil => intro v h; simp at h
 | cons a _ ih =>
   intro v hv
   rcases List.mem_cons.1 hv with rfl | hv
   · cases a <;> rfl
   · exact ih v hv
theorem Own.put {T : TypeId} {sz c i : Nat} {z : Int} {a : Option Addr} {rows : List (List U)} {r' : List U} {ch : zac} (x : Own D T sz a c rows ch) (S : St D (ch :: C) h) (hz : z = (i : Int)) (hi : i < rows.length) {vs : List Value} (hv : RdL D vs r') (hs : vs.length = sz) {K : Nat → Nat → Prop}
 (hK : ∀ b o, (∀ K' : zab → Prop, (∀ ch' h', Own D T sz a c (rows.set i r') ch' → St D (ch' :: C) h' → K' h') → zc2 b (o + z.toNat * sz) vs 0 h K') → K b o) : zbj a K := by
 subst hz
 cases x with
 | nil => simp at hi
 | row b c arr rows v h1 h2 h3 h4 h5 =>
   refine hK b 0 fun K' hK' => ?_
   obtain ⟨l⟩ := arr
   have hsz : i * sz + sz ≤ l.length := by
    have h1' : l.length = c * sz := by simpa using h1
    rw [h1']
    have := Nat.mul_le_mul_right sz (show i + 1 ≤ c by omega)
    rwa [Nat.succ_mul] at this
   refine S.st0 (Nat.ble_eq_true_of_le (by rw [Nat.zero_add, Int.toNat_natCast, hs]; omega)) (List.all_eq_true.2 hv.single) fun h' S' => ?_
   refine hK' _ h' (.row b c _ _ (fun k j => if k = i then vs.getD j undef else v k j) ?_ (by simpa using h2) ?_ ?_ ?_) S'
   · simp only [List.size_toArray, zas]; simpa using h1
   · intro r hr
     rcases List.mem_or_eq_of_mem_set hr with hr | rfl
     · exact h3 r hr
     · rw [← hv.len, hs]
   · intro k j r u hk hu
     have hl0 : 0 + Int.toNat (i : Int) * sz + 0 + vs.length ≤ l.length := by rw [Nat.zero_add, Int.toNat_natCast, hs]; omega
     simp only [List.getElem?_toArray]
     rw [za2 _ _ _ _ hl0, Nat.zero_add, Int.toNat_natCast, Nat.add_zero, hs]
     by_cases hki : k = i
     · subst hki
       rw [List.getElem?_set_self hi] at hk
       cases hk
       have hj : j < sz := by have := (List.getElem?_eq_some_iff.1 hu).1; rw [← hv.len, hs] at this; exact this
       rw [if_neg (by omega), if_pos (by omega), if_pos rfl, show k * sz + j - k * sz = j by omega]
       simp [hs, hj]
     · rw [List.getElem?_set_ne (Ne.symm hki)] at hk
       have hj : j < sz := by have := (List.getElem?_eq_some_iff.1 hu).1; rwa [h3 r (List.mem_of_getElem? hk)] at this
       have hd : k * sz + sz ≤ i * sz ∨ i * sz + sz ≤ k * sz := by
        rcases Nat.lt_or_gt_of_ne hki with hlt | hlt
        · have := Nat.mul_le_mul_right sz (show k + 1 ≤ i by omega); rw [Nat.succ_mul] at this; exact .inl this
        · have := Nat.mul_le_mul_right sz (show i + 1 ≤ k by omega); rw [Nat.succ_mul] at this; exact .inr this
       have := h4 k j r u hk hu
       simp only [List.getElem?_toArray] at this
       simp only [if_neg hki]
       rcases hd with hd | hd
       · rw [if_pos (by omega)]; exact this
       · rw [if_neg (by omega), if_neg (by omega)]; exact this
   · intro k j r u hk hu
     by_cases hki : k = i
     · subst hki
       rw [List.getElem?_set_self hi] at hk
       cases hk
       obtain ⟨w, hw, hr⟩ := hv.get hu
       simp only [List.getD_eq_getElem?_getD, hw, Option.getD_some]; exact hr
     · rw [List.getElem?_set_ne (Ne.symm hki)] at hk
       simp only [if_neg hki]; exact h5 k j r u hk hu
end
section
variable {D D' : Fz} {C : List zac} {h h' : zab} {P : Program}
theorem fl_get {α : Type} {enc : α → List Value} {sz : Nat} (he : ∀ x, (enc x).length = sz) : ∀ (xs : List α) (j : Nat) (v : Value), (xs.flatMap enc)[j]? = some v → ∃ i t x, xs[i]? = some x ∧ (enc x)[t]? = some v ∧ j = i * sz + t
 | [], j, v, h => by simp at h
 | x :: xs, j, v, h => by
   rw [List.flatMap_cons] at h
   by_cases hj : j < sz
   · rw [List.getElem?_append_left (by rw [he]; exact hj)] at h
     exact ⟨0, j, x, rfl, h, by omega⟩
   · rw [List.getElem?_append_right (by rw [he]; omega), he] at h
     obtain ⟨i, t, y, h1, h2, h3⟩ := fl_get he xs (j - sz) v h
     exact ⟨i + 1, t, y, by simpa using h1, h2, by rw [Nat.succ_mul]; omega⟩
theorem fl_len {α : Type} {enc : α → List Value} {sz : Nat} (he : ∀ x, (enc x).length = sz) (xs : List α) : (xs.flatMap enc).length = xs.length * sz := by
 induction xs with
 | nil => simp
 | cons x xs ih => rw [List.flatMap_cons, List.length_append, ih, he, List.length_cons, Nat.succ_mul]; omega
theorem fl_put {α : Type} {enc : α → List Value} {sz : Nat} (he : ∀ x, (enc x).length = sz) : ∀ (xs : List α) (i t : Nat) (x : α) (v : Value), xs[i]? = some x → (enc x)[t]? = some v → (xs.flatMap enc)[i * sz + t]? = some v
 | [], i, t, x, v, h, _ => by simp at h
 | y :: xs, i, t, x, v, h, hv => by
   rw [List.flatMap_cons]
   cases i with
   | zero =>
     simp at h; subst h
     have hj := (List.getElem?_eq_some_iff.1 hv).1
     rw [Nat.zero_mul, Nat.zero_add, List.getElem?_append_left hj]
     exact hv
   | succ i =>
     rw [List.getElem?_append_right (by rw [he]; rw [Nat.succ_mul]; omega)]
     rw [he, show (i + 1) * sz + t - sz = i * sz + t by rw [Nat.succ_mul]; omega]
     exact fl_put he xs i t x v (by simpa using h) hv
def cellsOf (n sz : Nat) (v : Nat → Nat → Value) : List Value := (List.range n).flatMap fun i => (List.range sz).map (v i)
theorem zds (n sz : Nat) (v : Nat → Nat → Value) : (cellsOf n sz v).length = n * sz := by
 rw [cellsOf, fl_len (sz := sz) (by simp)]; simp
theorem zdt {n sz : Nat} {v : Nat → Nat → Value} {j : Nat} {x : Value} (h : (cellsOf n sz v)[j]? = some x) : ∃ i t, i < n ∧ t < sz ∧ j = i * sz + t ∧ x = v i t := by
 obtain ⟨i, t, y, h1, h2, h3⟩ := fl_get (sz := sz) (by simp) _ _ _ h
 obtain ⟨h4, h5⟩ := List.getElem?_eq_some_iff.1 h1
 obtain ⟨h6, h7⟩ := List.getElem?_eq_some_iff.1 h2
 simp at h4 h5 h6 h7
 subst h5
 exact ⟨i, t, h4, h6, h3, h7.symm⟩
theorem zmr {n sz : Nat} (v : Nat → Nat → Value) {i t : Nat} (hi : i < n) (ht : t < sz) : (cellsOf n sz v)[i * sz + t]? = some (v i t) :=
 fl_put (sz := sz) (by simp) _ i t i _ (by simp [hi]) (by simp [ht])
def Src (D : Fz) (h : zab) (sz : Nat) (a : Option Addr) (rows : List (List U)) : Prop :=
 (∀ r ∈ rows, r.length = sz) ∧ (rows = [] ∨ ∃ (b o : Nat) (w : Nat → Nat → Value), a = some ⟨b, o, none⟩ ∧ ∀ i j r u, rows[i]? = some r → r[j]? = some u → hcell h ⟨b, o + i * sz + j, none⟩ = some (w i j) ∧ Rd D (w i j) u)
theorem Rd.src {a : Option Addr} {n c sz : Nat} {rows : List (List U)} (x : Rd D (.slice a n c) (.l sz rows)) (S : St D C h) : Src D h sz a rows := by
 refine ⟨(x.shape).elim fun _ h => h.elim fun _ h => h.2.2, ?_⟩
 cases x with
 | nil => exact .inl rfl
 | row b o c arr T f rows sz v h1 h2 h3 h4 h5 => exact .inr ⟨b, o, v, rfl, fun i j r u hi hj => ⟨by rw [zao (S.fz _ _ h1).1]; exact h4 i j r u hi hj, h5 i j r u hi hj⟩⟩
theorem Rd.part {a : Option Addr} {n c sz : Nat} {rows : List (List U)} (x : Rd D (.slice a n c) (.l sz rows)) {l r : Nat} (hl : l ≤ r) (hr : r ≤ n) : Rd D (.slice (slA a c l sz) (zhi r l) (zhi c l)) (.l sz ((rows.take r).drop l)) := by
 have hsub : ∀ p q, zhi p q = p - q := fun p q => by
  unfold zhi
  cases q with
  | zero => rfl
  | succ q => rfl
 rw [hsub, hsub]
 cases x with
 | nil =>
   have : r = 0 := by omega
   subst this
   simp only [List.take_nil, List.drop_nil, Nat.zero_sub]
   exact .nil _ _ _
 | row b o c arr T f rows sz v h1 h2 h3 h4 h5 =>
   have hlen : ((rows.take r).drop l).length = r - l := by simp; omega
   by_cases hz : (rows.take r).drop l = []
   · rw [hz]; have : r - l = 0 := by rw [← hlen, hz]; rfl
     rw [this]; exact .nil _ _ _
   have hlt : l < r := by
    rcases Nat.lt_or_ge l r with h | h
    · exact h
    · exfalso; apply hz; apply List.eq_nil_of_length_eq_zero; omega
   have ha : slA (some ⟨b, o, none⟩) c l sz = some ⟨b, o + l * sz, none⟩ := by
    unfold slA
    cases l with
    | zero => simp
    | succ l =>
      show (if c = l + 1 then _ else _) = _
      rw [if_neg (by omega)]; rfl
   rw [ha, ← hlen]
   refine .row b (o + l * sz) (c - l) arr T f _ sz (fun i j => v (i + l) j) h1 (by omega) (fun q hq => h3 q (List.mem_of_mem_take (List.mem_of_mem_drop hq))) (fun i j q u hi hj => ?_) (fun i j q u hi hj => ?_)
   · rw [List.getElem?_drop] at hi
     rw [List.getElem?_take] at hi
     have hi' : rows[l + i]? = some q := by split at hi; exact hi; cases hi
     rw [show o + l * sz + i * sz + j = o + (i + l) * sz + j by rw [Nat.add_mul]; omega]
     rw [Nat.add_comm l i] at hi'
     exact h4 _ j q u hi' hj
   · rw [List.getElem?_drop] at hi
     rw [List.getElem?_take] at hi
     have hi' : rows[l + i]? = some q := by split at hi; exact hi; cases hi
     rw [Nat.add_comm l i] at hi'
     exact h5 _ j q u hi' hj
theorem Src.one {b sz : Nat} {T : TypeId} {f : Nat × Nat} {vs : List Value} {us : List U} {c : zac} (S : St D C h) (hc : ([(b, Obj.cells ⟨vs⟩ T f)] : zac) ∈ C) (hv : RdL D vs us) (hs : us.length = sz) : Src D h sz (some ⟨b, 0, none⟩) [us] := by
 refine ⟨by simp [hs], .inr ⟨b, 0, fun _ j => vs.getD j undef, rfl, fun i j r u hi hj => ?_⟩⟩
 have hb : h[b]? = some (Obj.cells ⟨vs⟩ T f) := S.own (b, _) (List.mem_flatten.2 ⟨_, hc, by simp⟩)
 cases i with
 | succ i => simp at hi
 | zero =>
   simp at hi; subst hi
   obtain ⟨w, hw, hr⟩ := hv.get hj
   rw [zao hb, Nat.zero_mul, Nat.zero_add]
   simp [hw, hr]
theorem Own.toS {T : TypeId} {sz c : Nat} {a : Option Addr} {rows : List (List U)} {ch : zac} (x : Own D T sz a c rows ch) (S : St D (ch :: C) h) : ∃ v, OwnS 0 T sz h a rows.length c (cellsOf rows.length sz v) ∧ ch.map (·.1) = ownB a ∧
 (∀ r ∈ rows, r.length = sz) ∧ ∀ i j r u, rows[i]? = some r → r[j]? = some u → Rd D (v i j) u := by
 cases x with
 | nil => exact ⟨fun _ _ => undef, .nil _ _ _ _, rfl, by simp, by simp⟩
 | row b c arr rows v h1 h2 h3 h4 h5 =>
   refine ⟨v, .inr ⟨b, arr, rfl, Nat.zero_le _, S.get (List.mem_singleton_self _), h1, h2, zds _ _ _, fun j x hx => ?_⟩, rfl, h3, h5⟩
   obtain ⟨i, t, hi, ht, rfl, rfl⟩ := zdt hx
   have hr : rows[i].length = sz := h3 _ (by simp)
   exact h4 i t rows[i] rows[i][t] (by simp [hi]) (by simp [hr, ht])
theorem Own.ofS {T : TypeId} {sz n c : Nat} {a : Option Addr} {rows : List (List U)} {v : Nat → Nat → Value} (x : OwnS 0 T sz h a n c (cellsOf n sz v)) (hn : n = rows.length) (hs : ∀ r ∈ rows, r.length = sz) (hr : ∀ i j r u, rows[i]? = some r → r[j]? = some u → Rd D (v i j) u) :
 ∃ ch, Own D T sz a c rows ch ∧ ch.map (·.1) = ownB a ∧ ∀ p ∈ ch, h[p.1]? = some p.2 := by
 subst hn
 rcases x with ⟨rfl, hn, rfl, -⟩ | ⟨b, l, rfl, -, h2, h3, h4, h5, h6⟩
 · have : rows = [] := List.eq_nil_of_length_eq_zero hn
   subst this
   exact ⟨[], .nil, rfl, by simp⟩
 · refine ⟨_, .row b c l rows v h3 h4 hs (fun i j r u hi hj => ?_) hr, rfl, by simpa using h2⟩
   have e1 := (List.getElem?_eq_some_iff.1 hi).1
   have e2 := (List.getElem?_eq_some_iff.1 hj).1
   rw [hs r (List.mem_of_getElem? hi)] at e2
   exact h6 _ _ (zmr v e1 e2)
theorem zms {n m sz : Nat} {v w : Nat → Nat → Value} : cellsOf n sz v ++ cellsOf m sz w = cellsOf (n + m) sz fun i j => if i < n then v i j else w (i - n) j := by
 unfold cellsOf
 rw [List.range_add, List.flatMap_append]
 congr 1
 · rw [List.flatMap_def, List.flatMap_def]
   congr 1
   refine List.map_congr_left fun i hi => ?_
   simp at hi
   simp [hi]
 · rw [List.flatMap_def, List.flatMap_def, List.map_map]
   congr 1
   refine List.map_congr_left fun i hi => ?_
   simp
   intro a _ hlt; omega
theorem Own.app {T E : TypeId} {i : TypeInfo} {z : Value} {a a2 : Option Addr} {c m cx : Nat} {rows rows2 : List (List U)} {ch : zac} {K : Value → zab → Prop} (own : Own D E i.size a c rows ch) (S : St D (ch :: C) h)
 (hu : P.underlying T = some (.slice E)) (hi : P.info? E = some i) (hz : i.zero = some z) (hzs : z.cells.size = i.size) (hb : i.bytes ≠ 0) (src : Src D h i.size a2 rows2) (hm : m = rows2.length) (hbd : (2 * (rows.length + rows2.length) + 512) * i.bytes ≤ 281474976710656)
 (hne : rows2 ≠ [])
 (hK : ∀ a' c' ch' h', Own D E i.size a' c' (rows ++ rows2) ch' → St D (ch' :: C) h' → K (.slice a' (rows ++ rows2).length c') h') :
 ze5 P #[T, T] T (.slice a rows.length c) (.slice a2 m cx) h K := by
 subst hm
 obtain ⟨v, os, hids, hs, hr⟩ := own.toS S
 obtain ⟨hs2, hsrc⟩ := src
 obtain ⟨b2, o2, w, rfl, hw⟩ := hsrc.resolve_left hne
 have hsingle : ∀ x ∈ cellsOf rows2.length i.size w, single x = true := fun x hx => by
  obtain ⟨j, hj⟩ := List.mem_iff_getElem?.1 hx
  obtain ⟨k, t, hk, ht, -, rfl⟩ := zdt hj
  have hr2 : rows2[k].length = i.size := hs2 _ (by simp)
  have := (hw k t rows2[k] rows2[k][t] (by simp [hk]) (by simp [hr2, ht])).2
  exact RdL.single (D := D) (vs := [w k t]) (us := [rows2[k][t]]) (.cons this .nil) _ (by simp)
 refine zqm (P := P) (T := T) (E := E) (B := 0) (new := cellsOf rows2.length i.size w) hu hi hz hzs hb os (Nat.zero_le _) (fun j x hx => ?_) (zds _ _ _) hsingle hbd fun a' c' h' os' k' hmv => ?_
 · obtain ⟨k, t, hk, ht, rfl, rfl⟩ := zdt hx
   have hr2 : rows2[k].length = i.size := hs2 _ (by simp)
   have := (hw k t rows2[k] rows2[k][t] (by simp [hk]) (by simp [hr2, ht])).1
   rw [← this, Nat.add_assoc]
 · rw [zms] at os'
   obtain ⟨ch', own', hids', hget⟩ := Own.ofS (rows := rows ++ rows2) os' (by simp) (fun r hr' => (List.mem_append.1 hr').elim (hs r) (hs2 r)) fun k j r u hk hj => by
    by_cases hkl : k < rows.length
    · rw [List.getElem?_append_left hkl] at hk
      simp only [if_pos hkl]; exact hr k j r u hk hj
    · rw [List.getElem?_append_right (by omega)] at hk
      simp only [if_neg hkl]; exact (hw _ j r u hk hj).2
   have hl : (rows ++ rows2).length = rows.length + rows2.length := by simp
   rw [← hl]
   refine hK a' c' ch' h' own' (S.upd (by rw [hids]; exact k') hget ?_ fun p hp => ?_)
   · rw [hids']; cases a' <;> simp [ownB]
   · have hp' : p.1 ∈ ownB a' := by rw [← hids']; exact List.mem_map.2 ⟨p, hp, rfl⟩
     rw [hids]
     cases a' with
     | none => simp [ownB] at hp'
     | some ad =>
       rcases os' with ⟨e, -⟩ | ⟨b, l, e, -⟩
       · cases e
       · cases e
         simp [ownB] at hp'; rw [hp']
         exact hmv b 0 rfl
theorem zf2 {T E : TypeId} {i : TypeInfo} {a a2 : Option Addr} {n c cx : Nat} {K : Value → zab → Prop} (hu : P.underlying T = some (.slice E)) (hi : P.info? E = some i) (hn : n ≤ c) (hK : K (.slice a n c) h) : ze5 P #[T, T] T (.slice a n c) (.slice a2 0 cx) h K := by
 unfold ze5
 show SWp P (underlying T >>= _) h K
 refine zad (zal hu ?_)
 refine zad (zdi hi ?_)
 refine zad (zad (zal hu ?_))
 refine zad ?_
 show SWp P (Builtin.lenOf (.slice a2 0 cx) >>= _) h K
 refine zad ?_
 show SWp P (if n + 0 ≤ c then _ else _) h K
 rw [if_pos (by omega)]
 have e : ∀ {K' : Array Value → zab → Prop}, K' #[] h → SWp P (Builtin.firstCells i.size 0 (.slice a2 0 cx)) h K' := by
  intro K' hK'
  cases a2 with
  | none => exact hK'
  | some b =>
    show SWp P (loadCells b (0 * i.size)) h K'
    rw [Nat.zero_mul]; exact hK'
 refine zad (e ?_)
 cases a with
 | none => exact hK
 | some b => exact zad hK
def zp1 (P : Program) (T E sz : Nat) : Bool :=
 (match P.underlying T with | some (.slice e) => Nat.beq e E | _ => false) &&
 match P.info? E with
 | some i => Nat.beq i.size sz && !Nat.beq i.bytes 0 && Nat.ble i.bytes 1000 && (match i.zero with | some z => Nat.beq z.cells.size sz | none => false)
 | none => false
structure ElTy (P : Program) (T E sz : Nat) : Prop where
 ty : P.underlying T = some (.slice E)
 inf : ∃ i z, P.info? E = some i ∧ i.size = sz ∧ i.bytes ≠ 0 ∧ i.bytes ≤ 1000 ∧ i.zero = some z ∧ z.cells.size = sz
theorem ElTy.of {T E sz : Nat} (h : zp1 P T E sz = true) : ElTy P T E sz := by
 unfold zp1 at h
 simp only [Bool.and_eq_true] at h
 obtain ⟨h1, h2⟩ := h
 refine ⟨?_, ?_⟩
 · cases hu : P.underlying T with
   | none => rw [hu] at h1; cases h1
   | some d =>
     rw [hu] at h1
     cases d <;> simp at h1
     rw [h1]
 · cases hi : P.info? E with
   | none => rw [hi] at h2; cases h2
   | some i =>
     rw [hi] at h2
     simp only [Bool.and_eq_true, Bool.not_eq_true'] at h2
     obtain ⟨⟨⟨h3, h4⟩, h5⟩, h6⟩ := h2
     cases hz : i.zero with
     | none => rw [hz] at h6; cases h6
     | some z =>
       rw [hz] at h6
       exact ⟨i, z, rfl, Nat.eq_of_beq_eq_true h3, (fun e => by rw [e] at h4; cases h4), Nat.le_of_ble_eq_true h5, hz, Nat.eq_of_beq_eq_true h6⟩
theorem app_w {T E sz : Nat} {a a2 : Option Addr} {c m n cx : Nat} {r r2 : List (List U)} {ch : zac} {K : Value → zab → Prop} (ty : ElTy P T E sz) (own : Own D E sz a c r ch) (S : St D (ch :: C) h) (src : Src D h sz a2 r2) (hn : n = r.length) (hm : m = r2.length) (hb : r.length + r2.length ≤ 1000000)
 (hK : ∀ a' c' ch' h', Own D E sz a' c' (r ++ r2) ch' → St D (ch' :: C) h' → K (.slice a' (r ++ r2).length c') h') : ze5 P #[T, T] T (.slice a n c) (.slice a2 m cx) h K := by
 obtain ⟨hT, i, z, hi, hsz, hby, hby2, hz, hzs⟩ := ty
 subst hm hn
 by_cases hr2 : r2 = []
 · subst hr2
   refine zf2 (E := E) hT hi own.len ?_
   simpa using hK a c ch h (by simpa using own) S
 subst hsz
 have hbd : (2 * (r.length + r2.length) + 512) * i.bytes ≤ 281474976710656 := by
  have := Nat.mul_le_mul (show 2 * (r.length + r2.length) + 512 ≤ 2000512 by omega) hby2
  omega
 exact Own.app own S hT hi hz hzs hby src rfl hbd hr2 fun a' c' ch' h' own' S' => hK a' c' ch' h' own' S'
end
abbrev KV := List (Int × Value)
def zpr (m : KV) (k : Int) : Option Value :=
 match m with
 | [] => none
 | p :: m => if p.1 = k then some p.2 else zpr m k
def zjr (m : KV) (k : Int) (v : Value) : KV :=
 match m with
 | [] => [(k, v)]
 | p :: m => if p.1 = k then (k, v) :: m else p :: zjr m k v
def zgm (m : KV) (k : Int) (i : Nat) : Option (Nat × Value) :=
 match m with
 | [] => none
 | p :: m => if p.1 = k then some (i, p.2) else zgm m k (i + 1)
theorem kvIdx_get (m : KV) (k : Int) : ∀ i, (zgm m k i).map (·.2) = zpr m k := by
 induction m with
 | nil => intro i; rfl
 | cons p m ih => intro i; simp only [zgm, zpr]; split; rfl; exact ih _
def zfu (es : List MapEntry) (m : KV) : Prop := es.map (fun e => (e.key, e.val)) = m.map fun p => (Value.int .i64 p.1, p.2)
theorem zol (k : Int) : ∀ (es : List MapEntry) (m : KV) (i : Nat), zfu es m → Instr.findNow (.int .i64) (.int .i64 k) es i = some (zgm m k i)
 | [], m, i, h => by
   have : m = [] := by unfold zfu at h; cases m <;> simp at h ⊢
   subst this; rfl
 | e :: es, m, i, h => by
   cases m with
   | nil => simp [zfu] at h
   | cons p m =>
     simp only [zfu, List.map_cons, List.cons.injEq, Prod.mk.injEq] at h
     obtain ⟨⟨h1, h2⟩, h3⟩ := h
     have ih := zol k es m (i + 1) h3
     unfold Instr.findNow
     rw [h1]
     simp only [Instr.sameNow, if_true, zgm]
     by_cases hk : p.1 = k
     · have : (k == p.1) = true := by simp [hk]
       rw [this]; simp only [hk, if_true, h2]
     · have : (k == p.1) = false := by simpa using Ne.symm hk
       rw [this]; simp only [hk, if_false]; exact ih
def MapI (h : zab) (b : Nat) (m : KV) : Prop :=
 ∃ es clk, h[b]? = some (.map es clk) ∧ zfu es.toList m ∧ (m.map (·.1)).Nodup ∧ (es.toList.map (·.born)).Nodup ∧ ∀ e ∈ es.toList, e.born < clk
def MapO (h : zab) (r : Option Nat) (m : KV) : Prop :=
 match r with
 | none => m = []
 | some b => MapI h b m
theorem MapI.kb {h h' : zab} {b : Nat} {m : KV} {F : List Nat} (s : MapI h b m) (k : KB F h h') (hf : b ∉ F) : MapI h' b m :=
 let ⟨es, clk, hb, r⟩ := s; ⟨es, clk, k.get hb hf, r⟩
theorem MapI.keep {h h' : zab} {b : Nat} {m : KV} (s : MapI h b m) (k : zg8 h h') : MapI h' b m := s.kb k (by simp)
theorem MapI.lt {h : zab} {b : Nat} {m : KV} (s : MapI h b m) : b < h.size := let ⟨_, _, hb, _⟩ := s; zaz hb
theorem MapO.keep {h h' : zab} {r : Option Nat} {m : KV} (s : MapO h r m) (k : zg8 h h') : MapO h' r m := by
 cases r with
 | none => exact s
 | some b => exact MapI.keep s k
theorem MapI.made {h : zab} {b : Nat} (hb : h[b]? = some (.map #[] 0)) : MapI h b [] := ⟨#[], 0, hb, rfl, .nil, .nil, fun e he => by simp at he⟩
theorem MapI.nodup {h : zab} {b : Nat} {m : KV} (s : MapI h b m) : (m.map (·.1)).Nodup := let ⟨_, _, _, _, hn, _⟩ := s; hn
section
variable {P : Program}
theorem zcr {α β : Type} {s : Sem α} {f : α → Sem β} {h : zab} : ∀ {K : β → Prop}, PWp P s h (fun a => PWp P (f a) h K) → PWp P (s >>= f) h K := by
 show ∀ {K : β → Prop}, PWp P s h (fun a => PWp P (f a) h K) → PWp P (s.bind f) h K
 induction s with
 | pure a => intro K hs; exact hs
 | load m a k ih => intro K hs; obtain ⟨v, hv, h2⟩ := hs; exact ⟨v, hv, ih v h2⟩
 | shape r k ih => intro K hs; exact ih _ hs
 | frozen a k ih => intro K hs; exact ih _ hs
 | getObj r k ih => intro K hs; obtain ⟨o, ho, hc, h2⟩ := hs; exact ⟨o, ho, hc, ih o h2⟩
 | program k ih => intro K hs; exact ih P hs
 | mark m k ih => intro K hs; exact ih hs
 | _ => intro K hs; exact hs.elim
theorem zee {T : TypeId} {d : TypeDesc} (hd : P.underlying T = some d) {h : zab} {K : TypeDesc → Prop} (hK : K d) : PWp P (underlying T) h K := by
 show PWp P (match P.underlying T with | some d => pure d | none => stuck "no such type") h K
 rw [hd]; exact hK
theorem PWp_zero {T : TypeId} {i : TypeInfo} {z : Value} (hi : P.info? T = some i) (hz : i.zero = some z) {h : zab} {K : Value → Prop} (hK : K z) : PWp P (zeroValue T) h K := by
 refine zcr (s := typeInfo T) ?_
 show PWp P (match P.info? T with | some i => pure i | none => stuck "no such type") h _
 rw [hi]
 show PWp P (match i.zero with | some v => pure v | none => unsupported (.resourceLimit "a value of more than 2^22 cells")) h K
 rw [hz]; exact hK
theorem zjn {b : Bool} {T : TypeId} (hu : P.underlying T = some (.int .i64)) {k : Int} {h : zab} {K : Unit → Prop} (hK : K ()) : PWp P (Instr.checkKey b 10000 T (.int .i64 k)) h K := by
 rw [show (10000 : Nat) = 9999 + 1 from rfl]
 unfold Instr.checkKey
 exact zcr (zee hu hK)
theorem zm0 {T : TypeId} (hu : P.underlying T = some (.int .i64)) {k : Int} {es : List MapEntry} {m : KV} (he : zfu es m) {h : zab} {K : Option (Nat × Value) → Prop} (hK : K (zgm m k 0)) :
 PWp P (Instr.findKey T (.int .i64 k) es) h K := by
 unfold Instr.findKey
 refine zcr (zee hu ?_)
 rw [zol k es m 0 he]
 exact hK
theorem zou {α : Type} {s : Sem α} {h : zab} : ∀ {K : α → zab → Prop}, PWp P s h (fun a => K a h) → SWp P s h K := by
 induction s with
 | pure a => intro K hs; exact hs
 | load m a k ih => intro K hs; obtain ⟨v, hv, h2⟩ := hs; exact ⟨v, hv, ih v h2⟩
 | shape r k ih => intro K hs; exact ih _ hs
 | frozen a k ih => intro K hs; exact ih _ hs
 | getObj r k ih => intro K hs; obtain ⟨o, ho, hc, h2⟩ := hs; exact ⟨o, ho, hc, ih o h2⟩
 | program k ih => intro K hs; exact ih P hs
 | mark m k ih => intro K hs; exact ih hs
 | _ => intro K hs; exact hs.elim
theorem look_spec {T KT E : TypeId} {i : TypeInfo} {z : Value} (hT : P.underlying T = some (.map KT E)) (hk : P.underlying KT = some (.int .i64)) (hi : P.info? E = some i) (hz : i.zero = some z)
 {h : zab} {r : Option Nat} {m : KV} (hm : MapO h r m) {k : Int} {ok : Bool} {K : Value → Prop} (hK : K (if ok then .tuple #[(zpr m k).getD z, .bool (zpr m k).isSome] else (zpr m k).getD z)) :
 zfp P T (.map r) (.int .i64 k) ok h K := by
 unfold zfp Instr.lookup
 refine zcr (zee hT ?_)
 have fin : ∀ (es : Array MapEntry), zfu es.toList m → PWp P (do
  Instr.checkKey es.isEmpty 10000 KT (.int .i64 k)
  let (v, ok') ← match ← Instr.findKey KT (.int .i64 k) es.toList with
   | some (_, v) => pure (v, true)
   | none => do pure (← zeroValue E, false)
  pure (if ok then .tuple #[v, .bool ok'] else v)) h K := by
  intro es he
  refine zcr (zjn hk ?_)
  refine zcr (zm0 hk he ?_)
  have hg := kvIdx_get m k 0
  cases hx : zgm m k 0 with
  | none =>
    rw [hx] at hg
    simp only [Option.map_none] at hg
    rw [← hg] at hK
    refine zcr (PWp_zero hi hz ?_)
    show K _
    simpa using hK
  | some p =>
    rw [hx] at hg
    simp only [Option.map_some] at hg
    rw [← hg] at hK
    show K _
    simpa using hK
 cases r with
 | none =>
   have : m = [] := hm
   subst this
   exact zcr (fin #[] rfl)
 | some b =>
   obtain ⟨es, clk, hb, he, hn, hbn, hlt⟩ := hm
   refine zcr ?_
   show PWp P (getObj b >>= _) h _
   refine zcr ⟨_, hb, rfl, ?_⟩
   exact fin es he
theorem kvIdx_lt (m : KV) (k : Int) : ∀ (i j : Nat) (v : Value), zgm m k i = some (j, v) → i ≤ j ∧ j < i + m.length ∧ ∃ p, m[j - i]? = some p ∧ p.1 = k := by
 induction m with
 | nil => intro i j v h; simp [zgm] at h
 | cons p m ih =>
   intro i j v h
   simp only [zgm] at h
   split at h
   · rename_i hk
     simp at h
     obtain ⟨rfl, rfl⟩ := h
     exact ⟨Nat.le_refl _, by simp, p, by simp, hk⟩
   · obtain ⟨h1, h2, q, hq, hqk⟩ := ih _ _ _ h
     refine ⟨by omega, by simp; omega, q, ?_, hqk⟩
     rw [show j - i = (j - (i + 1)) + 1 by omega]
     simpa using hq
theorem kvSet_idx (m : KV) (k : Int) (x : Value) : ∀ (i j : Nat) (v : Value), zgm m k i = some (j, v) → zjr m k x = m.set (j - i) (k, x) := by
 induction m with
 | nil => intro i j v h; simp [zgm] at h
 | cons p m ih =>
   intro i j v h
   simp only [zgm] at h
   simp only [zjr]
   split at h
   · rename_i hk
     simp at h
     obtain ⟨rfl, rfl⟩ := h
     rw [if_pos hk]; simp
   · rename_i hk
     rw [if_neg hk, ih _ _ _ h]
     have := (kvIdx_lt m k _ _ _ h).1
     rw [show j - i = (j - (i + 1)) + 1 by omega]
     rfl
theorem kvSet_new (m : KV) (k : Int) (x : Value) : ∀ i, zgm m k i = none → zjr m k x = m ++ [(k, x)] ∧ k ∉ m.map (·.1) := by
 induction m with
 | nil => intro i _; exact ⟨rfl, by simp⟩
 | cons p m ih =>
   intro i h
   simp only [zgm] at h
   simp only [zjr]
   split at h
   · cases h
   · rename_i hk
     obtain ⟨h1, h2⟩ := ih _ h
     rw [if_neg hk, h1]
     exact ⟨rfl, by simp only [List.map_cons, List.mem_cons, not_or]; exact ⟨Ne.symm hk, h2⟩⟩
theorem upd_spec2 {T KT E : TypeId} (hT : P.underlying T = some (.map KT E)) (hk : P.underlying KT = some (.int .i64)) {h : zab} {b : Nat} {m : KV} (hm : MapI h b m) {k : Int} {x : Value} {K : zab → Prop}
 (hK : ∀ h' : zab, MapI h' b (zjr m k x) → KB [b] h h' → h'.size = h.size → (∀ es clk, h[b]? = some (.map es clk) → k ∈ m.map (·.1) → ∃ es', h'[b]? = some (.map es' clk) ∧ es'.toList.map (fun e => (e.key, e.born)) = es.toList.map (fun e => (e.key, e.born))) → K h') :
 zov P T (.map (some b)) (.int .i64 k) x h K := by
 obtain ⟨es, clk, hb, he, hn, hbn, hlt⟩ := hm
 have hlen : es.toList.length = m.length := by have := congrArg List.length he; simpa using this
 have kb : ∀ o : Obj, KB [b] h (h.setIfInBounds b o) := fun o => ⟨by simp, fun c _ hc => by
  rw [Array.getElem?_setIfInBounds_ne]; simp at hc; exact fun e => hc e.symm⟩
 have hbl := zaz hb
 unfold zov Instr.mapUpdate
 refine zad (zal hT ?_)
 show SWp P (getObj b >>= _) h _
 refine zad ⟨_, hb, rfl, ?_⟩
 refine zad (zou (zjn hk ?_))
 refine zad (zou (zm0 hk he ?_))
 cases hx : zgm m k 0 with
 | none =>
   obtain ⟨h1, h2⟩ := kvSet_new m k x 0 hx
   refine ⟨⟨_, hb, rfl⟩, ?_⟩
   refine hK _ ⟨es.push { key := .int .i64 k, val := x, born := clk }, clk + 1, by simp [hbl], ?_, ?_, ?_, ?_⟩ (kb _) (by simp) (fun _ _ _ hk0 => absurd hk0 h2)
   · unfold zfu at *
     rw [h1]; simp [he]
   · rw [h1, List.map_append, List.nodup_append]
     refine ⟨hn, by simp, ?_⟩
     intro a ha c hc hac
     simp at hc
     subst hac
     exact h2 (hc ▸ ha)
   · simp only [Array.toList_push, List.map_append, List.nodup_append]
     refine ⟨hbn, by simp, ?_⟩
     intro a ha c hc hac
     simp at hc
     obtain ⟨e, hem, rfl⟩ := List.mem_map.1 ha
     have := hlt e hem
     omega
   · intro e hem
     simp only [Array.toList_push, List.mem_append, List.mem_singleton] at hem
     rcases hem with hem | rfl
     · exact Nat.lt_succ_of_lt (hlt e hem)
     · exact Nat.lt_succ_self _
 | some p =>
   obtain ⟨j, v⟩ := p
   obtain ⟨_, h1, q, hq, hqk⟩ := kvIdx_lt m k 0 j v hx
   rw [Nat.sub_zero] at hq
   have hjl : j < es.toList.length := by omega
   have hje : (es.toList[j]).key = .int .i64 k := by
    have h2 := congrArg (fun l => l[j]?) he
    simp only [List.getElem?_map, hq, Option.map_some, List.getElem?_eq_getElem hjl] at h2
    simp only [Option.some.injEq, Prod.mk.injEq] at h2
    rw [h2.1, hqk]
   have hgk : ((es[j]?).map (·.key)).getD (.int .i64 k) = .int .i64 k := by
    rw [← Array.getElem?_toList, List.getElem?_eq_getElem hjl]; simpa using hje
   show SWp P (Instr.keyThatStays (((es[j]?).map (·.key)).getD (.int .i64 k)) (.int .i64 k) >>= _) h _
   rw [hgk]
   refine zad ?_
   show SWp P (if Instr.sameBits 10000 (.int .i64 k) (.int .i64 k) = true then pure (Value.int .i64 k) else _) h _
   rw [if_pos (by simp [Instr.sameBits])]
   refine ⟨⟨_, hb, rfl⟩, ?_⟩
   have hset := kvSet_idx m k x 0 j v hx
   rw [Nat.sub_zero] at hset
   have hmod : (es.modify j fun e => { e with key := Value.int .i64 k, val := x }).toList = es.toList.modify j fun e => { e with key := Value.int .i64 k, val := x } := by simp
   refine hK _ ⟨es.modify j fun e => { e with key := Value.int .i64 k, val := x }, clk, by simp [hbl], ?_, ?_, ?_, ?_⟩ (kb _) (by simp) (fun es0 clk0 h0 _ => ?_)
   · unfold zfu at *
     rw [hmod, hset]
     apply List.ext_getElem?
     intro i
     have h2 := congrArg (fun l => l[i]?) he
     simp only [List.getElem?_map] at h2
     simp only [List.getElem?_map, List.getElem?_modify, List.getElem?_set]
     by_cases hij : j = i
     · subst hij
       simp only [if_true]
       rw [List.getElem?_eq_getElem hjl]
       simp [show j < m.length by omega]
     · simp only [hij, if_false]
       cases hee : es.toList[i]? with
       | none => rw [hee] at h2; simpa using h2
       | some e => rw [hee] at h2; simpa using h2
   · rw [hset]
     have : (m.set j (k, x)).map (·.1) = m.map (·.1) := by
      apply List.ext_getElem?
      intro i
      simp only [List.getElem?_map, List.getElem?_set]
      by_cases hij : j = i
      · subst hij
        have hmq := (List.getElem?_eq_some_iff.1 hq).2
        simp [show j < m.length by omega, hmq, hqk]
      · simp [hij]
     rw [this]; exact hn
   · rw [hmod]
     have : (es.toList.modify j fun e => { e with key := Value.int .i64 k, val := x }).map (·.born) = es.toList.map (·.born) := by
      apply List.ext_getElem?
      intro i
      simp only [List.getElem?_map, List.getElem?_modify]
      by_cases hij : j = i
      · subst hij; simp only [if_true]; cases es.toList[j]? <;> rfl
      · simp [hij]
     rw [this]; exact hbn
   · intro e hem
     rw [hmod] at hem
     obtain ⟨i, hi⟩ := List.mem_iff_getElem?.1 hem
     rw [List.getElem?_modify] at hi
     cases hee : es.toList[i]? with
     | none => rw [hee] at hi; simp at hi
     | some e0 =>
       rw [hee] at hi
       have h0 := hlt e0 (List.mem_of_getElem? hee)
       by_cases hij : j = i
       · simp [hij] at hi; subst hi; exact h0
       · simp [hij] at hi; subst hi; exact h0
   · rw [hb] at h0
     cases h0
     refine ⟨es.modify j fun e => { e with key := Value.int .i64 k, val := x }, by simp [hbl], ?_⟩
     rw [hmod]
     apply List.ext_getElem?
     intro i
     simp only [List.getElem?_map, List.getElem?_modify]
     by_cases hij : j = i
     · subst hij
       rw [List.getElem?_eq_getElem hjl]
       simp
       exact hje.symm
     · simp [hij]
theorem upd_spec {T KT E : TypeId} (hT : P.underlying T = some (.map KT E)) (hk : P.underlying KT = some (.int .i64)) {h : zab} {b : Nat} {m : KV} (hm : MapI h b m) {k : Int} {x : Value} {K : zab → Prop}
 (hK : ∀ h' : zab, MapI h' b (zjr m k x) → KB [b] h h' → h'.size = h.size → K h') : zov P T (.map (some b)) (.int .i64 k) x h K :=
 upd_spec2 hT hk hm fun h' h1 h2 h3 _ => hK h' h1 h2 h3
theorem kvSet_keys {m : KV} {k : Int} {x : Value} (hk : k ∈ m.map (·.1)) : (zjr m k x).map (·.1) = m.map (·.1) := by
 induction m with
 | nil => simp at hk
 | cons p m ih =>
   simp only [zjr]
   by_cases h : p.1 = k
   · rw [if_pos h]; simp [h]
   · rw [if_neg h]
     rw [List.map_cons, List.mem_cons] at hk
     rcases hk with hk | hk
     · exact absurd hk.symm h
     · rw [List.map_cons, List.map_cons, ih hk]
def IterI (h : zab) (it : Nat) (r : Option Nat) (m : KV) (left : List Int) : Prop :=
 match r with
 | none => m = [] ∧ left = [] ∧ ∃ a b c, h[it]? = some (.mapIter none a b c)
 | some b => it ≠ b ∧ ∃ es clk seen, h[it]? = some (.mapIter (some b) clk seen clk) ∧ h[b]? = some (.map es clk) ∧ zfu es.toList m ∧ (m.map (·.1)).Nodup ∧ (es.toList.map (·.born)).Nodup ∧ (∀ e ∈ es.toList, e.born < clk) ∧
  (∀ e ∈ es.toList, ∀ k : Int, e.key = .int .i64 k → (k ∈ left ↔ seen.contains e.born = false)) ∧ left.Nodup ∧ ∀ k ∈ left, k ∈ m.map (·.1)
theorem IterI.kb {h h' : zab} {it : Nat} {r : Option Nat} {m : KV} {left : List Int} {F : List Nat} (s : IterI h it r m left) (k : KB F h h') (h1 : it ∉ F) (h2 : ∀ b, r = some b → b ∉ F) : IterI h' it r m left := by
 cases r with
 | none => obtain ⟨a, b, x, y, z, hz⟩ := s; exact ⟨a, b, x, y, z, k.get hz h1⟩
 | some b => obtain ⟨a, es, clk, seen, g1, g2, g3⟩ := s; exact ⟨a, es, clk, seen, k.get g1 h1, k.get g2 (h2 b rfl), g3⟩
theorem IterI.lt {h : zab} {it : Nat} {r : Option Nat} {m : KV} {left : List Int} (s : IterI h it r m left) : it < h.size := by
 cases r with
 | none => obtain ⟨a, b, x, y, z, hz⟩ := s; exact zaz hz
 | some b => obtain ⟨a, es, clk, seen, g1, g2, g3⟩ := s; exact zaz g1
theorem zh6 {es : List MapEntry} {m : KV} (h : zfu es m) {e : MapEntry} (he : e ∈ es) : ∃ p ∈ m, e.key = .int .i64 p.1 ∧ e.val = p.2 := by
 have h1 : (e.key, e.val) ∈ es.map (fun e => (e.key, e.val)) := List.mem_map.2 ⟨e, he, rfl⟩
 rw [h] at h1
 obtain ⟨p, hp, h2⟩ := List.mem_map.1 h1
 simp only [Prod.mk.injEq] at h2
 exact ⟨p, hp, h2.1.symm, h2.2.symm⟩
theorem zmk {es : List MapEntry} {m : KV} (h : zfu es m) {p : Int × Value} (hp : p ∈ m) : ∃ e ∈ es, e.key = .int .i64 p.1 ∧ e.val = p.2 := by
 have h1 : (Value.int .i64 p.1, p.2) ∈ m.map (fun p => (Value.int .i64 p.1, p.2)) := List.mem_map.2 ⟨p, hp, rfl⟩
 rw [← h] at h1
 obtain ⟨e, he, h2⟩ := List.mem_map.1 h1
 simp only [Prod.mk.injEq] at h2
 exact ⟨e, he, h2.1, h2.2⟩
theorem range_spec {T KT E : TypeId} (hT : P.underlying T = some (.map KT E)) {h : zab} {r : Option Nat} {m : KV} (hm : MapO h r m) {K : Value → zab → Prop}
 (hK : ∀ h' : zab, IterI h' h.size r m (m.map (·.1)) → zg8 h h' → h'.size = h.size + 1 → K (.pointer (some ⟨h.size, 0, none⟩)) h') : zdj P T (.map r) h K := by
 unfold zdj Instr.range
 refine zad (zal hT ?_)
 cases r with
 | none => exact hK _ ⟨hm, by rw [hm]; rfl, 0, #[], 0, zj4 _ _⟩ (.push _ _ _) (by simp)
 | some b =>
   obtain ⟨es, clk, hb, he, hn, hbn, hlt⟩ := hm
   have hne : h.size ≠ b := by have := zaz hb; omega
   show SWp P (getObj b >>= _) h _
   refine zad ⟨_, hb, rfl, ?_⟩
   refine hK _ ⟨hne, es, clk, #[], zj4 _ _, ?_, he, hn, hbn, hlt, ?_, hn, fun k hk => hk⟩ (.push _ _ _) (by simp)
   · exact (KB.push [] h _).get hb (by simp)
   · intro e hem k hk
     obtain ⟨p, hp, h1, _⟩ := zh6 he hem
     rw [hk] at h1
     have h1 : k = p.1 := by simpa using h1
     simp only [List.mem_map]
     exact ⟨fun _ => by simp, fun _ => ⟨p, hp, h1.symm⟩⟩
theorem next_spec {h : zab} {it : Nat} {r : Option Nat} {m : KV} {left : List Int} (hI : IterI h it r m left) {E : zab → Prop} {C : Value → zab → Prop}
 (hE : left = [] → E h)
 (hC : ∀ (k : Int) (x : Value) (h' : zab), k ∈ left → (k, x) ∈ m → IterI h' it r m (left.erase k) → KB [it] h h' → h'.size = h.size → C (.tuple #[.int .i64 k, x]) h') :
 zgx P (.pointer (some ⟨it, 0, none⟩)) h E (fun _ _ h5 => zcw P (.pointer (some ⟨it, 0, none⟩)) h5 C) := by
 unfold zgx Instr.next
 cases r with
 | none =>
   obtain ⟨rfl, rfl, a, b, c, hz⟩ := hI
   show SWp P (getObj it >>= _) h _
   refine zad ⟨_, hz, rfl, ?_⟩
   exact .inl ⟨rfl, hE rfl⟩
 | some b =>
   obtain ⟨hne, es, clk, seen, h1, h2, he, hn, hbn, hlt, hleft, hln, hlm⟩ := hI
   show SWp P (getObj it >>= _) h _
   refine zad ⟨_, h1, rfl, ?_⟩
   show SWp P (getObj b >>= _) h _
   refine zad ⟨_, h2, rfl, ?_⟩
   have hng : ¬ ((!seen.isEmpty && !es.isEmpty && es.all fun e => decide (e.born ≥ clk)) = true) := by
    intro hh
    simp only [Bool.and_eq_true, Bool.not_eq_true', Array.all_eq_true_iff_forall_mem, decide_eq_true_eq] at hh
    obtain ⟨⟨_, h3⟩, h4⟩ := hh
    cases hes : es.toList with
    | nil => have : es = #[] := by apply Array.ext'; simpa using hes
             subst this; simp at h3
    | cons e l =>
      have hem : e ∈ es.toList := by rw [hes]; simp
      have h5 := hlt e hem
      have h6 := h4 e (by simpa using hem)
      omega
   show SWp P (if (!seen.isEmpty && !es.isEmpty && es.all fun e => decide (e.born ≥ clk)) = true then _ else _) h _
   rw [if_neg hng]
   have hold : (es.filter fun e => !seen.contains e.born).filter (fun e => decide (e.born < clk)) = es.filter fun e => !seen.contains e.born := by
    rw [Array.filter_eq_self]
    intro e hem
    have := hlt e (by simpa using (Array.mem_filter.1 hem).1)
    simpa using this
   have hnew : (es.filter fun e => !seen.contains e.born).filter (fun e => decide (e.born ≥ clk)) = #[] := by
    rw [Array.filter_eq_empty_iff]
    intro e hem
    have := hlt e (by simpa using (Array.mem_filter.1 hem).1)
    simp; omega
   have hitl := zaz h1
   have hbl := zaz h2
   -- whichever entry is picked
   have pick : ∀ e ∈ es.toList, seen.contains e.born = false → SWp P (do
    setObj it (.mapIter (some b) clk (seen.push e.born) clk)
    pure (Value.tuple #[.bool true, e.key, e.val])) h fun v h' => (v = .tuple #[.bool false] ∧ E h') ∨ ∃ k x : Value, v = .tuple #[.bool true, k, x] ∧ zcw P (.pointer (some ⟨it, 0, none⟩)) h' C := by
    intro e hem hes
    refine ⟨⟨_, h1, rfl⟩, .inr ⟨e.key, e.val, rfl, ?_⟩⟩
    have g1 : (h.setIfInBounds it (.mapIter (some b) clk (seen.push e.born) clk))[it]? = some (.mapIter (some b) clk (seen.push e.born) clk) := by simp [hitl]
    have g2 : (h.setIfInBounds it (.mapIter (some b) clk (seen.push e.born) clk))[b]? = some (.map es clk) := by
     rw [Array.getElem?_setIfInBounds_ne hne]; exact h2
    obtain ⟨p, hp, hpk, hpv⟩ := zh6 he hem
    unfold zcw Instr.entry
    show SWp P (getObj it >>= _) _ _
    refine zad ⟨_, g1, rfl, ?_⟩
    have hback : (seen.push e.born).back? = some e.born := by simp
    show SWp P (match (seen.push e.born).back? with | some stamp => _ | _ => _) _ _
    rw [hback]
    show SWp P (getObj b >>= _) _ _
    refine zad ⟨_, g2, rfl, ?_⟩
    show SWp P (if (clk != clk) = true then _ else _) _ _
    rw [if_neg (by simp)]
    have hfind : es.find? (fun x => x.born == e.born) = some e := by
     rw [← Array.find?_toList]
     have : ∀ l : List MapEntry, (l.map (·.born)).Nodup → e ∈ l → l.find? (fun x => x.born == e.born) = some e := by
      intro l
      induction l with
      | nil => intro _ h; cases h
      | cons y l ih =>
        intro hnd hm
        simp only [List.map_cons, List.nodup_cons] at hnd
        rcases List.mem_cons.1 hm with rfl | hm
        · simp
        · have : (y.born == e.born) = false := by
           rw [beq_eq_false_iff_ne]
           exact fun hh => hnd.1 (hh ▸ List.mem_map.2 ⟨e, hm, rfl⟩)
          rw [List.find?_cons, this]; exact ih hnd.2 hm
     exact this _ hbn hem
    show SWp P (match es.find? (fun x => x.born == e.born) with | some e => pure (Value.tuple #[e.key, e.val]) | none => unsupported (.noEntry "instr/Entry.removed")) _ _
    rw [hfind]
    show C (.tuple #[e.key, e.val]) _
    rw [hpk, hpv]
    have hkl : p.1 ∈ left := (hleft e hem p.1 hpk).2 hes
    refine hC p.1 p.2 _ hkl hp ⟨hne, es, clk, seen.push e.born, g1, g2, he, hn, hbn, hlt, ?_, hln.erase _, fun k hk => hlm k (List.mem_of_mem_erase hk)⟩ ⟨by simp, fun c _ hc => ?_⟩ (by simp)
    · intro e' hem' k hk'
      rw [hln.mem_erase_iff]
      simp only [Array.contains_push, Bool.or_eq_false_iff, beq_eq_false_iff_ne]
      rw [hleft e' hem' k hk']
      constructor
      · rintro ⟨h3, h4⟩
        refine ⟨h4, fun hbb => h3 ?_⟩
        have : e' = e := by
         have key : ∀ l : List MapEntry, (l.map (·.born)).Nodup → e ∈ l → e' ∈ l → e'.born = e.born → e' = e := by
          intro l
          induction l with
          | nil => intro _ h; cases h
          | cons y l ih =>
            intro hnd ha hb hbo
            simp only [List.map_cons, List.nodup_cons] at hnd
            rcases List.mem_cons.1 ha with rfl | ha2 <;> rcases List.mem_cons.1 hb with rfl | hb2
            · rfl
            · exact absurd (List.mem_map.2 ⟨e', hb2, hbo⟩) hnd.1
            · exact absurd (List.mem_map.2 ⟨e, ha2, hbo.symm⟩) hnd.1
            · exact ih hnd.2 ha2 hb2 hbo
         exact key _ hbn hem hem' hbb
        subst this
        rw [hpk] at hk'
        simpa using hk'.symm
      · rintro ⟨h3, h4⟩
        refine ⟨fun hkk => h4 ?_, h3⟩
        subst hkk
        -- the same key: the same entry
        have key : ∀ (l : List MapEntry) (q : KV), zfu l q → (q.map (·.1)).Nodup → e ∈ l → e' ∈ l → e'.key = e.key → e' = e := by
         intro l
         induction l with
         | nil => intro _ _ _ h; cases h
         | cons y l ih =>
           intro q hq hnd ha hb hkk
           cases q with
           | nil => simp [zfu] at hq
           | cons z q =>
             simp only [zfu, List.map_cons, List.cons.injEq, Prod.mk.injEq] at hq
             obtain ⟨⟨hy, _⟩, hq⟩ := hq
             simp only [List.map_cons, List.nodup_cons] at hnd
             rcases List.mem_cons.1 ha with rfl | ha2 <;> rcases List.mem_cons.1 hb with rfl | hb2
             · rfl
             · obtain ⟨w, hw, hwk, _⟩ := zh6 hq hb2
               rw [hkk, hy] at hwk
               have : z.1 = w.1 := by simpa using hwk
               exact absurd (List.mem_map.2 ⟨w, hw, this.symm⟩) hnd.1
             · obtain ⟨w, hw, hwk, _⟩ := zh6 hq ha2
               rw [← hkk, hy] at hwk
               have : z.1 = w.1 := by simpa using hwk
               exact absurd (List.mem_map.2 ⟨w, hw, this.symm⟩) hnd.1
             · exact ih q hq hnd.2 ha2 hb2 hkk
        rw [key _ m he hn hem hem' (by rw [hk', hpk])]
    · rw [Array.getElem?_setIfInBounds_ne]; simp at hc; exact fun hh => hc hh.symm
   generalize hL : (es.filter fun e => !seen.contains e.born) = L at hold hnew
   have hmemL : ∀ e ∈ L, e ∈ es.toList ∧ seen.contains e.born = false := by
    intro e hem
    rw [← hL] at hem
    obtain ⟨g1, g2⟩ := Array.mem_filter.1 hem
    exact ⟨by simpa using g1, by simpa using g2⟩
   show SWp P (choose (.mapNext ((if (L.filter (fun e : MapEntry => decide (e.born < clk))).isEmpty then #[none] else #[]) ++ (L.filter (fun e : MapEntry => decide (e.born < clk)) ++ L.filter (fun e : MapEntry => decide (e.born ≥ clk))).map some).size) >>= fun j =>
    match ((if (L.filter (fun e : MapEntry => decide (e.born < clk))).isEmpty then #[none] else #[]) ++ (L.filter (fun e : MapEntry => decide (e.born < clk)) ++ L.filter (fun e : MapEntry => decide (e.born ≥ clk))).map some)[j]? with
    | some (some e) => do setObj it (.mapIter (some b) clk (seen.push e.born) clk); pure (Value.tuple #[.bool true, e.key, e.val])
    | some none => pure (Value.tuple #[.bool false])
    | none => stuck "Next: no such candidate") h _
   rw [hold, hnew]
   cases hemp : L.isEmpty with
   | true =>
     have hLe : L = #[] := by simpa using hemp
     have hl0 : left = [] := by
      rw [List.eq_nil_iff_forall_not_mem]
      intro k hk
      obtain ⟨p, hp, rfl⟩ := List.mem_map.1 (hlm k hk)
      obtain ⟨e, hem, hek, _⟩ := zmk he hp
      have := (hleft e hem p.1 hek).1 hk
      have hin : e ∈ L := by rw [← hL]; exact Array.mem_filter.2 ⟨by simpa using hem, by simpa using this⟩
      rw [hLe] at hin; simp at hin
     subst hLe
     refine zad ⟨fun _ => ?_, fun hf => ?_⟩
     · show SWp P (match ((if true = true then #[none] else #[]) ++ ((#[] : Array MapEntry) ++ #[]).map some)[0]? with
        | some (some e) => (do setObj it (.mapIter (some b) clk (seen.push e.born) clk); pure (Value.tuple #[.bool true, e.key, e.val]) : Sem Value)
        | some none => pure (Value.tuple #[.bool false])
        | none => stuck "Next: no such candidate") h _
       have hg : ((if true = true then #[none] else #[]) ++ ((#[] : Array MapEntry) ++ #[]).map some)[0]? = some none := by simp
       rw [hg]
       exact .inl ⟨rfl, hE hl0⟩
     · simp [Question.forced] at hf
   | false =>
     have hsz : 0 < L.size := by
      rcases Nat.eq_zero_or_pos L.size with h0 | h0
      · rw [Array.isEmpty_iff_size_eq_zero.2 h0] at hemp; cases hemp
      · exact h0
     have fin : ∀ j, j < L.size → SWp P (match ((if false = true then #[none] else #[]) ++ (L ++ #[]).map some)[j]? with
      | some (some e) => (do setObj it (.mapIter (some b) clk (seen.push e.born) clk); pure (Value.tuple #[.bool true, e.key, e.val]) : Sem Value)
      | some none => pure (Value.tuple #[.bool false])
      | none => stuck "Next: no such candidate") h fun v h' => (v = .tuple #[.bool false] ∧ E h') ∨ ∃ k x : Value, v = .tuple #[.bool true, k, x] ∧ zcw P (.pointer (some ⟨it, 0, none⟩)) h' C := by
      intro j hj
      have hg : ((if false = true then #[none] else #[]) ++ (L ++ #[]).map some)[j]? = some (some L[j]) := by simp [hj]
      rw [hg]
      have := hmemL L[j] (Array.getElem_mem hj)
      exact pick _ this.1 this.2
     refine zad ⟨fun _ => fin 0 hsz, fun hf t => fin _ ?_⟩
     have : ((if false = true then (#[none] : Array (Option MapEntry)) else #[]) ++ (L ++ #[]).map some).size = L.size := by simp
     simp only [Question.cut]
     rw [this]
     exact Nat.mod_lt _ hsz
end
section
set_option maxRecDepth 100000
theorem zl4 : Tryz.prog.follows .mixedOrders = true := by kernel_rfl
def H68 : Hn := ⟨[], [], []⟩
def VC68 (lA : Option Addr) (lN : Nat) (lC : Nat) (kind : Int) (h : zab) (R : Value → zab → Prop) : Prop :=
 Run Tryz.prog 110 [.slice lA lN lC] h (fun v1 h1 => ∃ r1 : Option Nat, ∃ x1 : Int, v1 = .tuple #[.map r1, .int .i64 x1] ∧ (bif x1 != 0 then R (.int .i64 0) h1 else zfp Tryz.prog 211 (.map r1) (.int .i64 kind) false h1 (fun v2 => ∃ x2 : Int, v2 = .int .i64 x2 ∧ (R (.int .i64 x2) h1))))
theorem V68 (lA : Option Addr) (lN : Nat) (lC : Nat) (kind : Int) (h : zab) (R : Value → zab → Prop) (hh : VC68 lA lN lC kind h R) : Run Tryz.prog 68 [.slice lA lN lC, .int .i64 kind] h R :=
 zap zl4 Tryz.func68 (by kernel_rfl) (H := H68) (by kernel_rfl) hh
def H110 : Hn := ⟨[(6, [(5, .b), (15, .i .i64)])], [], []⟩
def VC110 (lA : Option Addr) (lN : Nat) (lC : Nat) (h : zab) (R : Value → zab → Prop) : Prop :=
 Run Tryz.prog 199 [.slice lA lN lC, .func (.func 200) #[] #[]] h (fun v1 h1 => ∃ b1 : Bool, v1 = .bool b1 ∧ (bif b1 then R (.tuple #[.map none, .int .i64 1]) h1 else zhx h1 (.map #[] 0) (fun m1 h2 => ∃ k1 : Bool → Int → zab → Prop, ∃ z1 : Bool → Int → zab → Nat, k1 false 0 h2 ∧ (∀ g1 : Nat → Value, ∀ h3 : zab, ∀ b2 : Bool, ∀ x1 : Int, k1 b2 x1 h3 → (bif decide (x1 < (lN : Int)) then zbj lA (fun m2 m3 => 0 ≤ x1 ∧ x1 < (lN : Int) ∧ (∃ x2 : Int, hcell h3 ⟨m2, m3 + Int.toNat x1 * 2, none⟩ = some (.int .i64 x2) ∧ (∃ x3 : Int, hcell h3 ⟨m2, m3 + Int.toNat x1 * 2 + 1, none⟩ = some (.int .i64 x3) ∧ (zhx h3 (.cells #[.int .i64 0, .int .i64 0] 102) (fun m4 h4 => zc2 m4 0 [.int .i64 x2, .int .i64 x3] 0 h4 (fun h5 => ∃ x4 : Int, hcell h5 ⟨m4, 0, none⟩ = some (.int .i64 x4) ∧ (zfp Tryz.prog 211 (.map (some m1)) (.int .i64 x4) false h5 (fun v2 => ∃ x5 : Int, v2 = .int .i64 x5 ∧ (∃ x6 : Int, hcell h5 ⟨m4, 1, none⟩ = some (.int .i64 x6) ∧ (Run Tryz.prog 137 [.int .i64 x5, .int .i64 x6] h5 (fun v3 h6 => ∃ x7 : Int, ∃ x8 : Int, v3 = .tuple #[.int .i64 x7, .int .i64 x8] ∧ (bif x8 != 0 then ∃ x9 : Int, hcell h6 ⟨m4, 0, none⟩ = some (.int .i64 x9) ∧ (zov Tryz.prog 211 (.map (some m1)) (.int .i64 x9) (.int .i64 1125899906842624) h6 (fun h7 => k1 true (IntKind.wrap .i64 (x1 + 1)) h7 ∧ z1 true (IntKind.wrap .i64 (x1 + 1)) h7 < z1 b2 x1 h3)) else (bif decide (x7 > 1125899906842624) then ∃ x10 : Int, hcell h6 ⟨m4, 0, none⟩ = some (.int .i64 x10) ∧ (zov Tryz.prog 211 (.map (some m1)) (.int .i64 x10) (.int .i64 1125899906842624) h6 (fun h8 => k1 true (IntKind.wrap .i64 (x1 + 1)) h8 ∧ z1 true (IntKind.wrap .i64 (x1 + 1)) h8 < z1 b2 x1 h3)) else ∃ x11 : Int, hcell h6 ⟨m4, 0, none⟩ = some (.int .i64 x11) ∧ (zov Tryz.prog 211 (.map (some m1)) (.int .i64 x11) (.int .i64 x7) h6 (fun h9 => k1 b2 (IntKind.wrap .i64 (x1 + 1)) h9 ∧ z1 b2 (IntKind.wrap .i64 (x1 + 1)) h9 < z1 b2 x1 h3))))))))))))))) else (bif b2 then R (.tuple #[.map none, .int .i64 5]) h3 else R (.tuple #[.map (some m1), .int .i64 0]) h3))))))
theorem V110 (lA : Option Addr) (lN : Nat) (lC : Nat) (h : zab) (R : Value → zab → Prop) (hh : VC110 lA lN lC h R) : Run Tryz.prog 110 [.slice lA lN lC] h R :=
 zap zl4 Tryz.func110 (by kernel_rfl) (H := H110) (by kernel_rfl) hh
def H200 : Hn := ⟨[], [], []⟩
def VC200 (s0 : Int) (s1 : Int) (h : zab) (R : Value → zab → Prop) : Prop :=
 zhx h (.cells #[.int .i64 s0, .int .i64 s1] 102) (fun m1 h1 => ∃ x1 : Int, hcell h1 ⟨m1, 0, none⟩ = some (.int .i64 x1) ∧ (bif decide (x1 < 1) then R (.bool true) h1 else ∃ x2 : Int, hcell h1 ⟨m1, 1, none⟩ = some (.int .i64 x2) ∧ (R (.bool (decide (x2 < 0))) h1)))
theorem V200 (s0 : Int) (s1 : Int) (h : zab) (R : Value → zab → Prop) (hh : VC200 s0 s1 h R) : Run Tryz.prog 200 [.agg #[.int .i64 s0, .int .i64 s1]] h R :=
 zap zl4 Tryz.func200 (by kernel_rfl) (H := H200) (by kernel_rfl) hh
def H274 : Hn := ⟨[(2, [(8, .i .i64)])], [], []⟩
def VC274 (sA : Option Addr) (sN : Nat) (sC : Nat) (f : Value) (h : zab) (R : Value → zab → Prop) : Prop :=
 ∃ k1 : Int → zab → Prop, ∃ z1 : Int → zab → Nat, k1 0 h ∧ (∀ g1 : Nat → Value, ∀ h1 : zab, ∀ x1 : Int, k1 x1 h1 → (bif decide (x1 < (sN : Int)) then zbj sA (fun m1 m2 => 0 ≤ x1 ∧ x1 < (sN : Int) ∧ (∃ x2 : Int, hcell h1 ⟨m1, m2 + Int.toNat x1 * 2, none⟩ = some (.int .i64 x2) ∧ (∃ x3 : Int, hcell h1 ⟨m1, m2 + Int.toNat x1 * 2 + 1, none⟩ = some (.int .i64 x3) ∧ (zie Tryz.prog f [.agg #[.int .i64 x2, .int .i64 x3]] h1 (fun v1 h2 => ∃ b1 : Bool, v1 = .bool b1 ∧ (bif b1 then R (.int .i64 x1) h2 else k1 (IntKind.wrap .i64 (x1 + 1)) h2 ∧ z1 (IntKind.wrap .i64 (x1 + 1)) h2 < z1 x1 h1)))))) else R (.int .i64 (-1)) h1))
theorem V274 (sA : Option Addr) (sN : Nat) (sC : Nat) (f : Value) (h : zab) (R : Value → zab → Prop) (hh : VC274 sA sN sC f h R) : Run Tryz.prog 274 [.slice sA sN sC, f] h R :=
 zap zl4 Tryz.func274 (by kernel_rfl) (H := H274) (by kernel_rfl) hh
def H199 : Hn := ⟨[], [], []⟩
def VC199 (sA : Option Addr) (sN : Nat) (sC : Nat) (f : Value) (h : zab) (R : Value → zab → Prop) : Prop :=
 Run Tryz.prog 274 [.slice sA sN sC, f] h (fun v1 h1 => ∃ x1 : Int, v1 = .int .i64 x1 ∧ (R (.bool (decide (x1 ≥ 0))) h1))
theorem V199 (sA : Option Addr) (sN : Nat) (sC : Nat) (f : Value) (h : zab) (R : Value → zab → Prop) (hh : VC199 sA sN sC f h R) : Run Tryz.prog 199 [.slice sA sN sC, f] h R :=
 zap zl4 Tryz.func199 (by kernel_rfl) (H := H199) (by kernel_rfl) hh
def H137 : Hn := ⟨[], [], []⟩
def VC137 (a : Int) (b : Int) (h : zab) (R : Value → zab → Prop) : Prop :=
 bif decide (a ≥ 0) == decide (b ≥ 0) then (bif !(decide (IntKind.wrap .i64 (a + b) ≥ 0) == decide (a ≥ 0)) then R (.tuple #[.int .i64 0, .int .i64 5]) h else R (.tuple #[.int .i64 (IntKind.wrap .i64 (a + b)), .int .i64 0]) h) else R (.tuple #[.int .i64 (IntKind.wrap .i64 (a + b)), .int .i64 0]) h
theorem V137 (a : Int) (b : Int) (h : zab) (R : Value → zab → Prop) (hh : VC137 a b h R) : Run Tryz.prog 137 [.int .i64 a, .int .i64 b] h R :=
 zap zl4 Tryz.func137 (by kernel_rfl) (H := H137) (by kernel_rfl) hh
def H49 : Hn := ⟨[], [], []⟩
def VC49 (lA : Option Addr) (lN : Nat) (lC : Nat) (h : zab) (R : Value → zab → Prop) : Prop :=
 Run Tryz.prog 110 [.slice lA lN lC] h (fun v1 h1 => ∃ r1 : Option Nat, ∃ x1 : Int, v1 = .tuple #[.map r1, .int .i64 x1] ∧ (Run Tryz.prog 111 [.map r1] h1 (fun v2 h2 => ∃ p1 : Option Addr, ∃ m1 : Nat, ∃ m2 : Nat, v2 = .slice p1 m1 m2 ∧ (R (.tuple #[.slice p1 m1 m2, .int .i64 x1]) h2))))
theorem V49 (lA : Option Addr) (lN : Nat) (lC : Nat) (h : zab) (R : Value → zab → Prop) (hh : VC49 lA lN lC h R) : Run Tryz.prog 49 [.slice lA lN lC] h R :=
 zap zl4 Tryz.func49 (by kernel_rfl) (H := H49) (by kernel_rfl) hh
def H111 : Hn := ⟨[(3, [(3, .sl)])], [], [(7, 211)]⟩
def VC111 (m : Option Nat) (h : zab) (R : Value → zab → Prop) : Prop :=
 zdj Tryz.prog 211 (.map m) h (fun v1 h1 => ∃ k1 : Option Addr → Nat → Nat → zab → Prop, ∃ z1 : Option Addr → Nat → Nat → zab → Nat, k1 none 0 0 h1 ∧ (∀ g1 : Nat → Value, ∀ h2 : zab, ∀ p1 : Option Addr, ∀ m1 : Nat, ∀ m2 : Nat, k1 p1 m1 m2 h2 → zgx Tryz.prog v1 h2 (fun h3 => Run Tryz.prog 201 [.slice p1 m1 m2, .func (.func 202) #[] #[]] h3 (fun v4 h4 => v4 = .tuple #[] ∧ (R (.slice p1 m1 m2) h4))) (fun v2 v3 h5 => zcw Tryz.prog v1 h5 (fun v5 h6 => ∃ x1 : Int, ∃ x2 : Int, v5 = .tuple #[.int .i64 x1, .int .i64 x2] ∧ (bif decide (x2 > 0) then zhx h6 (.cells #[.int .i64 x1, .int .i64 x2] 102) (fun m3 h7 => ze5 Tryz.prog #[36, 36] 36 (.slice p1 m1 m2) (.slice (some ⟨m3, 0, none⟩) 1 1) h7 (fun v6 h8 => ∃ p2 : Option Addr, ∃ m4 : Nat, ∃ m5 : Nat, v6 = .slice p2 m4 m5 ∧ (k1 p2 m4 m5 h8 ∧ z1 p2 m4 m5 h8 < z1 p1 m1 m2 h2))) else k1 p1 m1 m2 h6 ∧ z1 p1 m1 m2 h6 < z1 p1 m1 m2 h2)))))
theorem V111 (m : Option Nat) (h : zab) (R : Value → zab → Prop) (hh : VC111 m h R) : Run Tryz.prog 111 [.map m] h R :=
 zap zl4 Tryz.func111 (by kernel_rfl) (H := H111) (by kernel_rfl) hh
def H202 : Hn := ⟨[], [], []⟩
def VC202 (a0 : Int) (a1 : Int) (b0 : Int) (b1 : Int) (h : zab) (R : Value → zab → Prop) : Prop :=
 zhx h (.cells #[.int .i64 a0, .int .i64 a1] 102) (fun m1 h1 => zhx h1 (.cells #[.int .i64 b0, .int .i64 b1] 102) (fun m2 h2 => ∃ x1 : Int, hcell h2 ⟨m1, 0, none⟩ = some (.int .i64 x1) ∧ (∃ x2 : Int, hcell h2 ⟨m2, 0, none⟩ = some (.int .i64 x2) ∧ (R (.int .i64 (IntKind.wrap .i64 (x1 - x2))) h2))))
theorem V202 (a0 : Int) (a1 : Int) (b0 : Int) (b1 : Int) (h : zab) (R : Value → zab → Prop) (hh : VC202 a0 a1 b0 b1 h R) : Run Tryz.prog 202 [.agg #[.int .i64 a0, .int .i64 a1], .agg #[.int .i64 b0, .int .i64 b1]] h R :=
 zap zl4 Tryz.func202 (by kernel_rfl) (H := H202) (by kernel_rfl) hh
def H141 : Hn := ⟨[], [], []⟩
def VC141 (aA : Option Addr) (aN : Nat) (aC : Nat) (bA : Option Addr) (bN : Nat) (bC : Nat) (h : zab) (R : Value → zab → Prop) : Prop :=
 Run Tryz.prog 229 [.slice aA aN aC, .slice bA bN bC] h (fun v1 h1 => ∃ r1 : Option Nat, ∃ r2 : Option Nat, ∃ x1 : Int, v1 = .tuple #[.map r1, .map r2, .int .i64 x1] ∧ (bif x1 != 0 then R (.tuple #[.slice none 0 0, .int .i64 x1]) h1 else Run Tryz.prog 111 [.map r1] h1 (fun v2 h2 => ∃ p1 : Option Addr, ∃ m1 : Nat, ∃ m2 : Nat, v2 = .slice p1 m1 m2 ∧ (Run Tryz.prog 111 [.map r2] h2 (fun v3 h3 => ∃ p2 : Option Addr, ∃ m3 : Nat, ∃ m4 : Nat, v3 = .slice p2 m3 m4 ∧ (ze5 Tryz.prog #[36, 36] 36 (.slice p1 m1 m2) (.slice p2 m3 m4) h3 (fun v4 h4 => ∃ p3 : Option Addr, ∃ m5 : Nat, ∃ m6 : Nat, v4 = .slice p3 m5 m6 ∧ (Run Tryz.prog 49 [.slice p3 m5 m6] h4 (fun v5 h5 => ∃ p4 : Option Addr, ∃ m7 : Nat, ∃ m8 : Nat, ∃ x2 : Int, v5 = .tuple #[.slice p4 m7 m8, .int .i64 x2] ∧ (R (.tuple #[.slice p4 m7 m8, .int .i64 x2]) h5))))))))))
theorem V141 (aA : Option Addr) (aN : Nat) (aC : Nat) (bA : Option Addr) (bN : Nat) (bC : Nat) (h : zab) (R : Value → zab → Prop) (hh : VC141 aA aN aC bA bN bC h R) : Run Tryz.prog 141 [.slice aA aN aC, .slice bA bN bC] h R :=
 zap zl4 Tryz.func141 (by kernel_rfl) (H := H141) (by kernel_rfl) hh
def H229 : Hn := ⟨[], [], []⟩
def VC229 (aA : Option Addr) (aN : Nat) (aC : Nat) (bA : Option Addr) (bN : Nat) (bC : Nat) (h : zab) (R : Value → zab → Prop) : Prop :=
 Run Tryz.prog 110 [.slice aA aN aC] h (fun v1 h1 => ∃ r1 : Option Nat, ∃ x1 : Int, v1 = .tuple #[.map r1, .int .i64 x1] ∧ (bif x1 != 0 then R (.tuple #[.map none, .map none, .int .i64 x1]) h1 else Run Tryz.prog 110 [.slice bA bN bC] h1 (fun v2 h2 => ∃ r2 : Option Nat, ∃ x2 : Int, v2 = .tuple #[.map r2, .int .i64 x2] ∧ (R (.tuple #[.map r1, .map r2, .int .i64 x2]) h2))))
theorem V229 (aA : Option Addr) (aN : Nat) (aC : Nat) (bA : Option Addr) (bN : Nat) (bC : Nat) (h : zab) (R : Value → zab → Prop) (hh : VC229 aA aN aC bA bN bC h R) : Run Tryz.prog 229 [.slice aA aN aC, .slice bA bN bC] h R :=
 zap zl4 Tryz.func229 (by kernel_rfl) (H := H229) (by kernel_rfl) hh
end
section
attribute [local irreducible] ze5 zjx delK zov zfp zjq zdj zgx zcw zbe zb0 zcp
def zh7 (x : Stk) : List Value := [.int .i64 x.1, .int .i64 x.2]
theorem ze2 (x : Stk) : (zh7 x).length = 2 := rfl
abbrev Sl (h : zab) (a : Option Addr) (n c : Nat) (l : List Stk) : Prop := SlOf zh7 2 h a n c l
theorem Sl.el {h : zab} {a : Option Addr} {n c : Nat} {l : List Stk} (s : Sl h a n c l) {i : Nat} (hi : i < l.length) {K : Nat → Nat → Prop}
 (hK : ∀ b o, hcell h ⟨b, o + Int.toNat (i : Int) * 2, none⟩ = some (.int .i64 l[i].1) → hcell h ⟨b, o + Int.toNat (i : Int) * 2 + 1, none⟩ = some (.int .i64 l[i].2) → K b o) : zbj a K :=
 SlOf.el s rfl hi fun b o hc => hK b o (hc 0 _ rfl) (hc 1 _ rfl)
theorem tyS : Tryz.prog.underlying 36 = some (.slice 102) := by kernel_rfl
theorem inS : ∃ i, Tryz.prog.info? 102 = some i ∧ i.size = 2 ∧ i.bytes = 16 ∧ i.zero = some (.agg #[.int .i64 0, .int .i64 0]) := by
 have h : (Tryz.prog.info? 102).map (fun i => (i.size, i.bytes, i.zero)) = some (2, 16, some (.agg #[.int .i64 0, .int .i64 0])) := by kernel_rfl
 cases hi : Tryz.prog.info? 102 with
 | none => rw [hi] at h; cases h
 | some i => rw [hi] at h; simp only [Option.map_some, Option.some.injEq, Prod.mk.injEq] at h; exact ⟨i, rfl, h⟩
theorem app1 {B b : Nat} {h : zab} {a : Option Addr} {n c : Nat} {r : List Stk} {x : Stk} {K : Value → zab → Prop} (hown : OwnS B 102 2 h a n c (r.flatMap zh7)) (hB : B ≤ h.size) (hn : n ≤ 1000000)
 (hx : h[b]? = some (.cells #[.int .i64 x.1, .int .i64 x.2] 102 (0, 0)))
 (hK : ∀ (a' : Option Addr) (c' : Nat) (h' : zab), OwnS B 102 2 h' a' (n + 1) c' ((r ++ [x]).flatMap zh7) → KB (ownB a) h h' → (∀ b o, a' = some ⟨b, o, none⟩ → b ∈ ownB a ∨ h.size ≤ b) → K (.slice a' (n + 1) c') h') :
 ze5 Tryz.prog #[36, 36] 36 (.slice a n c) (.slice (some ⟨b, 0, none⟩) 1 1) h K := by
 obtain ⟨i, hi, hsz, hby, hz⟩ := inS
 refine zqm (P := Tryz.prog) (T := 36) (E := 102) (b2 := b) (o2 := 0) (new := zh7 x) (m := 1) (K := K) tyS hi hz (by rw [hsz]; rfl) (by rw [hby]; decide) (by rw [hsz]; exact hown) hB (fun j v hv => ?_) (by rw [hsz]; rfl) (fun v hv => ?_) (by rw [hby]; omega) ?_
 · rw [zao hx, Nat.zero_add]; simpa [zh7] using hv
 · simp [zh7] at hv; rcases hv with rfl | rfl <;> rfl
 · intro a' c' h' h1 h2 h3
   rw [hsz] at h1
   exact hK a' c' h' (by simpa using h1) h2 h3
theorem OwnS.ge {B : Nat} {e : TypeId} {sz : Nat} {h : zab} {a : Option Addr} {n c : Nat} {cs : List Value} (s : OwnS B e sz h a n c cs) : ∀ b ∈ ownB a, B ≤ b := by
 rcases s with ⟨rfl, -⟩ | ⟨b, l, rfl, h1, -⟩
 · intro b hb; simp [ownB] at hb
 · intro b' hb; simp [ownB] at hb; omega
end
section
attribute [local irreducible] ze5 zjx delK zov zfp zjq zdj zgx zcw zbe zb0 zcp
def MVo (c : List Stk) : KV := c.map fun p => (p.1, .int .i64 p.2)
def cSet (c : List Stk) (k n : Int) : List Stk :=
 match c with
 | [] => [(k, n)]
 | p :: c => if p.1 = k then (k, n) :: c else p :: cSet c k n
theorem MV_set (c : List Stk) (k n : Int) : zjr (MVo c) k (.int .i64 n) = MVo (cSet c k n) := by
 induction c with
 | nil => rfl
 | cons p c ih =>
   show zjr ((p.1, _) :: MVo c) k _ = MVo (if p.1 = k then _ else _)
   simp only [zjr]
   split
   · rfl
   · rw [ih]; rfl
theorem zqq (c : List Stk) : (MVo c).map (·.1) = c.map (·.1) := by simp [MVo, Function.comp_def]
theorem MV_get {c : List Stk} (hn : (c.map (·.1)).Nodup) (k : Int) : (zpr (MVo c) k).getD (.int .i64 0) = .int .i64 (tot c k) := by
 induction c with
 | nil => rfl
 | cons p c ih =>
   rw [List.map_cons, List.nodup_cons] at hn
   show (zpr ((p.1, _) :: MVo c) k).getD _ = _
   simp only [zpr, tot]
   by_cases h : p.1 = k
   · subst h
     rw [if_pos rfl, if_pos rfl, zhg hn.1, Int.add_zero]; rfl
   · rw [if_neg h, if_neg h, ih hn.2, Int.zero_add]
theorem cSet_tot {c : List Stk} (hn : (c.map (·.1)).Nodup) (k n j : Int) : tot (cSet c k n) j = if j = k then n else tot c j := by
 induction c with
 | nil => simp only [cSet, tot]; split <;> split <;> omega
 | cons p c ih =>
   rw [List.map_cons, List.nodup_cons] at hn
   simp only [cSet]
   by_cases h : p.1 = k
   · rw [if_pos h]
     subst h
     simp only [tot]
     by_cases hj : j = p.1
     · subst hj; rw [if_pos rfl, if_pos rfl, zhg hn.1]; omega
     · rw [if_neg hj, if_neg (Ne.symm hj), if_neg (Ne.symm hj)]
   · rw [if_neg h]
     simp only [tot]
     rw [ih hn.2]
     by_cases hj : j = k
     · subst hj; rw [if_pos rfl, if_pos rfl, if_neg h]; omega
     · rw [if_neg hj, if_neg hj]
theorem cSet_mem {c : List Stk} {k n : Int} {p : Stk} (h : p ∈ cSet c k n) : p = (k, n) ∨ p ∈ c := by
 induction c with
 | nil => left; simpa [cSet] using h
 | cons q c ih =>
   simp only [cSet] at h
   split at h
   · rcases List.mem_cons.1 h with h | h
     · exact .inl h
     · exact .inr (by simp [h])
   · rcases List.mem_cons.1 h with h | h
     · exact .inr (by simp [h])
     · rcases ih h with h | h
       · exact .inl h
       · exact .inr (by simp [h])
theorem zd7 {c : List Stk} (hn : (c.map (·.1)).Nodup) {p : Stk} (hp : p ∈ c) : tot c p.1 = p.2 := by
 induction c with
 | nil => simp at hp
 | cons q c ih =>
   rw [List.map_cons, List.nodup_cons] at hn
   simp only [tot]
   rcases List.mem_cons.1 hp with rfl | hp
   · rw [if_pos rfl, zhg hn.1, Int.add_zero]
   · rw [if_neg (fun e => hn.1 (by rw [e]; exact List.mem_map.2 ⟨p, hp, rfl⟩)), ih hn.2 hp, Int.zero_add]
theorem tyM : Tryz.prog.underlying 211 = some (.map 3 3) := by kernel_rfl
theorem tyI : Tryz.prog.underlying 3 = some (.int .i64) := by kernel_rfl
theorem inI : ∃ i, Tryz.prog.info? 3 = some i ∧ i.zero = some (.int .i64 0) := by
 have h : (Tryz.prog.info? 3).map (fun i => i.zero) = some (some (.int .i64 0)) := by kernel_rfl
 cases hi : Tryz.prog.info? 3 with
 | none => rw [hi] at h; cases h
 | some i => rw [hi] at h; simp only [Option.map_some, Option.some.injEq] at h; exact ⟨i, rfl, h⟩
theorem lookM {h : zab} {r : Option Nat} {c : List Stk} (hm : MapO h r (MVo c)) {k : Int} {K : Value → Prop} (hK : (c.map (·.1)).Nodup → K (.int .i64 (tot c k))) :
 zfp Tryz.prog 211 (.map r) (.int .i64 k) false h K := by
 obtain ⟨i, hi, hz⟩ := inI
 have hn : (c.map (·.1)).Nodup := by
  cases r with
  | none => have : c = [] := by simpa [MapO, MVo] using hm
            subst this; exact .nil
  | some b => rw [← zqq]; exact MapI.nodup hm
 refine look_spec tyM tyI hi hz hm ?_
 rw [if_neg (by simp), MV_get hn]
 exact hK hn
theorem updM {h : zab} {b : Nat} {c : List Stk} (hm : MapI h b (MVo c)) {k n : Int} {K : zab → Prop}
 (hK : ∀ h' : zab, MapI h' b (MVo (cSet c k n)) → KB [b] h h' → h'.size = h.size → K h') : zov Tryz.prog 211 (.map (some b)) (.int .i64 k) (.int .i64 n) h K :=
 upd_spec tyM tyI hm (by rw [MV_set]; exact hK)
theorem callV_fn {P : Program} {g : FuncId} {args : List Value} {h : zab} {R : Value → zab → Prop} (hr : Run P g args h R) : zie P (.func (.func g) #[] #[]) args h R := by
 unfold zie
 simpa using hr
theorem calcAdd_spec {a b : Int} {h : zab} {R : Value → zab → Prop} (ha : 0 ≤ a ∧ a ≤ zha) (hb : 0 ≤ b ∧ b ≤ 9223372036854775807)
 (h1 : a + b ≤ 9223372036854775807 → R (.tuple #[.int .i64 (a + b), .int .i64 0]) h) (h2 : 9223372036854775807 < a + b → R (.tuple #[.int .i64 0, .int .i64 5]) h) : Run Tryz.prog 137 [.int .i64 a, .int .i64 b] h R := by
 have hM : zha = 1125899906842624 := rfl
 refine V137 _ _ _ _ ?_
 unfold VC137
 rw [decide_eq_true ha.1, decide_eq_true hb.1]
 show cond (!(decide (IntKind.wrap .i64 (a + b) ≥ 0) == true)) _ _
 by_cases hs : a + b ≤ 9223372036854775807
 · rw [w64 (by omega) hs, decide_eq_true (show a + b ≥ 0 by omega)]
   exact h1 hs
 · have hw : IntKind.wrap .i64 (a + b) = a + b - 18446744073709551616 := by
    have hb : (2 ^ IntKind.i64.bits : Int) = 18446744073709551616 := by decide
    have hb1 : (2 ^ (IntKind.i64.bits - 1) : Int) = 9223372036854775808 := by decide
    simp only [IntKind.wrap, IntKind.signed, hb, hb1, Bool.true_and, decide_eq_true_eq, ge_iff_le]
    split <;> omega
   rw [hw, decide_eq_false (show ¬ a + b - 18446744073709551616 ≥ 0 by omega)]
   exact h2 (by omega)
theorem zqf (s0 s1 : Int) (h : zab) : Run Tryz.prog 200 [.agg #[.int .i64 s0, .int .i64 s1]] h fun v h' => zg8 h h' ∧ v = .bool (decide (s0 < 1 ∨ s1 < 0)) := by
 refine V200 _ _ _ _ ?_
 unfold VC200
 refine zcn fun h1 hb k1 s1' => ?_
 refine ⟨_, by rw [zao hb]; rfl, ?_⟩
 refine cIf (fun h2 => ⟨k1, by rw [decide_eq_true (.inl h2)]⟩) fun h2 => ⟨_, by rw [zao hb]; rfl, k1, ?_⟩
 by_cases h3 : s1 < 0
 · rw [decide_eq_true h3, decide_eq_true (.inr h3)]
 · rw [decide_eq_false h3, decide_eq_false (by omega)]
theorem zpu {h : zab} {a : Option Addr} {n c : Nat} {l : List Stk} (s : Sl h a n c l) (hn : n ≤ 1000) : Run Tryz.prog 274 [.slice a n c, .func (.func 200) #[] #[]] h fun v h' => ∃ x : Int, v = .int .i64 x ∧ zg8 h h' ∧ (0 ≤ x ↔ ¬ good l) := by
 have hln : l.length = n := s.1
 refine V274 _ _ _ _ _ _ ?_
 unfold VC274
 refine ⟨fun x h1 => zg8 h h1 ∧ ∃ i : Nat, x = i ∧ i ≤ n ∧ good (l.take i), fun x _ => n - x.toNat, ⟨.refl _ _, 0, rfl, by omega, by intro s hs; simp at hs⟩, ?_⟩
 rintro - h1 x ⟨k1, i, rfl, hi, hg⟩
 have s1 := s.keep k1
 refine cIf (fun hx => ?_) (fun hx => ?_)
 · have hil : i < l.length := by omega
   refine Sl.el s1 hil fun b o c0 c1 => ⟨by omega, by omega, _, c0, _, c1, ?_⟩
   refine callV_fn ((zqf _ _ _).mono ?_)
   rintro v h2 ⟨k2, rfl⟩
   refine ⟨_, rfl, ?_⟩
   refine cIf (fun hb => ?_) (fun hb => ?_)
   · exact ⟨_, rfl, k1.trans k2, ⟨fun _ hgl => by have := good_mem hgl hil; omega, fun _ => by omega⟩⟩
   · rw [w64n (by omega)]
     refine ⟨⟨k1.trans k2, i + 1, rfl, by omega, ?_⟩, by simp only [Int.toNat_natCast]; omega⟩
     rw [take_snoc hil]
     exact good_append.2 ⟨hg, fun u hu => by simp at hu; subst hu; omega⟩
 · have hin : i = l.length := by omega
   subst hin
   rw [List.take_length] at hg
   exact ⟨_, rfl, k1, ⟨fun h => by omega, fun h => absurd hg h⟩⟩
theorem hasBad_spec {h : zab} {a : Option Addr} {n c : Nat} {l : List Stk} (s : Sl h a n c l) (hn : n ≤ 1000) : Run Tryz.prog 199 [.slice a n c, .func (.func 200) #[] #[]] h fun v h' => ∃ b : Bool, v = .bool b ∧ zg8 h h' ∧ (b = true ↔ ¬ good l) := by
 refine V199 _ _ _ _ _ _ ?_
 unfold VC199
 refine (zpu s hn).mono ?_
 rintro v h1 ⟨x, rfl, k1, hx⟩
 exact ⟨_, rfl, _, rfl, k1, by rw [decide_eq_true_iff]; exact hx⟩
structure CM (l c : List Stk) : Prop where
 tots : ∀ k, tot c k = tot l k
 pos : ∀ p ∈ c, 1 ≤ p.1 ∧ 0 ≤ p.2 ∧ p.2 ≤ zha
 top : ∀ p ∈ c, p.1 ≤ 9223372036854775807
 len : c.length ≤ l.length
theorem cSet_len (c : List Stk) (k n : Int) : (cSet c k n).length ≤ c.length + 1 := by
 induction c with
 | nil => simp [cSet]
 | cons p c ih =>
   simp only [cSet]
   split <;> simp only [List.length_cons] <;> omega
def CountsR (h : zab) (l : List Stk) (v : Value) (h' : zab) : Prop :=
 ∃ (r : Option Nat) (c : List Stk) (e : Int), v = .tuple #[.map r, .int .i64 e] ∧ MapO h' r (MVo c) ∧ zg8 h h' ∧ (∀ b, r = some b → h.size ≤ b) ∧ e = errN l ∧ (e = 0 → CM l c ∧ ∃ b, r = some b) ∧ (e ≠ 0 → r = none ∧ c = [])
theorem ze4 {h : zab} {a : Option Addr} {n c : Nat} {l : List Stk} (s : Sl h a n c l) (hr : rng l) (hn : n ≤ 1000) : Run Tryz.prog 110 [.slice a n c] h (CountsR h l) := by
 have hln : l.length = n := s.1
 have hM : zha = 1125899906842624 := rfl
 refine V110 _ _ _ _ _ ?_
 unfold VC110
 refine (hasBad_spec s hn).mono ?_
 rintro v h1 ⟨b, rfl, k1, hb⟩
 refine ⟨_, rfl, cB (fun ht => ?_) (fun hf => ?_)⟩
 · exact ⟨none, [], 1, rfl, rfl, k1, (fun b hb => nomatch hb), (zpz (hb.1 ht)).symm, by simp, fun _ => ⟨rfl, rfl⟩⟩
 have hg : good l := Classical.byContradiction fun hng => by rw [hb.2 hng] at hf; cases hf
 refine zcn fun h2 hm2 k2 s2 => ?_
 refine ⟨fun b x h3 => ∃ (i : Nat) (c : List Stk), x = i ∧ i ≤ n ∧ zg8 h h3 ∧ h1.size < h3.size ∧ MapI h3 h1.size (MVo c) ∧ (∀ p ∈ c, 1 ≤ p.1 ∧ 0 ≤ p.2 ∧ p.2 ≤ zha) ∧ (∀ p ∈ c, p.1 ≤ 9223372036854775807) ∧ c.length ≤ i ∧ (b = false → ∀ k, tot c k = tot (l.take i) k) ∧ (b = true → over l),
  fun _ x _ => n - x.toNat, ⟨0, [], rfl, by omega, k1.trans k2, by omega, .made hm2, by simp, by simp, by simp, fun _ k => by simp [tot], by simp⟩, ?_⟩
 rintro - h3 bb x ⟨i, c, rfl, hi, k3, hs3, hm, hpos, htop, hlen, hF, hT⟩
 have s3 := s.keep k3
 refine cIf (fun hx => ?_) (fun hx => ?_)
 · have hil : i < l.length := by omega
   have hgm := good_mem hg hil
   have hrm := hr l[i] (by simp)
   refine Sl.el s3 hil fun b o c0 c1 => ⟨by omega, by omega, _, c0, _, c1, ?_⟩
   refine zcn fun h4 hb4 k4 s4 => ?_
   refine zf8 (l := [.int .i64 0, .int .i64 0]) hb4 (by simp) (by simp [single]) fun h5 hb5 k5 s5 => ?_
   have hb5' : h5[h3.size]? = some (.cells #[.int .i64 l[i].1, .int .i64 l[i].2] 102 (0, 0)) := by simpa [zar] using hb5
   have k45 : zg8 h3 h5 := ((KB.of_keep k4).trans k5).keep (by simp)
   have hm5 := hm.keep k45
   refine ⟨_, by rw [zao hb5']; rfl, ?_⟩
   refine lookM (r := some h1.size) hm5 fun hnd => ⟨_, rfl, ?_⟩
   refine ⟨_, by rw [zao hb5']; rfl, ?_⟩
   have ht0 : 0 ≤ tot c l[i].1 ∧ tot c l[i].1 ≤ zha := by
    by_cases h0 : tot c l[i].1 = 0
    · rw [h0]; decide
    · obtain ⟨p, hp, he⟩ := zb9 h0
      rw [← he, zd7 hnd hp]; exact (hpos p hp).2
   rw [w64n (by omega)]
   have hsn : ∀ k, tot (l.take (i + 1)) k = tot (l.take i) k + if l[i].1 = k then l[i].2 else 0 := fun k => by rw [take_snoc hil, tot_snoc]
   have hcell : hcell h5 ⟨h3.size, 0, none⟩ = some (.int .i64 l[i].1) := by rw [zao hb5']; rfl
   have hput : ∀ (b' : Bool) (n' : Int) (h7 : zab), 0 ≤ n' → n' ≤ zha → (b' = false → bb = false ∧ n' = tot c l[i].1 + l[i].2) → (b' = true → over l) → MapI h7 h1.size (MVo (cSet c l[i].1 n')) → KB [h1.size] h5 h7 → h7.size = h5.size →
    (∃ (i' : Nat) (c : List Stk), ((i + 1 : Nat) : Int) = i' ∧ i' ≤ n ∧ zg8 h h7 ∧ h1.size < h7.size ∧ MapI h7 h1.size (MVo c) ∧ (∀ p ∈ c, 1 ≤ p.1 ∧ 0 ≤ p.2 ∧ p.2 ≤ zha) ∧ (∀ p ∈ c, p.1 ≤ 9223372036854775807) ∧ c.length ≤ i' ∧ (b' = false → ∀ k, tot c k = tot (l.take i') k) ∧ (b' = true → over l)) ∧
    n - Int.toNat ((i + 1 : Nat) : Int) < n - Int.toNat (i : Int) := by
    intro b' n' h7 h70 h71 hf' ht' hm7 k7 s7
    refine ⟨⟨i + 1, _, rfl, by omega, ((KB.of_keep (k3.trans k45)).trans k7).keep (by have := k1.size; simp; omega), by have := k45.size; omega, hm7, fun p hp => ?_, fun p hp => ?_, by have := cSet_len c l[i].1 n'; omega, fun hb' k => ?_, ht'⟩, by simp only [Int.toNat_natCast]; omega⟩
    · rcases cSet_mem hp with rfl | hp
      · exact ⟨hgm.1, h70, h71⟩
      · exact hpos p hp
    · rcases cSet_mem hp with rfl | hp
      · exact hrm.1.2
      · exact htop p hp
    · obtain ⟨h8, h9⟩ := hf' hb'
      rw [cSet_tot hnd, hsn, ← hF h8, h9]
      by_cases hk : k = l[i].1
      · subst hk; rw [if_pos rfl, if_pos rfl]
      · rw [if_neg hk, if_neg (Ne.symm hk), Int.add_zero]
   have hovr : zha < tot c l[i].1 + l[i].2 → over l := by
    intro ho
    cases hbb : bb with
    | true => exact hT hbb
    | false =>
      refine ⟨l[i], by simp, ?_⟩
      have h1 := hF hbb l[i].1
      have h2 := hsn l[i].1
      rw [if_pos rfl] at h2
      have h3 := tot_take_le hg (i + 1) l[i].1
      omega
   refine calcAdd_spec ht0 (by omega) (fun ha => ⟨_, _, rfl, ?_⟩) (fun ha => ⟨_, _, rfl, ?_⟩)
   · refine cNe (fun h => absurd rfl h) fun _ => ?_
     refine cIf (fun ho => ?_) (fun ho => ?_)
     · refine ⟨_, hcell, updM hm5 fun h7 hm7 k7 s7 => ?_⟩
       exact hput true _ h7 (by omega) (by omega) (by simp) (fun _ => hovr (by omega)) hm7 k7 s7
     · refine ⟨_, hcell, updM hm5 fun h7 hm7 k7 s7 => ?_⟩
       exact hput bb _ h7 (by omega) (by omega) (fun hb => ⟨hb, rfl⟩) hT hm7 k7 s7
   · refine cNe (fun _ => ?_) fun h => absurd h (by decide)
     refine ⟨_, hcell, updM hm5 fun h7 hm7 k7 s7 => ?_⟩
     exact hput true _ h7 (by omega) (by omega) (by simp) (fun _ => hovr (by omega)) hm7 k7 s7
 · have hin : i = l.length := by omega
   subst hin
   rw [List.take_length] at hF
   refine cB (fun ht => ?_) (fun hf => ?_)
   · exact ⟨none, [], 5, rfl, rfl, k3, (fun b hb => nomatch hb), (zft hg (hT ht)).symm, by simp, fun _ => ⟨rfl, rfl⟩⟩
   · refine ⟨some h1.size, c, 0, rfl, hm, k3, fun b hb => ?_, (zix hg ?_).symm, fun _ => ⟨⟨hF hf, hpos, htop, by omega⟩, _, rfl⟩, fun h => absurd rfl h⟩
     · cases hb; exact k1.size
     · rintro ⟨s, hs, ho⟩
       rw [← hF hf] at ho
       have : 0 ≤ zha := by decide
       obtain ⟨p, hp, he⟩ := zb9 (l := c) (k := s.1) (by omega)
       have hnd : (c.map (·.1)).Nodup := by rw [← zqq]; exact MapI.nodup hm
       rw [← he, zd7 hnd hp] at ho
       have := (hpos p hp).2.2
       omega
end
section
open Go.Sort Go.Shelf
theorem grow_of {W w' : World} (k : zg8 W.heap w'.heap) (s : Same W w') : ∃ q os', w' = grow (W.drewN q) os' := by
 refine ⟨w'.drawn - W.drawn, w'.heap.extract W.heap.size w'.heap.size, ?_⟩
 obtain ⟨hp, tp, dr, os, out⟩ := w'
 obtain ⟨h1, h2, h3, h4⟩ := s
 have k1 := k.size
 have k2 := k.blk
 simp only at h1 h2 h3 h4 k1 k2
 subst h1 h2 h3
 unfold grow World.drewN
 congr 1
 · refine Array.ext_getElem? fun i => ?_
   show hp[i]? = (W.heap ++ hp.extract W.heap.size hp.size)[i]?
   by_cases hi : i < W.heap.size
   · rw [Array.getElem?_append_left hi, k2 i hi (by simp)]
   · rw [Array.getElem?_append_right (by omega), Array.getElem?_extract]
     by_cases hj : i < hp.size
     · rw [if_pos (by omega), show W.heap.size + (i - W.heap.size) = i by omega]
     · rw [if_neg (by omega)]; simp; omega
 · show dr = W.drawn + (dr - W.drawn)
   omega
theorem zh5 {P : Program} {f : FuncId} (hc : zdc P f) (args : Array Value) (w : World) : (callFunc f args).run P w = .ok (.enter f args) w := zff hc args w
variable {P : Program} {ρ : Ren} {α : Type} [Inhabited α]
theorem cmpLays_of {g : Nat} {enc : α → List Value} {k : Nat} {cf : α → α → Int} {blk off size : Nat} {w : World}
 (hrun : ∀ x y h, Run P g [.agg (enc x).toArray, .agg (enc y).toArray] h fun v h' => v = .int .i64 (cf x y) ∧ zg8 h h') : CmpLays P g #[] enc k cf blk off size w := by
 intro m os dk _ x y
 refine ((hrun x y _).2 _ rfl).mono ?_
 rintro e w' ⟨v, rfl, ⟨rfl, hk⟩, hs⟩
 exact ⟨rfl, grow_of hk hs⟩
theorem holdsK_of {enc : α → List Value} {k : Nat} {w : World} {blk : Nat} {d : Array α} {l : Array Value} {E : TypeId} (hb : w.heap[blk]? = some (.cells l E (0, 0))) (hk : ∀ x, (enc x).length = k)
 (hl : ∀ i, i < d.size → ∀ j v, (enc d[i]!)[j]? = some v → l[i * k + j]? = some v) : HoldsK enc k w blk 0 d := by
 intro t ht
 have ht' : t < d.size * k := by simpa using ht
 have hk0 : 0 < k := by
  rcases Nat.eq_zero_or_pos k with h | h
  · subst h; simp at ht'
  · exact h
 have hdiv : t / k < d.size := (Nat.div_lt_iff_lt_mul hk0).2 ht'
 have hmod : t % k < k := Nat.mod_lt _ hk0
 rw [get_flatK enc k d t ht']
 refine ⟨?_, hfroz_of (h := w.heap) hb _⟩
 show hcell w.heap ⟨blk, 0 + t, none⟩ = _
 rw [zao hb, Nat.zero_add]
 have := hl (t / k) hdiv (t % k) (enc d[t / k]!)[t % k]! (by rw [getElem!_pos (enc d[t / k]!) (t % k) (by rw [hk]; exact hmod)]; simp [hk, hmod])
 rw [Nat.mul_comm, Nat.div_add_mod] at this
 exact this
theorem sortRun (L : SlLaysF0.n6 P ρ) {f : FuncId} (hf : ρ.f 6 = f) (hc : zdc P f) (k : Nat) (aE : ∀ w, (isAgg (ρ.t 24)).run P w = .ok true w) (zE : ∀ w, (Go.sizeOf (ρ.t 24)).run P w = .ok k w) (enc : α → List Value) (hk : ∀ x, (enc x).length = k) (h1 : ∀ x, ∀ v ∈ enc x, single v = true)
 (cf : α → α → Int) (hO : SWO (ltOf cf)) (g : Nat) (hg : zdc P g) (hrun : ∀ x y h, Run P g [.agg (enc x).toArray, .agg (enc y).toArray] h fun v h' => v = .int .i64 (cf x y) ∧ zg8 h h')
 {blk cap : Nat} {d : List α} {h : zab} {l : Array Value} {E : TypeId} (hb : h[blk]? = some (.cells l E (0, 0)))
 (hl : ∀ (i : Nat) (x : α), d[i]? = some x → ∀ j v, (enc x)[j]? = some v → l[i * k + j]? = some v) (hsz : d.length < 4611686018427387904) (hcap : d.length ≤ cap) :
 Run P f [.slice (some ⟨blk, 0, none⟩) d.length cap, .func (.func g) #[] #[]] h fun v h' => v = .tuple #[] ∧ KB [blk] h h' ∧
  ∃ r : List α, r.Perm d ∧ r.Pairwise (fun x y => cf y x < 0 → False) ∧ SlOf enc k h' (some ⟨blk, 0, none⟩) d.length cap r ∧ ∃ l' : Array Value, h'[blk]? = some (.cells l' E (0, 0)) ∧ l'.size = l.size := by
 refine ⟨hc, fun w hw => ?_⟩
 subst hw
 have hH : HoldsK enc k w blk 0 d.toArray := holdsK_of hb hk fun i hi j v hv => by
  have hi' : i < d.length := by simpa using hi
  rw [getElem!_pos d.toArray i hi] at hv
  exact hl i d[i] (by simp [hi']) j v (by simpa using hv)
 have hblk := zaz hb
 have hone : ∀ x, ∀ v ∈ enc x, v.oneCell' = true := fun x v hv => by
  have := h1 x v hv
  cases v <;> simp [single] at this <;> rfl
 have hmain := AnyQ.slices_SortFunc L k aE zE enc hk hone cf hO g #[] blk 0 cap d.toArray w (zh5 hg) (cmpLays_of hrun) hH hblk (by simpa using hsz)
 rw [hf] at hmain
 simp only [List.size_toArray] at hmain
 refine hmain.mono ?_
 rintro e w' ⟨rfl, d', n, os, hp, hs, hw⟩
 obtain ⟨hp1, hp2, hp3⟩ := hp
 simp only [List.size_toArray] at hp1 hp2 hp3
 have hswk : SWK enc k w blk 0 d' w' := ⟨n, os, hw⟩
 have hh := hswk.holds hblk hH (by simpa using hp1)
 refine ⟨_, rfl, ⟨rfl, ⟨hswk.le, fun b hb1 hb2 => ?_⟩, d'.toList, ?_, ?_, ?_, putCells id 0 (flatK enc k d') l, ?_, by simp [putCells]⟩, ?_⟩
 · rw [hw]
   show ((putRow id _ blk 0 _).heap ++ os)[b]? = _
   rw [Array.getElem?_append_left (by rw [size_putRow]; exact hb1)]
   show ((Sort.ahead w n).heap.modify blk _)[b]? = _
   rw [Array.getElem?_modify, if_neg (by simp at hb2; omega)]
   rfl
 · have e1 : d'.extract 0 d.length = d' := by rw [← hp1]; simp
   have e2 : d.toArray.extract 0 d.length = d.toArray := by simp
   rw [e1, e2] at hp3
   simpa using hp3
 · rw [List.pairwise_iff_getElem]
   intro i j hi hj hij
   simp only [Array.length_toList] at hi hj
   have := hs i j (Nat.zero_le _) hij (by omega)
   rw [getElem!_pos d' j hj, getElem!_pos d' i hi] at this
   intro hlt
   simp only [Array.getElem_toList] at hlt
   unfold ltOf at this
   rw [decide_eq_true hlt] at this
   cases this
 · refine ⟨by simpa using hp1, hcap, fun i x hx => ⟨blk, 0, rfl, fun j v hv => ?_⟩⟩
   have hi : i < d'.size := by
    have := (List.getElem?_eq_some_iff.1 hx).1
    simpa using this
   have hx' : d'[i]! = x := by
    rw [getElem!_pos d' i hi]
    simpa [hi] using hx
   have hj : j < k := by have := (List.getElem?_eq_some_iff.1 hv).1; rwa [hk] at this
   have := (HoldsK.cell hh hi hj).1
   rw [hx', getElem!_pos (enc x) j (by rw [hk]; exact hj)] at this
   rw [List.getElem?_eq_getElem (by rw [hk]; exact hj)] at hv
   rw [Option.some.inj hv] at this
   exact this
 · rw [hw]
   show ((putRow id _ blk 0 _).heap ++ os)[blk]? = _
   rw [Array.getElem?_append_left (by rw [size_putRow]; exact hblk)]
   show ((Sort.ahead w n).heap.modify blk _)[blk]? = _
   rw [Array.getElem?_modify, if_pos rfl]
   show (w.heap[blk]?).map _ = _
   rw [hb]; rfl
 · rw [hw]
   exact ⟨rfl, rfl, rfl, Nat.le_add_right _ _⟩
theorem sortRun_none (L : SlLaysF0.n6 P ρ) {f : FuncId} (hf : ρ.f 6 = f) (hc : zdc P f) {p : Option Addr} {cap : Nat} {fv : Value} {h : zab} : Run P f [.slice p 0 cap, fv] h fun v h' => v = .tuple #[] ∧ h' = h := by
 refine ⟨hc, fun w hw => ?_⟩
 have := AnyF.slices_SortFunc_none L p cap fv w
 rw [hf] at this
 refine this.mono ?_
 rintro e w' ⟨rfl, rfl⟩
 exact ⟨_, rfl, ⟨rfl, hw⟩, .refl _⟩
end
end Go.Proofs.YtobdpeelaadkbaaGreat
namespace Go.Proofs
open Go.Shelf
def Tryz.sortL_ren : Go.Shelf.Ren := ⟨fun | 6 => 201 | 15 => 276 | 14 => 275 | 28 => 326 | 29 => 327 | 20 => 318 | 21 => 319 | 22 => 320 | 23 => 321 | 24 => 322 | 25 => 323 | 26 => 324 | 27 => 325 | 46 => 354 | 47 => 355 | 48 => 356 | 49 => 357 | 50 => 358 | 57 => 372 | n => n, fun | 22 => 36 | 24 => 102 | 25 => 320 | 3 => 3 | 39 => 279 | 0 => 0 | 53 => 417 | 55 => 393 | 4 => 4 | 46 => 411 | 45 => 410 | 50 => 259 | 5 => 5 | 9 => 9 | 66 => 439 | 70 => 443 | 76 => 452 | 77 => 453 | n => n, fun | n => n⟩
theorem Tryz.sortL : Go.Proofs.SlLaysF0.n6 Tryz.prog Tryz.sortL_ren := {
 mixed := by kernel_rfl
 f6 := ⟨Tryz.f201.name, by decide, Tryz.func201.trans (congrArg some (by kernel_rfl))⟩
 f14 := ⟨Tryz.f275.name, by decide, Tryz.func275.trans (congrArg some (by kernel_rfl))⟩
 f15 := Tryz.func276.trans (congrArg some (by kernel_rfl))
 f20 := ⟨Tryz.f318.name, by decide, Tryz.func318.trans (congrArg some (by kernel_rfl))⟩
 f21 := ⟨Tryz.f319.name, by decide, Tryz.func319.trans (congrArg some (by kernel_rfl))⟩
 f22 := ⟨Tryz.f320.name, by decide, Tryz.func320.trans (congrArg some (by kernel_rfl))⟩
 f23 := ⟨Tryz.f321.name, by decide, Tryz.func321.trans (congrArg some (by kernel_rfl))⟩
 f24 := ⟨Tryz.f322.name, by decide, Tryz.func322.trans (congrArg some (by kernel_rfl))⟩
 f25 := ⟨Tryz.f323.name, by decide, Tryz.func323.trans (congrArg some (by kernel_rfl))⟩
 f26 := ⟨Tryz.f324.name, by decide, Tryz.func324.trans (congrArg some (by kernel_rfl))⟩
 f27 := ⟨Tryz.f325.name, by decide, Tryz.func325.trans (congrArg some (by kernel_rfl))⟩
 f28 := Tryz.func326.trans (congrArg some (by kernel_rfl))
 f29 := Tryz.func327.trans (congrArg some (by kernel_rfl))
 f46 := ⟨Tryz.f354.name, by decide, Tryz.func354.trans (congrArg some (by kernel_rfl))⟩
 f47 := Tryz.func355.trans (congrArg some (by kernel_rfl))
 f48 := Tryz.func356.trans (congrArg some (by kernel_rfl))
 f49 := ⟨Tryz.f357.name, by decide, Tryz.func357.trans (congrArg some (by kernel_rfl))⟩
 f50 := ⟨Tryz.f358.name, by decide, Tryz.func358.trans (congrArg some (by kernel_rfl))⟩
 f57 := ⟨Tryz.f372.name, by decide, Tryz.func372.trans (congrArg some (by kernel_rfl))⟩
 t0 := Tryz.underlying0
 a0 := Tryz.isAgg0
 z0 := Tryz.sizeOf0
 v0 := Tryz.zeroValue0
 t3 := Tryz.underlying3
 a3 := Tryz.isAgg3
 z3 := Tryz.sizeOf3
 v3 := Tryz.zeroValue3
 t4 := Tryz.underlying4
 a4 := Tryz.isAgg4
 z4 := Tryz.sizeOf4
 v4 := Tryz.zeroValue4
 t5 := Tryz.underlying5
 a5 := Tryz.isAgg5
 z5 := Tryz.sizeOf5
 v5 := Tryz.zeroValue5
 t9 := Tryz.underlying9
 a9 := Tryz.isAgg9
 z9 := Tryz.sizeOf9
 v9 := Tryz.zeroValue9
 t22 := Tryz.underlying36
 a22 := Tryz.isAgg36
 z22 := Tryz.sizeOf36
 v22 := Tryz.zeroValue36
 t25 := Tryz.underlying320
 a25 := Tryz.isAgg320
 z25 := Tryz.sizeOf320
 v25 := Tryz.zeroValue320
 t39 := Tryz.underlying279
 a39 := Tryz.isAgg279
 z39 := Tryz.sizeOf279
 v39 := Tryz.zeroValue279
 t45 := Tryz.underlying410
 a45 := Tryz.isAgg410
 z45 := Tryz.sizeOf410
 v45 := Tryz.zeroValue410
 t46 := Tryz.underlying411
 a46 := Tryz.isAgg411
 z46 := Tryz.sizeOf411
 v46 := Tryz.zeroValue411
 t50 := Tryz.underlying259
 a50 := Tryz.isAgg259
 z50 := Tryz.sizeOf259
 v50 := Tryz.zeroValue259
 t53 := Tryz.underlying417
 a53 := Tryz.isAgg417
 z53 := Tryz.sizeOf417
 v53 := Tryz.zeroValue417
 t55 := Tryz.underlying393
 a55 := Tryz.isAgg393
 z55 := Tryz.sizeOf393
 v55 := Tryz.zeroValue393
 t66 := Tryz.underlying439
 a66 := Tryz.isAgg439
 z66 := Tryz.sizeOf439
 v66 := Tryz.zeroValue439
 t70 := Tryz.underlying443
 a70 := Tryz.isAgg443
 z70 := Tryz.sizeOf443
 v70 := Tryz.zeroValue443
 t76 := Tryz.underlying452
 a76 := Tryz.isAgg452
 z76 := Tryz.sizeOf452
 v76 := Tryz.zeroValue452
 t77 := Tryz.underlying453
 a77 := Tryz.isAgg453
 z77 := Tryz.sizeOf453
 v77 := Tryz.zeroValue453 }
end Go.Proofs
