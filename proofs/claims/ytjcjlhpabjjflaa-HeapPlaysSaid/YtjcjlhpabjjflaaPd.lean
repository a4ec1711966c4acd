/- What layer 8 computes: the list of a map's counts (slices.SortFunc by its contract). -/
import Derived.Test.YtjcjlhpabjjflaaPc
import Derived.Test.YtjcjlhpabjjflaaEi
import Derived.Test.YtjcjlhpabjjflaaSh
set_option linter.unusedVariables false
namespace Go.Proofs.Ytjcjlhpabjjflaa
open Go Go.Sort Go.Shelf Go.Proofs
attribute [local irreducible] appK copyK delK updK lookK makeK rangeK nextM entryM mapEntryK entryStK lenMapK

theorem IterI.same {h : Heap} {it : Nat} {r : Option Nat} {m : KV} {left left' : List Int} (a : IterI h it r m left) (b : IterI h it r m left') : left.length = left'.length := by
  cases r with
  | none => obtain ⟨-, rfl, -⟩ := a; obtain ⟨-, rfl, -⟩ := b; rfl
  | some b0 =>
    obtain ⟨-, es, clk, seen, g1, g2, g3, -, -, -, g4, g5, g6⟩ := a
    obtain ⟨-, es', clk', seen', k1, k2, k3, -, -, -, k4, k5, k6⟩ := b
    rw [g1] at k1; rw [g2] at k2
    cases k1; cases k2
    have hsub : ∀ x, x ∈ left ↔ x ∈ left' := fun x => by
      constructor
      · intro hx
        obtain ⟨p, hp, rfl⟩ := List.mem_map.1 (g6 x hx)
        obtain ⟨e, he, hk, -⟩ := entOf_mem g3 hp
        exact (k4 e he _ hk).2 ((g4 e he _ hk).1 hx)
      · intro hx
        obtain ⟨p, hp, rfl⟩ := List.mem_map.1 (k6 x hx)
        obtain ⟨e, he, hk, -⟩ := entOf_mem g3 hp
        exact (g4 e he _ hk).2 ((k4 e he _ hk).1 hx)
    exact ((List.perm_ext_iff_of_nodup g5 k5).2 hsub).length_eq
theorem IterI.nodup {h : Heap} {it : Nat} {r : Option Nat} {m : KV} {left : List Int} (a : IterI h it r m left) : left.Nodup := by
  cases r with
  | none => obtain ⟨-, rfl, -⟩ := a; exact .nil
  | some b0 => obtain ⟨-, es, clk, seen, g1, g2, g3, -, -, -, g4, g5, g6⟩ := a; exact g5
open Classical in
/-- How many keys an iterator has yet to yield. -/
noncomputable def leftN (it : Nat) (r : Option Nat) (h : Heap) : Nat := if x : ∃ p : KV × List Int, IterI h it r p.1 p.2 then x.choose.2.length else 0
theorem entOf_inj {es : List MapEntry} {m m' : KV} (a : entOf es m) (b : entOf es m') : m = m' := by
  have : m.map (fun p => (Value.int .i64 p.1, p.2)) = m'.map (fun p => (Value.int .i64 p.1, p.2)) := a.symm.trans b
  refine List.map_inj_right (f := fun p : Int × Value => (Value.int .i64 p.1, p.2)) ?_ |>.1 this
  rintro ⟨x, v⟩ ⟨y, u⟩ e
  simpa using e
theorem leftN_eq {h : Heap} {it : Nat} {r : Option Nat} {m : KV} {left : List Int} (a : IterI h it r m left) : leftN it r h = left.length := by
  unfold leftN
  have hx : ∃ p : KV × List Int, IterI h it r p.1 p.2 := ⟨(m, left), a⟩
  rw [dif_pos hx]
  have b := hx.choose_spec
  revert b
  generalize hx.choose = p
  obtain ⟨m', left'⟩ := p
  intro b
  have : m' = m := by
    cases r with
    | none => obtain ⟨e1, -⟩ := a; obtain ⟨e2, -⟩ := b; exact e2.trans e1.symm
    | some b0 =>
      obtain ⟨-, es, clk, seen, g1, g2, g3, -⟩ := a
      obtain ⟨-, es', clk', seen', k1, k2, k3, -⟩ := b
      simp only at k2 k3
      rw [g2] at k2; cases k2
      exact entOf_inj k3 g3
  subst this
  exact b.same a

/- ## The comparison, and the sort -/
abbrev StkT := { x : Stk // 1 ≤ x.1 ∧ x.1 ≤ 9223372036854775807 }
instance : Inhabited StkT := ⟨⟨(1, 0), by decide⟩⟩
theorem cmpStack_spec (x y : StkT) (h : Heap) : Run Try.prog 71 [.agg (encS x.1).toArray, .agg (encS y.1).toArray] h fun v h' => v = .int .i64 (x.1.1 - y.1.1) ∧ Keep h h' := by
  refine V71 _ _ _ _ _ _ ?_
  unfold VC71
  refine newB_intro fun h1 hb1 k1 s1 => newB_intro fun h2 hb2 k2 s2 => ?_
  refine ⟨_, k2.cell (by rw [hcell_of hb1]; rfl) (by simp), _, by rw [hcell_of hb2]; rfl, ?_, k1.trans k2⟩
  have h1 := x.2; have h2 := y.2
  rw [w64 (by omega) (by omega)]
theorem stackSWO : SWO (ltOf fun x y : StkT => x.1.1 - y.1.1) where
  irrefl x := by unfold ltOf; simp
  trans x y z h1 h2 := by unfold ltOf at *; simp only [decide_eq_true_eq] at *; omega
  ntrans x y z h1 h2 := by unfold ltOf at *; simp only [decide_eq_false_iff_not] at *; omega
theorem call70 : Callable Try.prog 70 := ⟨_, Try.func70, by kernel_rfl, by kernel_rfl⟩
theorem call71 : Callable Try.prog 71 := ⟨_, Try.func71, by kernel_rfl, by kernel_rfl⟩

theorem sortStacks_spec {blk cap : Nat} {d : List Stk} {h : Heap} {l : Array Value} {E : TypeId} (hb : h[blk]? = some (.cells l E (0, 0))) (hd : ∀ s ∈ d, 1 ≤ s.1 ∧ s.1 ≤ 9223372036854775807)
    (hl : ∀ (j : Nat) (v : Value), (d.flatMap encS)[j]? = some v → l[j]? = some v) (hsz : d.length ≤ 1000) (hcap : d.length ≤ cap) :
    Run Try.prog 70 [.slice (some ⟨blk, 0, none⟩) d.length cap, .func (.func 71) #[] #[]] h fun v h' => v = .tuple #[] ∧ KB [blk] h h' ∧
      ∃ r : List Stk, r.Perm d ∧ r.Pairwise (fun x y => x.1 ≤ y.1) ∧ Sl h' (some ⟨blk, 0, none⟩) d.length cap r ∧ ∃ l' : Array Value, h'[blk]? = some (.cells l' E (0, 0)) ∧ l'.size = l.size := by
  obtain ⟨t, ht⟩ : ∃ t : List StkT, t.map (·.1) = d := ⟨d.pmap (fun x h => ⟨x, h⟩) hd, by simp [List.map_pmap]⟩
  subst ht
  have hkey := OwnS.slOf (enc := encS) (xs := t.map (·.1)) (h := h) (B := 0) (e := E) (sz := 2) (a := some ⟨blk, 0, none⟩) (n := (t.map (·.1)).length) (c := (t.map (·.1)).length) encS_len
  have main := sortRun (α := StkT) Try.sortL (f := 70) rfl call70 2 Try.isAgg74 Try.sizeOf74 (fun x => encS x.1) (fun _ => rfl)
    (fun x v hv => by simp [encS] at hv; rcases hv with rfl | rfl <;> rfl) (fun x y => x.1.1 - y.1.1) stackSWO 71 call71 (fun x y h => cmpStack_spec x y h) (cap := cap) (d := t) hb
    (fun i x hx j v hv => ?_) (by simp at hsz; omega) (by simpa using hcap)
  · rw [List.length_map]
    refine main.mono ?_
    rintro v h' ⟨rfl, k, r, hp, hs, hsl, hlb⟩
    refine ⟨rfl, k, r.map (·.1), hp.map _, ?_, ?_, hlb⟩
    · rw [List.pairwise_map]
      exact hs.imp fun h => Decidable.byContradiction fun hc => h (by show (_ - _ : Int) < 0; omega)
    · refine ⟨by rw [List.length_map]; exact hsl.1, hsl.2.1, fun i x hx => ?_⟩
      rw [List.getElem?_map] at hx
      cases hy : r[i]? with
      | none => rw [hy] at hx; cases hx
      | some y =>
        rw [hy] at hx
        cases hx
        exact hsl.2.2 i y hy
  · refine hl _ v ?_
    clear hl hsz hcap hkey hb hd
    induction t generalizing i with
    | nil => simp at hx
    | cons y t ih =>
      rw [List.map_cons, List.flatMap_cons]
      cases i with
      | zero =>
        simp at hx; subst hx
        have hj := (List.getElem?_eq_some_iff.1 hv).1
        rw [Nat.zero_mul, Nat.zero_add, List.getElem?_append_left hj]
        exact hv
      | succ i =>
        rw [List.getElem?_append_right (by rw [encS_len, Nat.succ_mul]; omega)]
        rw [encS_len, show (i + 1) * 2 + j - 2 = i * 2 + j by omega]
        exact ih i (by simpa using hx)

theorem flat_get {α : Type} {enc : α → List Value} {sz : Nat} (he : ∀ x, (enc x).length = sz) : ∀ (xs : List α) (j : Nat) (v : Value), (xs.flatMap enc)[j]? = some v → ∃ i t x, xs[i]? = some x ∧ (enc x)[t]? = some v ∧ j = i * sz + t
  | [], j, v, h => by simp at h
  | x :: xs, j, v, h => by
    rw [List.flatMap_cons] at h
    by_cases hj : j < sz
    · rw [List.getElem?_append_left (by rw [he]; exact hj)] at h
      exact ⟨0, j, x, rfl, h, by omega⟩
    · rw [List.getElem?_append_right (by rw [he]; omega), he] at h
      obtain ⟨i, t, y, h1, h2, h3⟩ := flat_get he xs (j - sz) v h
      exact ⟨i + 1, t, y, by simpa using h1, h2, by rw [Nat.succ_mul]; omega⟩
theorem flat_len {α : Type} {enc : α → List Value} {sz : Nat} (he : ∀ x, (enc x).length = sz) (xs : List α) : (xs.flatMap enc).length = xs.length * sz := by
  induction xs with
  | nil => simp
  | cons x xs ih => rw [List.flatMap_cons, List.length_append, ih, he, List.length_cons, Nat.succ_mul]; omega
theorem own_of {α : Type} {enc : α → List Value} {sz b n c : Nat} {E : TypeId} {h : Heap} {xs : List α} {l : Array Value} (hb : h[b]? = some (.cells l E (0, 0))) (hl : l.size = c * sz) (he : ∀ x, (enc x).length = sz) (s : SlOf enc sz h (some ⟨b, 0, none⟩) n c xs) :
    OwnS b E sz h (some ⟨b, 0, none⟩) n c (xs.flatMap enc) := by
  refine .inr ⟨b, l, rfl, Nat.le_refl _, hb, hl, s.2.1, by rw [flat_len he, s.1], fun j v hv => ?_⟩
  obtain ⟨i, t, x, h1, h2, rfl⟩ := flat_get he xs j v hv
  obtain ⟨b', o', e, hc⟩ := s.2.2 i x h1
  cases e
  have := hc t v h2
  rw [hcell_of hb, Nat.zero_add] at this
  exact this
theorem OwnS.mono {B B' b : Nat} {e : TypeId} {sz : Nat} {h : Heap} {n c : Nat} {cs : List Value} (s : OwnS b e sz h (some ⟨b, 0, none⟩) n c cs) (_h1 : B ≤ B') (h2 : B' ≤ b) : OwnS B e sz h (some ⟨b, 0, none⟩) n c cs := by
  rcases s with ⟨h, -⟩ | ⟨b', l, e, -, r⟩
  · cases h
  · cases e; exact .inr ⟨b, l, rfl, by omega, r⟩

def ListedR (h : Heap) (c : List Stk) (v : Value) (h' : Heap) : Prop :=
  ∃ (a : Option Addr) (n cp : Nat) (r : List Stk), v = .slice a n cp ∧ Sl h' a n cp r ∧ Keep h h' ∧ SN c r ∧ r.length ≤ c.length ∧ OwnS h.size 74 2 h' a n cp (r.flatMap encS)
theorem listed_spec {h : Heap} {m : Option Nat} {c : List Stk} (hm : MapO h m (MV c)) (hnd : (c.map (·.1)).Nodup) (hpos : ∀ p ∈ c, 1 ≤ p.1 ∧ 0 ≤ p.2 ∧ p.2 ≤ MaxQ) (htop : ∀ p ∈ c, p.1 ≤ 9223372036854775807) (hlen : c.length ≤ 1000) :
    Run Try.prog 47 [.map m] h (ListedR h c) := by
  have hM : MaxQ = 1125899906842624 := rfl
  refine V47 _ _ _ ?_
  unfold VC47
  refine range_spec tyM hm fun h1 hI k1 s1 => ?_
  refine ⟨fun p n cp h2 => ∃ (left : List Int) (out : List Stk), IterI h2 h.size m (MV c) left ∧ Keep h h2 ∧ OwnS (h.size + 1) 74 2 h2 p n cp (out.flatMap encS) ∧ out.length = n ∧
      (∀ q, q ∈ out ↔ q ∈ c ∧ q.1 ∉ left ∧ 0 < q.2) ∧ (out.map (·.1)).Nodup ∧ out.length + left.length ≤ c.length, fun _ _ _ h2 => leftN h.size m h2, ⟨_, [], hI, k1, .nil _ _ _ _, rfl, fun q => ?_, .nil, ?_⟩, ?_⟩
  · constructor
    · intro h; simp at h
    · rintro ⟨h1, h2, -⟩
      exact absurd (by rw [MV_keys]; exact List.mem_map.2 ⟨q, h1, rfl⟩) h2
  · simp [MV]
  rintro - h2 p n cp ⟨left, out, hI2, k2, own, hon, hout, hond, hol⟩
  refine next_spec hI2 (fun hl => ?_) (fun k x h3 hk hx hI3 k3 s3 => ?_)
  · subst hl
    have hfin : ∀ (h4 : Heap) (r : List Stk), r.Perm out → r.Pairwise (fun x y => x.1 ≤ y.1) → SN c r := by
      intro h4 r hp hs
      have hrn : (r.map (·.1)).Nodup := (hp.map _).nodup_iff.2 hond
      refine ⟨?_, fun k n => ?_⟩
      · rw [List.Nodup, List.pairwise_map] at hrn
        exact (hs.and hrn).imp fun h => by omega
      · rw [hp.mem_iff, hout]
        constructor
        · rintro ⟨h1, -, h2⟩; exact ⟨(tot_mem hnd h1).symm, h2⟩
        · rintro ⟨h1, h2⟩
          obtain ⟨p, hp, he⟩ := tot_pos (l := c) (k := k) (by omega)
          have := tot_mem hnd hp
          rw [he] at this
          have hpe : p = (k, n) := by obtain ⟨p1, p2⟩ := p; simp only at he this; subst he; rw [h1, this]
          subst hpe
          exact ⟨hp, by simp, h2⟩
    rcases own with ⟨rfl, rfl, rfl, h0⟩ | ⟨b, l, rfl, hb1, hb2, hb3, hb4, hb5, hb6⟩
    · have ho : out = [] := List.eq_nil_of_length_eq_zero hon
      subst ho
      refine (sortRun_none Try.sortL (f := 70) rfl call70).mono ?_
      rintro v h4 ⟨rfl, rfl⟩
      exact ⟨rfl, _, _, _, [], rfl, .nil _ _ _ _ _, k2, hfin h4 [] (.refl _) .nil, Nat.zero_le _, .nil _ _ _ _⟩
    · subst hon
      refine (sortStacks_spec (d := out) hb2 (fun s hs => ⟨(hpos s ((hout s).1 hs).1).1, htop s ((hout s).1 hs).1⟩) hb6 (by omega) hb4).mono ?_
      rintro v h4 ⟨rfl, k4, r, hp, hs, hsl, l', hl1, hl2⟩
      exact ⟨rfl, _, _, _, r, rfl, hsl, ((KB.of_keep k2).trans k4).keep (by simp; omega), hfin h4 r hp hs, by rw [hp.length_eq]; omega, OwnS.mono (own_of hl1 (by rw [hl2, hb3]) (fun x => encS_len x) hsl) (Nat.le_succ _) hb1⟩
  · have hxc : ∃ n', x = .int .i64 n' ∧ (k, n') ∈ c := by
      obtain ⟨q, hq, he⟩ := List.mem_map.1 hx
      obtain ⟨q1, q2⟩ := q
      simp only [Prod.mk.injEq] at he
      obtain ⟨rfl, rfl⟩ := he
      exact ⟨q2, rfl, hq⟩
    obtain ⟨n', rfl, hc⟩ := hxc
    have hlt : leftN h.size m h3 < leftN h.size m h2 := by
      rw [leftN_eq hI2, leftN_eq hI3, List.length_erase_of_mem hk]
      have := List.length_pos_of_mem hk
      omega
    have hk3 : Keep h h3 := ((KB.of_keep k2).trans k3).keep (by simp)
    have own3 : OwnS (h.size + 1) 74 2 h3 p n cp (out.flatMap encS) := own.kb k3 fun b o he => by
      rcases own with ⟨rfl, -⟩ | ⟨b', l, rfl, hb1, -⟩
      · cases he
      · cases he; simp; omega
    have hmem : ∀ q : Stk, q ∈ c → q.1 = k → q = (k, n') := fun q hq he => by
      have h1 := tot_mem hnd hq
      have h2 := tot_mem hnd hc
      simp only at h2
      obtain ⟨q1, q2⟩ := q
      simp only at he h1
      subst he
      rw [← h1, ← h2]
    have hle : (left.erase k).length = left.length - 1 := List.length_erase_of_mem hk
    have hlp := List.length_pos_of_mem hk
    refine ⟨_, _, rfl, cIf (fun hp => ?_) (fun hp => ?_)⟩
    · refine newB_intro fun h4 hb4 k4 s4 => ?_
      refine app1 (x := (k, n')) (r := out) (B := h.size + 1) (own3.keep k4) (by have := hI3.lt; omega) (by omega) hb4 fun a' c' h5 own5 k5 hb5 => ?_
      have hge := own3.ge
      have hI5 : IterI h5 h.size m (MV c) (left.erase k) := (hI3.kb k4 (by simp) (by simp)).kb k5 (fun hb => by have := hge _ hb; omega) (fun b he hb => by
        have h1 := hge _ hb
        subst he
        have := MapI.lt hm
        omega)
      refine ⟨_, _, _, rfl, ⟨_, _, hI5, ((KB.of_keep (hk3.trans k4)).trans k5).keep (fun b hb => by have := hge b hb; omega), own5, by simp [hon], fun q => ?_, ?_, ?_⟩, ?_⟩
      · rw [List.mem_append, hout, List.mem_singleton, List.Nodup.mem_erase_iff hI2.nodup]
        constructor
        · rintro (⟨h1, h2, h3⟩ | rfl)
          · exact ⟨h1, fun h => h2 h.2, h3⟩
          · exact ⟨hc, fun h => h.1 rfl, hp⟩
        · rintro ⟨h1, h2, h3⟩
          by_cases hq : q.1 = k
          · exact .inr (hmem q h1 hq)
          · exact .inl ⟨h1, fun h => h2 ⟨hq, h⟩, h3⟩
      · rw [List.map_append, List.nodup_append]
        refine ⟨hond, by simp, ?_⟩
        intro a ha b hb
        simp at hb; subst hb
        rintro rfl
        obtain ⟨q, hq, he⟩ := List.mem_map.1 ha
        have := ((hout q).1 hq).2.1
        exact this (by rw [he]; exact hk)
      · simp only [List.length_append, List.length_singleton]; omega
      · show leftN h.size m h5 < leftN h.size m h2
        rw [leftN_eq hI5, ← leftN_eq hI3]; exact hlt
    · refine ⟨⟨_, out, hI3, hk3, own3, hon, fun q => ?_, hond, by omega⟩, hlt⟩
      rw [hout, List.Nodup.mem_erase_iff hI2.nodup]
      constructor
      · rintro ⟨h1, h2, h3⟩; exact ⟨h1, fun h => h2 h.2, h3⟩
      · rintro ⟨h1, h2, h3⟩
        refine ⟨h1, fun h => h2 ⟨fun he => ?_, h⟩, h3⟩
        have := hmem q h1 he
        subst this
        exact hp h3
end Go.Proofs.Ytjcjlhpabjjflaa
