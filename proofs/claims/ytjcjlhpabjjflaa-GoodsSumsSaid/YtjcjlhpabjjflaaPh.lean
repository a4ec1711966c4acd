/- What layer 8 computes: Add (the code's and the reference's), the reference's Sub; the laws GoodsBack and what GoodsSums and GoodsTimes need of them. -/
import Derived.Test.YtjcjlhpabjjflaaPf
set_option linter.unusedVariables false
namespace Go.Proofs.Ytjcjlhpabjjflaa
open Go Go.Sort Go.Shelf Go.Proofs
attribute [local irreducible] copyK delK updK lookK makeK rangeK nextM entryM mapEntryK entryStK lenMapK

/- ## Appending a whole slice -/
theorem app_zero {P : Program} {T E : TypeId} {i : TypeInfo} {h : Heap} {B n c cx : Nat} {a a2 : Option Addr} {e : TypeId} {sz : Nat} {cs : List Value} {K : Value → Heap → Prop}
    (hu : P.underlying T = some (.slice E)) (hi : P.info? E = some i) (hown : OwnS B e sz h a n c cs) (hK : K (.slice a n c) h) : appK P #[T, T] T (.slice a n c) (.slice a2 0 cx) h K := by
  unfold appK
  have hn : n ≤ c := by
    rcases hown with ⟨rfl, rfl, rfl, rfl⟩ | ⟨b, l, rfl, h1, h2, h3, h4, h5, h6⟩
    · exact Nat.le_refl _
    · exact h4
  have hfc : ∀ {K' : Array Value → Heap → Prop}, K' #[] h → SWp P (Builtin.firstCells i.size 0 (.slice a2 0 cx)) h K' := by
    intro K' hK'
    cases a2 with
    | none => exact hK'
    | some x =>
      show SWp P (loadCells x (0 * i.size)) h K'
      rw [Nat.zero_mul]
      exact hK'
  show SWp P (underlying T >>= _) h K
  refine SWp_bind (SWp_underlying hu ?_)
  refine SWp_bind (SWp_sizeOf hi ?_)
  refine SWp_bind (SWp_bind (SWp_underlying hu ?_))
  refine SWp_bind ?_
  show SWp P (Builtin.lenOf (.slice a2 0 cx) >>= _) h K
  refine SWp_bind ?_
  show SWp P (if n + 0 ≤ c then _ else _) h K
  rw [if_pos (by omega)]
  refine SWp_bind (hfc ?_)
  rcases hown with ⟨rfl, rfl, rfl, rfl⟩ | ⟨b, l, rfl, h1, h2, h3, h4, h5, h6⟩
  · exact hK
  · exact hK
attribute [local irreducible] appK
theorem encS_single (r : List Stk) : ∀ v ∈ r.flatMap encS, single v = true := by
  intro v hv
  obtain ⟨x, -, h⟩ := List.mem_flatMap.1 hv
  simp [encS] at h; rcases h with rfl | rfl <;> rfl
theorem appS {B : Nat} {h : Heap} {a : Option Addr} {n c : Nat} {r : List Stk} {a2 : Option Addr} {m cx : Nat} {ys : List Stk} {K : Value → Heap → Prop} (hown : OwnS B 74 2 h a n c (r.flatMap encS)) (hB : B ≤ h.size) (hn : n ≤ 1000000) (hm : m ≤ 1000000)
    (hy : Sl h a2 m cx ys)
    (hK : ∀ (a' : Option Addr) (c' : Nat) (h' : Heap), OwnS B 74 2 h' a' (n + m) c' ((r ++ ys).flatMap encS) → KB (ownB a) h h' → K (.slice a' (n + m) c') h') :
    appK Try.prog #[36, 36] 36 (.slice a n c) (.slice a2 m cx) h K := by
  obtain ⟨i, hi, hsz, hby, hz⟩ := inS
  have hyl : ys.length = m := hy.1
  by_cases h0 : m = 0
  · subst h0
    have hy0 : ys = [] := List.eq_nil_of_length_eq_zero hyl
    subst hy0
    exact app_zero tyS hi hown (hK a c h (by simpa using hown) (.refl _ _))
  · obtain ⟨b2, o2, rfl, -⟩ := hy.2.2 0 ys[0] (by simp)
    refine app_own (P := Try.prog) (T := 36) (E := 74) (b2 := b2) (o2 := o2) (new := ys.flatMap encS) (m := m) (K := K) tyS hi hz (by rw [hsz]; rfl) (by rw [hby]; decide) (by rw [hsz]; exact hown) hB (fun j v hv => ?_) (by rw [hsz, flat_len encS_len, hyl]) (encS_single ys) (by rw [hby]; omega) ?_
    · obtain ⟨i, t, x, h1, h2, rfl⟩ := flat_get encS_len ys j v hv
      obtain ⟨b', o', e, hc⟩ := hy.2.2 i x h1
      cases e
      rw [← Nat.add_assoc]
      exact hc t v h2
    · intro a' c' h' h1 h2 _
      rw [hsz] at h1
      exact hK a' c' h' (by simpa using h1) h2

/- ## Plain -/
theorem SN.tot {l r : List Stk} (h : SN l r) (hl : ∀ k, 0 ≤ tot l k) (k : Int) : tot r k = tot l k := by
  by_cases h0 : Go.Proofs.Ytjcjlhpabjjflaa.tot l k = 0
  · rw [h0]
    by_cases hr : Go.Proofs.Ytjcjlhpabjjflaa.tot r k = 0
    · exact hr
    · obtain ⟨⟨k', n⟩, hp, rfl⟩ := tot_pos hr
      have := (h.2 k' n).1 hp
      simp only at h0; omega
  · have hm : (k, Go.Proofs.Ytjcjlhpabjjflaa.tot l k) ∈ r := (h.2 k _).2 ⟨rfl, by have := hl k; omega⟩
    exact tot_mem (rise_keys h.1) hm
theorem over_iff {l : List Stk} : over l ↔ ∃ k, MaxQ < tot l k := by
  constructor
  · rintro ⟨s, -, h⟩; exact ⟨_, h⟩
  · rintro ⟨k, h⟩
    have : 0 ≤ MaxQ := by decide
    obtain ⟨s, hs, rfl⟩ := tot_pos (l := l) (k := k) (by omega)
    exact ⟨s, hs, h⟩
theorem errN_tots {l m : List Stk} (hl : good l) (hm : good m) (ht : ∀ k, tot l k = tot m k) : errN l = errN m := by
  by_cases h : over l
  · rw [errN_over hl h, errN_over hm]
    rw [over_iff] at *
    obtain ⟨k, hk⟩ := h; exact ⟨k, by rw [← ht]; exact hk⟩
  · rw [errN_ok hl h, errN_ok hm]
    rw [over_iff] at *
    rintro ⟨k, hk⟩; exact h ⟨k, by rw [ht]; exact hk⟩
theorem SN.good {l r : List Stk} (h : SN l r) (hl : ∀ s ∈ l, 1 ≤ s.1) : good r := by
  rintro ⟨k, n⟩ hp
  obtain ⟨h1, h2⟩ := (h.2 k n).1 hp
  obtain ⟨s, hs, rfl⟩ := tot_pos (l := l) (k := k) (by omega)
  exact ⟨hl s hs, by show 0 ≤ n; omega⟩
theorem SN.errN {l r : List Stk} (h : SN l r) (he : errN l = 0) : errN r = 0 := by
  obtain ⟨hg, ho⟩ := errN_zero.1 he
  rw [errN_tots (h.good fun s hs => (hg s hs).1) hg fun k => h.tot (tot_nonneg hg) k]
  exact he
theorem SN.rng {l r : List Stk} (h : SN l r) (he : Go.Proofs.Ytjcjlhpabjjflaa.errN l = 0) (hr : rng l) : rng r := by
  rintro ⟨k, n⟩ hp
  obtain ⟨h1, h2⟩ := (h.2 k n).1 hp
  obtain ⟨s, hs, rfl⟩ := tot_pos (l := l) (k := k) (by omega)
  have := h.bd he _ hp
  have hM : MaxQ = 1125899906842624 := rfl
  simp only at this
  exact ⟨(hr s hs).1, by show _ ≤ n; omega, by show n ≤ _; omega⟩
theorem SN.self {l r : List Stk} (h : SN l r) (hl : ∀ k, 0 ≤ Go.Proofs.Ytjcjlhpabjjflaa.tot l k) : SN r r := ⟨h.1, fun k n => by rw [h.2, h.tot hl]⟩
theorem NormP.rng {l r : List Stk} {e : Int} (h : NormP l e r) (hr : rng l) : rng r := by
  by_cases he : e = 0
  · exact (h.2.1 he).rng (h.1 ▸ he) hr
  · rw [h.2.2 he]; intro s hs; simp at hs
theorem rng_append {a b : List Stk} (ha : rng a) (hb : rng b) : rng (a ++ b) := fun s hs => (List.mem_append.1 hs).elim (ha s) (hb s)

/- ## Add -/
noncomputable def addE (a b : List Stk) : Int := if pairE a b = 0 then errN (a ++ b) else pairE a b
def AddP (a b : List Stk) (e : Int) (r : List Stk) : Prop := e = addE a b ∧ (e ≠ 0 → r = []) ∧ (e = 0 → SN (a ++ b) r)
theorem AddP.unique {a b r q : List Stk} {e f : Int} (h1 : AddP a b e r) (h2 : AddP a b f q) : e = f ∧ r = q := by
  have he : e = f := h1.1.trans h2.1.symm
  subst he
  by_cases h : e = 0
  · exact ⟨rfl, (h1.2.2 h).unique (h2.2.2 h)⟩
  · exact ⟨rfl, (h1.2.1 h).trans (h2.2.1 h).symm⟩
def AddR (h : Heap) (x y : List Stk) (v : Value) (h' : Heap) : Prop :=
  ∃ (a : Option Addr) (n c : Nat) (r : List Stk) (e : Int), v = .tuple #[.slice a n c, .int .i64 e] ∧ Sl h' a n c r ∧ Keep h h' ∧ AddP x y e r
/-- Norm of two normal lists together. -/
theorem add_norm {x y la lb r : List Stk} {e : Int} (hp : pairE x y = 0) (h1 : SN x la) (h2 : SN y lb) (hN : NormP (la ++ lb) e r) : AddP x y e r := by
  obtain ⟨hx, hy⟩ := pairE_zero.1 hp
  obtain ⟨gx, -⟩ := errN_zero.1 hx
  obtain ⟨gy, -⟩ := errN_zero.1 hy
  have ht : ∀ k, tot (la ++ lb) k = tot (x ++ y) k := fun k => by rw [tot_append, tot_append, h1.tot (tot_nonneg gx), h2.tot (tot_nonneg gy)]
  have hg : good (la ++ lb) := good_append.2 ⟨h1.good fun s hs => (gx s hs).1, h2.good fun s hs => (gy s hs).1⟩
  refine ⟨?_, hN.2.2, fun he => (hN.2.1 he).of_tots ht⟩
  unfold addE
  rw [if_pos hp, hN.1, errN_tots hg (good_append.2 ⟨gx, gy⟩) ht]
theorem add_spec {h : Heap} {a b : Option Addr} {n c n' c' : Nat} {x y : List Stk} (s : Sl h a n c x) (t : Sl h b n' c' y) (hx : rng x) (hy : rng y) (hn : n ≤ 400) (hn' : n' ≤ 400) :
    Run Try.prog 26 [.slice a n c, .slice b n' c'] h (AddR h x y) := by
  have hxn : x.length = n := s.1
  have hyn : y.length = n' := t.1
  refine V26 _ _ _ _ _ _ _ _ ?_
  unfold VC26
  refine (pair_spec s t hx hy (by omega) (by omega)).mono ?_
  rintro v h1 ⟨r1, r2, c1, c2, e, rfl, k1, he, h0⟩
  refine ⟨_, _, _, rfl, ?_⟩
  refine cNe (fun hz => ⟨none, 0, 0, [], e, rfl, .nil _ _ _ _ _, k1, ?_, fun _ => rfl, fun h => absurd h hz⟩) fun hz => ?_
  · unfold addE; rw [if_neg (he ▸ hz)]; exact he
  obtain ⟨hm1, hm2, hc1, hc2, -⟩ := h0 hz
  have hpe : pairE x y = 0 := he ▸ hz
  obtain ⟨ex, ey⟩ := pairE_zero.1 hpe
  have hl1 := hc1.len
  have hl2 := hc2.len
  refine (listed_spec hm1 hm1.nodup hc1.pos hc1.top (by omega)).mono ?_
  rintro v h2 ⟨a2, n2, p2, la, rfl, s2, k2, sn1, len1, own2⟩
  refine ⟨_, _, _, rfl, ?_⟩
  refine (listed_spec (hm2.keep k2) hm2.nodup hc2.pos hc2.top (by omega)).mono ?_
  rintro v h3 ⟨a3, n3, p3, lb, rfl, s3, k3, sn2, len2, -⟩
  refine ⟨_, _, _, rfl, ?_⟩
  have hn2 : la.length = n2 := s2.1
  have hn3 : lb.length = n3 := s3.1
  have k13 := (k1.trans k2).trans k3
  refine appS (r := la) (B := h.size) ?_ k13.size (by omega) (by omega) s3 fun a4 c4 h4 own4 k4 => ?_
  · rcases own2.keep k3 with hh | ⟨b, l, e, hb, r⟩
    · exact .inl hh
    · exact .inr ⟨b, l, e, by have := k1.size; omega, r⟩
  refine ⟨_, _, _, rfl, ?_⟩
  have x1 := sn1.of_tots hc1.tots
  have x2 := sn2.of_tots hc2.tots
  have hrng := rng_append (x1.rng ex hx) (x2.rng ey hy)
  have hs4 : Sl h4 a4 (n2 + n3) c4 (la ++ lb) := own4.slOf encS_len (by simp [hn2, hn3])
  have hge := own2.ge
  have k14 : Keep h h4 := ((KB.of_keep k13).trans k4).keep fun b hb => by have := hge b hb; have := k1.size; omega
  refine (norm_spec hs4 hrng (by omega)).mono ?_
  rintro v h5 ⟨a5, n5, c5, r, e5, rfl, s5, k5, hN⟩
  exact ⟨_, _, _, _, rfl, _, _, _, r, e5, rfl, s5, k14.trans k5, add_norm hpe x1 x2 hN⟩
theorem AddP.len {a b r : List Stk} {e : Int} (h : AddP a b e r) : r.length ≤ a.length + b.length := by
  by_cases he : e = 0
  · have := (h.2.2 he).len; rwa [List.length_append] at this
  · rw [h.2.1 he]; exact Nat.zero_le _
theorem addE_zero {a b : List Stk} : addE a b = 0 ↔ errN a = 0 ∧ errN b = 0 ∧ errN (a ++ b) = 0 := by
  unfold addE
  by_cases h : pairE a b = 0
  · rw [if_pos h]; have := pairE_zero.1 h; exact ⟨fun h2 => ⟨this.1, this.2, h2⟩, fun h2 => h2.2.2⟩
  · rw [if_neg h]; exact ⟨fun h2 => absurd h2 h, fun h2 => absurd (pairE_zero.2 ⟨h2.1, h2.2.1⟩) h⟩
theorem errN_comm {a b : List Stk} (ha : errN a = 0) (hb : errN b = 0) : errN (a ++ b) = errN (b ++ a) := by
  have ga := (errN_zero.1 ha).1
  have gb := (errN_zero.1 hb).1
  exact errN_tots (good_append.2 ⟨ga, gb⟩) (good_append.2 ⟨gb, ga⟩) fun k => by rw [tot_append, tot_append]; omega

theorem goodsBack_run {h : Heap} {a b : Option Addr} {n c n' c' : Nat} {x y : List Stk} (s : Sl h a n c x) (t : Sl h b n' c' y) (hx : rng x) (hy : rng y) :
    Run Try.prog 5 [.slice a n c, .slice b n' c'] h fun v h' => v = .bool true ∧ Keep h h' := by
  have hxn : x.length = n := s.1
  have hyn : y.length = n' := t.1
  refine V5 _ _ _ _ _ _ _ _ ?_
  unfold VC5
  have haw : ∀ h1 : Heap, Keep h h1 → Run Try.prog 16 [] h1 fun v h2 => ∃ b : Bool, v = .bool b ∧ (fun (v : Value) (h' : Heap) => v = .bool true ∧ Keep h h') (.bool b) h2 := fun h1 k1 => by
    refine (awake_spec h1).mono ?_
    rintro v h2 ⟨rfl, k2⟩
    exact ⟨_, rfl, rfl, k1.trans k2⟩
  refine cIf (fun _ => haw _ (.refl _ _)) (fun hn => ?_)
  refine cIf (fun _ => haw _ (.refl _ _)) (fun hn' => ?_)
  refine (add_spec s t hx hy (by omega) (by omega)).mono ?_
  rintro v h1 ⟨a1, n1, c1, q1, e1, rfl, s1, k1, hA1⟩
  refine ⟨_, _, _, _, rfl, ?_⟩
  have sk := s.keep k1
  have tk := t.keep k1
  refine (add_spec tk sk hy hx (by omega) (by omega)).mono ?_
  rintro v h2 ⟨a2, n2, c2, q2, e2, rfl, s2, k2, hA2⟩
  refine ⟨_, _, _, _, rfl, ?_⟩
  have hee : e1 = 0 ↔ e2 = 0 := by
    rw [hA1.1, hA2.1, addE_zero, addE_zero]
    exact ⟨fun ⟨h1, h2, h3⟩ => ⟨h2, h1, by rw [errN_comm h2 h1]; exact h3⟩, fun ⟨h1, h2, h3⟩ => ⟨h2, h1, by rw [errN_comm h2 h1]; exact h3⟩⟩
  have k12 := k1.trans k2
  have hbb : ((e1 == 0) == (e2 == 0)) = true := by
    by_cases h : e1 = 0
    · rw [h, hee.1 h]; rfl
    · have h' : e2 ≠ 0 := fun h2 => h (hee.2 h2)
      rw [beq_eq_false_iff_ne.2 h, beq_eq_false_iff_ne.2 h']; rfl
  rw [hbb]
  refine cNe (fun _ => cB (fun _ => haw _ k12) fun h => nomatch h) fun hz1 => ?_
  refine cNe (fun _ => cB (fun _ => haw _ k12) fun h => nomatch h) fun hz2 => ?_
  subst hz1 hz2
  obtain ⟨ex, ey, exy⟩ := addE_zero.1 hA1.1.symm
  have gx := (errN_zero.1 ex).1
  have gy := (errN_zero.1 ey).1
  have gxy := (errN_zero.1 exy).1
  have sn1 := hA1.2.2 rfl
  have sn2 := hA2.2.2 rfl
  have l1 := hA1.len
  have l2 := hA2.len
  have z1 : q1.length = n1 := s1.1
  have z2 : q2.length = n2 := s2.1
  have r1 := sn1.rng exy (rng_append hx hy)
  have r2 := sn2.rng (by rw [errN_comm ey ex]; exact exy) (rng_append hy hx)
  have eq1 := sn1.errN exy
  have eq2 := sn2.errN (by rw [errN_comm ey ex]; exact exy)
  have t1 : ∀ k, tot q1 k = tot x k + tot y k := fun k => by rw [sn1.tot (tot_nonneg gxy), tot_append]
  have t2 : ∀ k, tot q2 k = tot x k + tot y k := fun k => by rw [sn2.tot (tot_nonneg (good_append.2 ⟨gy, gx⟩)), tot_append]; omega
  have hq : q1 = q2 := SN.unique sn1 (sn2.of_tots fun k => by rw [tot_append, tot_append]; omega)
  refine (norm_spec (s.keep k12) hx (by omega)).mono ?_
  rintro v h3 ⟨a3, n3, c3, q3, e3, rfl, s3, k3, hN⟩
  refine ⟨_, _, _, _, rfl, ?_⟩
  have s1' := (s1.keep k2).keep k3
  have k13 := k12.trans k3
  refine (sub_spec s1' (t.keep k13) r1 hy (by omega) (by omega)).mono ?_
  rintro v h4 ⟨a4, n4, c4, q4, e4, rfl, s4, k4, hS4⟩
  refine ⟨_, _, _, _, rfl, ?_⟩
  have k14 := k13.trans k4
  refine (sub_spec (s1'.keep k4) ((s2.keep k3).keep k4) r1 r2 (by omega) (by omega)).mono ?_
  rintro v h5 ⟨a5, n5, c5, q5, e5, rfl, s5, k5, hS5⟩
  refine ⟨_, _, _, _, rfl, ?_⟩
  have k15 := k14.trans k5
  refine (same_spec ((s1'.keep k4).keep k5) (((s2.keep k3).keep k4).keep k5) (by omega)).mono ?_
  rintro v h6 ⟨rfl, rfl⟩
  refine ⟨_, rfl, ?_⟩
  have e3z : e3 = 0 := hN.1.trans ex
  subst e3z
  have e4z : e4 = 0 := hS4.1.trans (subE_ok (pairE_zero.2 ⟨eq1, ey⟩) fun k => by rw [t1]; have := tot_nonneg gx k; omega)
  subst e4z
  have e5z : e5 = 0 := hS5.1.trans (subE_ok (pairE_zero.2 ⟨eq1, eq2⟩) fun k => by rw [t1, t2]; exact Int.le_refl _)
  subst e5z
  have h43 : q4 = q3 := by
    refine SN.unique (l := x) ⟨(hS4.2.2 rfl).1, fun k m => ?_⟩ (hN.2.1 rfl)
    rw [(hS4.2.2 rfl).2, t1, show tot x k + tot y k - tot y k = tot x k by omega]
  have h50 : n5 = 0 := by
    have : q5 = [] := by
      cases hq5 : q5 with
      | nil => rfl
      | cons p l =>
        exfalso
        obtain ⟨k, m⟩ := p
        have := ((hS5.2.2 rfl).2 k m).1 (by rw [hq5]; simp)
        rw [t1, t2] at this; omega
    have h2 : q5.length = n5 := s5.1
    rw [this] at h2
    exact h2.symm
  subst h50
  have hn3 : n4 ≤ 1000 := by have h1 := hN.len; have h2 : q4.length = n4 := s4.1; have h3 : q3.length = n3 := s3.1; rw [h43] at h2; omega
  rw [decide_eq_true hq]
  refine cB (fun _ => ?_) fun h => nomatch h
  refine cEq (fun _ => ?_) (fun h => absurd rfl h)
  refine (same_spec (s4.keep k5) ((s3.keep k4).keep k5) hn3).mono ?_
  rintro v h7 ⟨rfl, rfl⟩
  refine ⟨_, rfl, ?_⟩
  rw [decide_eq_true h43]
  refine cB (fun _ => ?_) fun h => nomatch h
  refine cEq (fun _ => ?_) (fun h => absurd rfl h)
  refine cEq (fun _ => ?_) (fun h => absurd rfl h)
  refine cEq (fun _ => ?_) (fun h => absurd rfl h)
  exact haw _ k15
end Go.Proofs.Ytjcjlhpabjjflaa
