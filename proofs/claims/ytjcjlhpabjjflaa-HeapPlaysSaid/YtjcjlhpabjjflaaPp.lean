/- What layer 7 computes: pull, place, First, Pop. -/
import Derived.Test.YtjcjlhpabjjflaaPo
import Derived.Test.YtjcjlhpabjjflaaEj
set_option linter.unusedVariables false
namespace Go.Proofs.Ytjcjlhpabjjflaa
open Go Go.Proofs
attribute [local irreducible] appK copyK delK updK lookK makeK rangeK nextM entryM mapEntryK entryStK lenMapK

def cDel (m : List Stk) (k : Int) : List Stk := m.filter fun p => decide (p.1 ≠ k)
theorem MV_del {m : List Stk} (hn : (m.map (·.1)).Nodup) (k : Int) : kvDel (MV m) k = MV (cDel m k) := by
  induction m with
  | nil => rfl
  | cons p m ih =>
    rw [List.map_cons, List.nodup_cons] at hn
    show kvDel ((p.1, _) :: MV m) k = MV (List.filter _ (p :: m))
    simp only [kvDel, List.filter_cons]
    by_cases h : p.1 = k
    · rw [if_pos h]
      have : (m.filter fun p => decide (p.1 ≠ k)) = m := List.filter_eq_self.2 fun q hq => by
        rw [decide_eq_true_iff]
        rintro rfl
        exact hn.1 (by rw [h]; exact List.mem_map.2 ⟨q, hq, rfl⟩)
      rw [this]; simp [h]
    · rw [if_neg h, ih hn.2]
      simp [h, MV, cDel]
theorem delM {h : Heap} {b : Nat} {m : List Stk} (hm : MapI h b (MV m)) {k : Int} {K : Value → Heap → Prop}
    (hK : ∀ h' : Heap, MapI h' b (MV (cDel m k)) → KB [b] h h' → h'.size = h.size → K (.tuple #[]) h') : delK Try.prog #[63, 3] 0 (.map (some b)) (.int .i64 k) h K := by
  have hn : (m.map (·.1)).Nodup := by rw [← MV_keys]; exact MapI.nodup hm
  refine del_spec tyM tyI hm ?_
  rw [MV_del hn]; exact hK
theorem mem_cDel {m : List Stk} {k : Int} {p : Stk} : p ∈ cDel m k ↔ p ∈ m ∧ p.1 ≠ k := by
  unfold cDel; rw [List.mem_filter, decide_eq_true_iff]
theorem OwnT.take {B : Nat} {h : Heap} {a : Option Addr} {c : Nat} {xs : List Tm} (s : OwnT B h a c xs) (j : Nat) : OwnT B h a c (xs.take j) := by
  rcases s with ⟨rfl, hn, hc, hx⟩ | ⟨b, l, rfl, h1, h2, h3, h4, h5, h6⟩
  · have : xs = [] := List.eq_nil_of_length_eq_zero hn
    subst this
    exact .inl ⟨rfl, by simp, hc, by simp⟩
  · refine .inr ⟨b, l, rfl, h1, h2, h3, by rw [List.length_take]; omega, by rw [flat_len encT_len], fun i v hv => ?_⟩
    obtain ⟨i', q, x, g1, g2, rfl⟩ := flat_get encT_len _ i v hv
    rw [List.getElem?_take] at g1
    split at g1
    · exact h6 _ _ (flat_put encT_len xs i' q x v g1 g2)
    · cases g1
theorem IsHeap.take {xs : List Tm} (h : IsHeap xs) (j : Nat) : IsHeap (xs.take j) := fun i hi x y hx hy => by
  rw [List.getElem?_take] at hx hy
  split at hx
  · split at hy
    · exact h i hi x y hx hy
    · cases hy
  · cases hx

def PullR (B : Nat) (h : Heap) (qb mb : Nat) (a : Option Addr) (xs : List Tm) (t : Tm) (most next : Int) (v : Value) (h' : Heap) : Prop :=
  v = .agg #[.int .i64 t.1, .int .i64 t.2.1, .int .i64 t.2.2] ∧ ∃ L', Queue B h' qb mb a L' most next ∧ (t :: L').Perm xs ∧ KB (foot qb mb a) h h'
theorem pull_spec {B : Nat} {h : Heap} {qb mb : Nat} {a : Option Addr} {c : Nat} {xs : List Tm} {m : List Stk} {most next : Int} (s : QB B h qb mb a c xs m most next) (hH : IsHeap xs) (hM : MAll m xs) (hi : Ids xs) {k : Nat} {t : Tm} (hk : xs[k]? = some t) (hn : xs.length ≤ 100000) :
    Run Try.prog 45 [.pointer (some ⟨qb, 0, none⟩), .int .i64 (k : Int)] h (PullR B h qb mb a xs t most next) := by
  have hkl := (List.getElem?_eq_some_iff.1 hk).1
  obtain ⟨w, hw⟩ : ∃ w, xs[xs.length - 1]? = some w := ⟨xs[xs.length - 1], List.getElem?_eq_getElem (by omega)⟩
  refine V45 _ _ _ _ ?_
  unfold VC45
  refine newB_intro fun h1 hb1 k1 s1 => ?_
  have q1 := s.keep k1
  refine ⟨_, _, _, by rw [hcell_of q1.q]; rfl, ?_⟩
  obtain ⟨b, rfl, hbo, g0, g1, g2⟩ := OwnT.get q1.row hk
  refine ⟨by omega, by omega, ?_⟩
  rw [Int.toNat_natCast]
  refine ⟨_, g0, _, g1, _, g2, newB_intro fun h2 hb2 k2 s2 => ?_⟩
  refine storeS_blk (l := [.int .i64 0, .int .i64 0, .int .i64 0]) hb2 (by simp) (encT_single t) fun h3 hb3 k3 s3 => ?_
  have hb3' : h3[h1.size]? = some (.cells #[.int .i64 t.1, .int .i64 t.2.1, .int .i64 t.2.2] 30 (0, 0)) := by simpa [splice] using hb3
  have k13 : Keep h1 h3 := ((KB.of_keep k2).trans k3).keep (by simp)
  have q3 := q1.keep k13
  have hwl : IntKind.wrap .i64 ((xs.length : Nat) - 1 : Int) = ((xs.length - 1 : Nat) : Int) := by rw [w64 (by omega) (by omega)]; omega
  refine ⟨_, _, _, by rw [hcell_of q3.q]; rfl, _, _, _, by rw [hcell_of q3.q]; rfl, ?_⟩
  rw [hwl]
  obtain ⟨b', e', -, f0, f1, f2⟩ := OwnT.get q3.row hw
  cases e'
  refine ⟨by omega, by omega, ?_⟩
  rw [Int.toNat_natCast]
  refine ⟨_, f0, _, f1, _, f2, newB_intro fun h4 hb4 k4 s4 => ?_⟩
  refine storeS_blk (l := [.int .i64 0, .int .i64 0, .int .i64 0]) hb4 (by simp) (encT_single w) fun h5 hb5 k5 s5 => ?_
  have hb5' : h5[h3.size]? = some (.cells #[.int .i64 w.1, .int .i64 w.2.1, .int .i64 w.2.2] 30 (0, 0)) := by simpa [splice] using hb5
  have k35 : Keep h3 h5 := ((KB.of_keep k4).trans k5).keep (by simp)
  have q5 := q3.keep k35
  have hcap : xs.length ≤ c := by
    rcases q5.row with ⟨e, -⟩ | ⟨_, _, _, _, _, _, h4, _⟩
    · cases e
    · exact h4
  refine ⟨_, _, _, by rw [hcell_of q5.q]; rfl, by omega, by omega, onPtr_some ?_⟩
  refine stK_blk q5.q (by simp) rfl fun h6 hb6 k6 s6 => ?_
  have htl : (xs.take (xs.length - 1)).length = xs.length - 1 := by rw [List.length_take]; omega
  have hb6' : h6[qb]? = some (.cells #[.slice (some ⟨b, 0, none⟩) (xs.take (xs.length - 1)).length c, .map (some mb), .int .i64 most, .int .i64 next] 65 (0, 0)) := by rw [htl]; simpa using hb6
  obtain ⟨hne1, hne2, hne3⟩ := q5.ne
  have hqb : qb ≠ b := fun e => hne2 (by simp [ownB, e])
  have q6 : QB B h6 qb mb (some ⟨b, 0, none⟩) c (xs.take (xs.length - 1)) m most next :=
    ⟨hb6', (OwnT.take q5.row _).kb k6 fun b' o e => by cases e; simpa using Ne.symm hqb, q5.map.kb k6 (by simpa using Ne.symm hne1), s.hq, s.hm⟩
  have hlt1 : ∀ x ∈ foot qb mb (some ⟨b, 0, none⟩), x < h.size := fun x hx => by
    have e1 := lt_of_get s.q
    have e2 := s.map.lt
    have e3 : b < h.size := by
      obtain ⟨b', e', -, f0, -⟩ := OwnT.get s.row hk
      cases e'; exact hcell_lt f0
    simp [foot, ownB] at hx; omega
  have hz1 := k1.size
  have hz3 := k13.size
  have hft1 : h.size ∉ foot qb mb (some ⟨b, 0, none⟩) := fun hm => by have := hlt1 _ hm; omega
  have hft2 : h1.size ∉ foot qb mb (some ⟨b, 0, none⟩) := fun hm => by have := hlt1 _ hm; omega
  have hft3 : h3.size ∉ foot qb mb (some ⟨b, 0, none⟩) := fun hm => by have := hlt1 _ hm; omega
  have hqf : ∀ {x : Nat}, x ∉ foot qb mb (some ⟨b, 0, none⟩) → x ∉ [qb] := fun hx hm => hx (by simp at hm; subst hm; simp [foot])
  have k06 : KB (foot qb mb (some ⟨b, 0, none⟩)) h h6 := (KB.of_keep ((k1.trans k13).trans k35)).trans (k6.mono fun x hx _ => by simp at hx; subst hx; simp [foot])
  have t6 : h6[h1.size]? = _ := k6.get (k35.get hb3' (by simp)) (hqf hft2)
  have w6 : h6[h3.size]? = _ := k6.get hb5' (hqf hft3)
  have r6 : h6[h.size]? = _ := k6.get (k35.get (k13.get hb1 (by simp)) (by simp)) (hqf hft1)
  refine ⟨_, by rw [hcell_of hb6']; rfl, _, by rw [hcell_of t6]; rfl, ?_⟩
  refine delM q6.map fun h7 hm7 k7 s7 => ?_
  have hmf : ∀ {x : Nat}, x ∉ foot qb mb (some ⟨b, 0, none⟩) → x ∉ [mb] := fun hx hm => hx (by simp at hm; subst hm; simp [foot])
  have q7 : QB B h7 qb mb (some ⟨b, 0, none⟩) c (xs.take (xs.length - 1)) (cDel m t.2.1) most next :=
    ⟨k7.get q6.q (by simpa using hne1), q6.row.kb k7 fun b' o e => by cases e; intro hm; exact hne3 (by simp at hm; simp [ownB, hm]), hm7, s.hq, s.hm⟩
  have k07 := k06.trans (k7.mono fun x hx _ => by simp at hx; subst hx; simp [foot])
  have hend : ∀ (h8 : Heap) (L' : List Tm), Queue B h8 qb mb (some ⟨b, 0, none⟩) L' most next → (t :: L').Perm xs → KB (foot qb mb (some ⟨b, 0, none⟩)) h7 h8 →
      ∃ x : Int, hcell h8 ⟨h1.size, 0, none⟩ = some (.int .i64 x) ∧ ∃ y : Int, hcell h8 ⟨h1.size, 1, none⟩ = some (.int .i64 y) ∧ ∃ z : Int, hcell h8 ⟨h1.size, 2, none⟩ = some (.int .i64 z) ∧
        storeS h.size 0 [.int .i64 x, .int .i64 y, .int .i64 z] 0 h8 fun h9 => ∃ x : Int, hcell h9 ⟨h.size, 0, none⟩ = some (.int .i64 x) ∧ ∃ y : Int, hcell h9 ⟨h.size, 1, none⟩ = some (.int .i64 y) ∧ ∃ z : Int, hcell h9 ⟨h.size, 2, none⟩ = some (.int .i64 z) ∧
          PullR B h qb mb (some ⟨b, 0, none⟩) xs t most next (.agg #[.int .i64 x, .int .i64 y, .int .i64 z]) h9 := fun h8 L' hQ hP k8 => by
    have t8 := k8.get (k7.get t6 (hmf hft2)) hft2
    have r8 := k8.get (k7.get r6 (hmf hft1)) hft1
    refine ⟨_, by rw [hcell_of t8]; rfl, _, by rw [hcell_of t8]; rfl, _, by rw [hcell_of t8]; rfl, ?_⟩
    refine storeS_blk (l := [.int .i64 0, .int .i64 0, .int .i64 0]) r8 (by simp) (encT_single t) fun h9 hb9 k9 s9 => ?_
    have hb9' : h9[h.size]? = some (.cells #[.int .i64 t.1, .int .i64 t.2.1, .int .i64 t.2.2] 30 (0, 0)) := by simpa [splice] using hb9
    refine ⟨_, by rw [hcell_of hb9']; rfl, _, by rw [hcell_of hb9']; rfl, _, by rw [hcell_of hb9']; rfl, rfl, L', ?_, hP, ?_⟩
    · obtain ⟨c8, ys, m8, q8, r⟩ := hQ
      exact ⟨c8, ys, m8, q8.kb k9 fun x hx hm => hft1 (by simp at hm; subst hm; exact hx), r⟩
    · have t1 : KB (foot qb mb (some ⟨b, 0, none⟩) ++ [h.size]) h h9 := ((k07.trans k8).mono fun x hx _ => List.mem_append_left _ hx).trans (k9.mono fun x hx _ => List.mem_append_right _ hx)
      exact t1.mono fun x hx hl => (List.mem_append.1 hx).elim id fun hm => by simp at hm; omega
  have hold : ∀ i, i < xs.length - 1 → (xs.take (xs.length - 1))[i]? = xs[i]? := fun i hi => by rw [List.getElem?_take, if_pos hi]
  have hnone : ∀ i, ¬ i < xs.length - 1 → (xs.take (xs.length - 1))[i]? = none := fun i hi => by rw [List.getElem?_take, if_neg hi]
  refine cIf (fun hlt => ?_) (fun hge => ?_)
  · have hkn : k < xs.length - 1 := by omega
    have w7 := k7.get w6 (hmf hft3)
    refine ⟨_, by rw [hcell_of w7]; rfl, _, by rw [hcell_of w7]; rfl, _, by rw [hcell_of w7]; rfl, ?_⟩
    refine (set_spec q7 (k := k) (by rw [htl]; omega) w).mono ?_
    rintro v h8 ⟨rfl, q8, k8⟩
    refine ⟨rfl, ?_⟩
    have hlen0 : ((xs.take (xs.length - 1)).set k w).length = xs.length - 1 := by rw [List.length_set, htl]
    have hk0 : ((xs.take (xs.length - 1)).set k w)[k]? = some w := List.getElem?_set_self (by rw [htl]; exact hkn)
    have hother : ∀ i, i ≠ k → i < xs.length - 1 → ((xs.take (xs.length - 1)).set k w)[i]? = xs[i]? := fun i hik hil => by rw [List.getElem?_set_ne (Ne.symm hik), hold i hil]
    have hsw : (xs.take (xs.length - 1)).set k w ++ [t] = swp xs k (xs.length - 1) t w := by
      apply List.ext_getElem?
      intro i
      rw [swp_get hkl (by omega) (by omega)]
      by_cases h1 : i < xs.length - 1
      · rw [List.getElem?_append_left (by rw [hlen0]; exact h1)]
        by_cases h2 : i = k
        · rw [if_pos h2, h2, hk0]
        · rw [if_neg h2, if_neg (by omega), hother i h2 h1]
      · rw [List.getElem?_append_right (by rw [hlen0]; omega), hlen0, if_neg (by omega)]
        by_cases h2 : i = xs.length - 1
        · rw [if_pos h2, h2]; simp
        · rw [if_neg h2, List.getElem?_eq_none (by simp; omega), List.getElem?_eq_none (by omega)]
    have hP0 : ((xs.take (xs.length - 1)).set k w ++ [t]).Perm xs := by rw [hsw]; exact swp_perm hk hw (by omega)
    have hI0 : Ids ((xs.take (xs.length - 1)).set k w) := by
      have h1 : Ids ((xs.take (xs.length - 1)).set k w ++ [t]) := ids_perm hP0 hi
      have h2 : (((xs.take (xs.length - 1)).set k w ++ [t]).map (·.2.1)).Nodup := h1
      rw [List.map_append, List.nodup_append] at h2
      exact h2.1
    have hMx : MEx (cSet (cDel m t.2.1) w.2.1 k) ((xs.take (xs.length - 1)).set k w) k := ⟨fun i x hx hik => by
        have hil : i < xs.length - 1 := by
          have := (List.getElem?_eq_some_iff.1 hx).1; omega
        rw [hother i hik hil] at hx
        exact cSet_keep (mem_cDel.2 ⟨hM.pos i x hx, fun e => hik (hi.inj hx hk e)⟩) fun e => by have := hi.inj hx hw e; omega, fun p hp => by
        rcases cSet_mem hp with rfl | hp
        · exact ⟨w, List.mem_of_getElem? hk0, rfl⟩
        · obtain ⟨hp1, hp2⟩ := mem_cDel.1 hp
          obtain ⟨x, hx, he⟩ := hM.only p hp1
          obtain ⟨i, hix⟩ := List.mem_iff_getElem?.1 hx
          have hil := (List.getElem?_eq_some_iff.1 hix).1
          have hik : i ≠ k := fun e => by subst e; rw [hk] at hix; cases hix; exact hp2 he.symm
          by_cases h1 : i < xs.length - 1
          · exact ⟨x, List.mem_of_getElem? ((hother i hik h1).trans hix), he⟩
          · have : i = xs.length - 1 := by omega
            subst this
            rw [hw] at hix; cases hix
            exact ⟨w, List.mem_of_getElem? hk0, he⟩⟩
    refine (up_spec q8 hk0 (by rw [hlen0]; omega) hI0 (HE.set ((hH.take _).he k) w) hMx).mono ?_
    rintro v h9 ⟨rfl, ys, m', k', q9, k9, hperm, hHE, hU, hkt, hMA, -⟩
    have w9 := k9.get (k8.get w7 hft3) hft3
    have hIy := ids_perm hperm hI0
    have hly := hperm.length_eq
    refine ⟨rfl, _, by rw [hcell_of q9.q]; rfl, _, by rw [hcell_of w9]; rfl, ?_⟩
    refine lookM (r := some mb) q9.map fun hnd => ⟨_, rfl, ?_⟩
    have hpos := tot_mem hnd (hMA.pos k' w hkt)
    simp only at hpos
    rw [hpos]
    refine (down_spec q9 hkt (by rw [hly, hlen0]; omega) hIy hHE hU ⟨fun i x hx _ => hMA.pos i x hx, hMA.only⟩).mono ?_
    rintro v h10 ⟨rfl, zs, m2, q10, k10, hp10, hH10, hM10⟩
    refine ⟨rfl, hend h10 zs ⟨c, zs, m2, q10, hH10, hM10, .refl _, ids_perm hp10 hIy⟩ ?_ ((k8.trans k9).trans k10)⟩
    exact (((hp10.trans hperm).cons t).trans (List.perm_append_comm (l₁ := [t]))).trans hP0
  · have hkn : k = xs.length - 1 := by omega
    have hxs : xs = xs.take (xs.length - 1) ++ [t] := by
      apply List.ext_getElem?
      intro i
      by_cases h1 : i < xs.length - 1
      · rw [List.getElem?_append_left (by rw [htl]; exact h1), hold i h1]
      · rw [List.getElem?_append_right (by rw [htl]; omega), htl]
        by_cases h2 : i = xs.length - 1
        · rw [h2, ← hkn, hk]; simp
        · rw [List.getElem?_eq_none (by omega), List.getElem?_eq_none (by simp; omega)]
    have hI0 : Ids (xs.take (xs.length - 1)) := by
      have h2 : ((xs.take (xs.length - 1) ++ [t]).map (·.2.1)).Nodup := by rw [← hxs]; exact hi
      rw [List.map_append, List.nodup_append] at h2
      exact h2.1
    refine hend h7 (xs.take (xs.length - 1)) ⟨c, _, _, q7, hH.take _, ⟨fun i x hx => ?_, fun p hp => ?_⟩, .refl _, hI0⟩ ?_ (.refl _ _)
    · have hil : i < xs.length - 1 := by
        have := (List.getElem?_eq_some_iff.1 hx).1; omega
      rw [hold i hil] at hx
      exact mem_cDel.2 ⟨hM.pos i x hx, fun e => by have := hi.inj hx hk e; omega⟩
    · obtain ⟨hp1, hp2⟩ := mem_cDel.1 hp
      obtain ⟨x, hx, he⟩ := hM.only p hp1
      rw [hxs, List.mem_append] at hx
      rcases hx with hx | hx
      · exact ⟨x, hx, he⟩
      · simp at hx; subst hx; exact absurd he.symm hp2
    · have h1 : (t :: xs.take (xs.length - 1)).Perm (xs.take (xs.length - 1) ++ [t]) := List.perm_append_comm (l₁ := [t])
      rw [← hxs] at h1
      exact h1
end Go.Proofs.Ytjcjlhpabjjflaa
