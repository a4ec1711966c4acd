/- What layer 7 computes: place, First, Pop, Cancel, Move. -/
import Derived.Test.YtjcjlhpabjjflaaPp
set_option linter.unusedVariables false
namespace Go.Proofs.Ytjcjlhpabjjflaa
open Go Go.Proofs
attribute [local irreducible] appK copyK delK updK lookK makeK rangeK nextM entryM mapEntryK entryStK lenMapK

theorem ret3 {b : Nat} {h : Heap} {c : Array Value} {t : Tm} {R : Value → Heap → Prop} (hb : h[b]? = some (.cells c 30 (0, 0))) (hc : c.size = 3)
    (hR : ∀ h' : Heap, KB [b] h h' → R (.agg #[.int .i64 t.1, .int .i64 t.2.1, .int .i64 t.2.2]) h') :
    storeS b 0 [.int .i64 t.1, .int .i64 t.2.1, .int .i64 t.2.2] 0 h fun h' => ∃ x : Int, hcell h' ⟨b, 0, none⟩ = some (.int .i64 x) ∧ ∃ y : Int, hcell h' ⟨b, 1, none⟩ = some (.int .i64 y) ∧ ∃ z : Int, hcell h' ⟨b, 2, none⟩ = some (.int .i64 z) ∧ R (.agg #[.int .i64 x, .int .i64 y, .int .i64 z]) h' := by
  obtain ⟨l⟩ := c
  match l, hc with
  | [v0, v1, v2], _ =>
    refine storeS_blk (l := [v0, v1, v2]) hb (by simp) (encT_single t) fun h' hb' k' s' => ?_
    have hb2 : h'[b]? = some (.cells #[.int .i64 t.1, .int .i64 t.2.1, .int .i64 t.2.2] 30 (0, 0)) := by simpa [splice] using hb'
    exact ⟨_, by rw [hcell_of hb2]; rfl, _, by rw [hcell_of hb2]; rfl, _, by rw [hcell_of hb2]; rfl, hR h' k'⟩

/- ## place -/
theorem MV_some {m : List Stk} {k : Int} : (kvGet (MV m) k).isSome = decide (k ∈ m.map (·.1)) := by
  induction m with
  | nil => rfl
  | cons p m ih =>
    show (kvGet ((p.1, _) :: MV m) k).isSome = _
    simp only [kvGet]
    by_cases h : p.1 = k
    · rw [if_pos h]; simp [h]
    · rw [if_neg h, ih]; simp [h, Ne.symm h]
theorem lookM2 {h : Heap} {b : Nat} {m : List Stk} (hm : MapI h b (MV m)) {k : Int} {K : Value → Prop} (hK : (m.map (·.1)).Nodup → K (.tuple #[.int .i64 (tot m k), .bool (decide (k ∈ m.map (·.1)))])) :
    lookK Try.prog 63 (.map (some b)) (.int .i64 k) true h K := by
  obtain ⟨i, hi, hz⟩ := inI
  have hn : (m.map (·.1)).Nodup := by rw [← MV_keys]; exact MapI.nodup hm
  refine look_spec (r := some b) tyM tyI hi hz hm ?_
  rw [if_pos rfl, MV_get hn, MV_some]
  exact hK hn
theorem place_spec {B : Nat} {h : Heap} {qb mb : Nat} {a : Option Addr} {c : Nat} {xs : List Tm} {m : List Stk} {most next : Int} (s : QB B h qb mb a c xs m most next) (hM : MAll m xs) (id : Int) :
    Run Try.prog 60 [.pointer (some ⟨qb, 0, none⟩), .int .i64 id] h fun v h' => h' = h ∧
      ((∃ (k : Nat) (t : Tm), v = .tuple #[.int .i64 (k : Int), .int .i64 0] ∧ xs[k]? = some t ∧ t.2.1 = id) ∨ (v = .tuple #[.int .i64 0, .int .i64 3] ∧ ∀ x ∈ xs, x.2.1 ≠ id)) := by
  refine V60 _ _ _ _ ?_
  unfold VC60
  refine (given_spec s).mono ?_
  rintro v h1 ⟨rfl, rfl⟩
  refine ⟨_, rfl, cNot (cB (fun _ => ?_) fun h => nomatch h)⟩
  refine ⟨_, by rw [hcell_of s.q]; rfl, ?_⟩
  refine lookM2 s.map fun hnd => ⟨_, _, rfl, ?_⟩
  by_cases hid : id ∈ m.map (·.1)
  · rw [decide_eq_true hid]
    refine cNot (cB (fun _ => ?_) fun h => nomatch h)
    obtain ⟨p, hp, rfl⟩ := List.mem_map.1 hid
    obtain ⟨x, hx, he⟩ := hM.only p hp
    obtain ⟨i, hix⟩ := List.mem_iff_getElem?.1 hx
    have h1 := tot_mem hnd (hM.pos i x hix)
    simp only [he] at h1
    exact ⟨rfl, .inl ⟨i, x, by rw [h1], hix, he⟩⟩
  · rw [decide_eq_false hid]
    refine cNot (cB (fun h => nomatch h) fun _ => ?_)
    refine ⟨rfl, .inr ⟨rfl, fun x hx e => hid ?_⟩⟩
    obtain ⟨i, hix⟩ := List.mem_iff_getElem?.1 hx
    exact List.mem_map.2 ⟨_, hM.pos i x hix, e⟩

/- ## First, Pop -/
def FirstR (h : Heap) (xs : List Tm) (v : Value) (h' : Heap) : Prop := Keep h h' ∧ ∃ (t : Tm) (b : Bool), v = .tuple #[.agg #[.int .i64 t.1, .int .i64 t.2.1, .int .i64 t.2.2], .bool b] ∧
      ((xs = [] ∧ b = false ∧ t = (0, 0, 0)) ∨ (b = true ∧ xs[0]? = some t))
theorem first_spec {B : Nat} {h : Heap} {qb mb : Nat} {a : Option Addr} {c : Nat} {xs : List Tm} {m : List Stk} {most next : Int} (s : QB B h qb mb a c xs m most next) :
    Run Try.prog 38 [.pointer (some ⟨qb, 0, none⟩)] h (FirstR h xs) := by
  refine V38 _ _ _ ?_
  unfold VC38
  refine newB_intro fun h1 hb1 k1 s1 => ?_
  have q1 := s.keep k1
  refine (given_spec q1).mono ?_
  rintro v h2 ⟨rfl, rfl⟩
  refine ⟨_, rfl, cNot (cB (fun _ => ?_) fun h => nomatch h)⟩
  refine ⟨_, _, _, by rw [hcell_of q1.q]; rfl, ?_⟩
  have hk : ∀ h' : Heap, KB [h.size] h2 h' → Keep h h' := fun h' k => ((KB.of_keep k1).trans k).keep (by simp)
  refine cEq (fun h0 => ?_) (fun h0 => ?_)
  · have hx : xs = [] := List.eq_nil_of_length_eq_zero (by omega)
    exact ret3 (t := (0, 0, 0)) (R := fun v h' => FirstR h xs (.tuple #[v, .bool false]) h') hb1 rfl fun h' k => ⟨hk h' k, (0, 0, 0), false, rfl, .inl ⟨hx, rfl, rfl⟩⟩
  · obtain ⟨t, ht⟩ : ∃ t, xs[0]? = some t := ⟨xs[0]'(by omega), List.getElem?_eq_getElem (by omega)⟩
    obtain ⟨b, rfl, -, g0, g1, g2⟩ := OwnT.get q1.row ht
    refine ⟨_, _, _, by rw [hcell_of q1.q]; rfl, ?_⟩
    refine ⟨by omega, by omega, _, g0, _, g1, _, g2, ?_⟩
    exact ret3 (t := t) (R := fun v h' => FirstR h xs (.tuple #[v, .bool true]) h') hb1 rfl fun h' k => ⟨hk h' k, t, true, rfl, .inr ⟨rfl, ht⟩⟩
def PopR (B : Nat) (h : Heap) (qb mb : Nat) (a : Option Addr) (L : List Tm) (most next now : Int) (v : Value) (h' : Heap) : Prop :=
  ∃ (t : Tm) (b : Bool) (L' : List Tm), v = .tuple #[.agg #[.int .i64 t.1, .int .i64 t.2.1, .int .i64 t.2.2], .bool b] ∧ Queue B h' qb mb a L' most next ∧ KB (foot qb mb a) h h' ∧
    ((b = false ∧ L' = L ∧ t = (0, 0, 0) ∧ ∀ x ∈ L, now < x.1) ∨ (b = true ∧ (t :: L').Perm L ∧ t.1 ≤ now ∧ ∀ x ∈ L, leT t x))
theorem pop_spec {B : Nat} {h : Heap} {qb mb : Nat} {a : Option Addr} {L : List Tm} {most next : Int} (s : Queue B h qb mb a L most next) (hn : L.length ≤ 100000) (now : Int) :
    Run Try.prog 13 [.pointer (some ⟨qb, 0, none⟩), .int .i64 now] h (PopR B h qb mb a L most next now) := by
  have s' := s
  obtain ⟨c, xs, m, q, hH, hM, hp, hi⟩ := s
  have hln : xs.length = L.length := hp.length_eq
  have hfoot : ∀ x ∈ foot qb mb a, x < h.size := fun x hx => by
    have e1 := lt_of_get q.q
    have e2 := q.map.lt
    rcases q.row with ⟨rfl, -⟩ | ⟨b, l, rfl, -, h2, -⟩
    · simp [foot, ownB] at hx; omega
    · have e3 := lt_of_get h2
      simp [foot, ownB] at hx; omega
  refine V13 _ _ _ _ ?_
  unfold VC13
  refine newB_intro fun h1 hb1 k1 s1 => ?_
  have q1 := q.keep k1
  refine (first_spec q1).mono ?_
  rintro v h2 ⟨k2, t, b, rfl, hcase⟩
  refine ⟨_, _, _, _, rfl, newB_intro fun h3 hb3 k3 s3 => ?_⟩
  refine storeS_blk (l := [.int .i64 0, .int .i64 0, .int .i64 0]) hb3 (by simp) (encT_single t) fun h4 hb4 k4 s4 => ?_
  have hb4' : h4[h2.size]? = some (.cells #[.int .i64 t.1, .int .i64 t.2.1, .int .i64 t.2.2] 30 (0, 0)) := by simpa [splice] using hb4
  have k24 : Keep h2 h4 := ((KB.of_keep k3).trans k4).keep (by simp)
  have k14 := k2.trans k24
  have k04 := k1.trans k14
  have r4 : h4[h.size]? = _ := k14.get hb1 (by simp)
  have hno : (∀ x ∈ L, now < x.1) → ∀ h' : Heap, KB [h.size] h4 h' → PopR B h qb mb a L most next now (.tuple #[.agg #[.int .i64 0, .int .i64 0, .int .i64 0], .bool false]) h' := fun hl h' k => by
    have kk : Keep h h' := ((KB.of_keep k04).trans k).keep (by simp)
    exact ⟨(0, 0, 0), false, L, rfl, s'.keep kk, .of_keep kk, .inl ⟨rfl, rfl, rfl, hl⟩⟩
  rcases hcase with ⟨hx, rfl, rfl⟩ | ⟨rfl, h0⟩
  · refine cNot (cB (fun h => nomatch h) fun _ => ?_)
    have hL : L = [] := List.eq_nil_of_length_eq_zero (by rw [← hln, hx]; rfl)
    exact ret3 (t := (0, 0, 0)) (R := fun v h' => PopR B h qb mb a L most next now (.tuple #[v, .bool false]) h') r4 rfl (hno (by rw [hL]; simp))
  · refine cNot (cB (fun _ => ?_) fun h => nomatch h)
    have hmin : ∀ x ∈ L, leT t x := fun x hx => by
      obtain ⟨i, hix⟩ := List.mem_iff_getElem?.1 (hp.mem_iff.2 hx)
      exact hH.first i t x h0 hix
    refine ⟨_, by rw [hcell_of hb4']; rfl, cIf (fun hgt => ?_) (fun hle => ?_)⟩
    · exact ret3 (t := (0, 0, 0)) (R := fun v h' => PopR B h qb mb a L most next now (.tuple #[v, .bool false]) h') r4 rfl (hno fun x hx => by have := hmin x hx; unfold leT at this; omega)
    · refine (pull_spec (q.keep k04) hH hM (ids_perm hp hi) (k := 0) h0 (by omega)).mono ?_
      rintro v h5 ⟨rfl, L', hQ, hP, k5⟩
      refine ⟨_, _, _, rfl, ?_⟩
      have hnf : h.size ∉ foot qb mb a := fun hm => by have := hfoot _ hm; omega
      refine ret3 (t := t) (R := fun v h' => PopR B h qb mb a L most next now (.tuple #[v, .bool true]) h') (k5.get r4 hnf) rfl fun h' k => ?_
      obtain ⟨c8, ys, m8, q8, r⟩ := hQ
      have t1 : KB (foot qb mb a ++ [h.size]) h h' := ((KB.of_keep k04).trans (k5.mono fun x hx _ => List.mem_append_left _ hx)).trans (k.mono fun x hx _ => List.mem_append_right _ hx)
      exact ⟨t, true, L', rfl, ⟨c8, ys, m8, q8.kb k fun x hx hm => hnf (by simp at hm; subst hm; exact hx), r⟩, t1.mono fun x hx hl => (List.mem_append.1 hx).elim id fun hm => by simp at hm; omega, .inr ⟨rfl, hP.trans hp, by omega, hmin⟩⟩
end Go.Proofs.Ytjcjlhpabjjflaa
