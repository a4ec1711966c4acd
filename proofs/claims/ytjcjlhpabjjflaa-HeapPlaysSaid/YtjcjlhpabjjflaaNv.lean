/- Layer 07: List, by slices.SortedFunc over slices.Values. -/
import Derived.Test.YtjcjlhpabjjflaaNr
import Derived.Test.YtjcjlhpabjjflaaV6
set_option linter.unusedVariables false
namespace Go.Proofs.Ytjcjlhpabjjflaa
open Go Go.Sort Go.Shelf Go.Proofs
attribute [local irreducible] appK copyK delK updK lookK makeK rangeK nextM entryM mapEntryK entryStK lenMapK YRun
variable {D D' : Fz} {C : List Chunk} {h h' : Heap}

theorem St.at0 {b : Nat} {o : Obj} (S : St D ([(b, o)] :: C) h) : atO h b o := S.get (List.mem_singleton_self _)
theorem St.set0 {b : Nat} {o o' : Obj} {K : Heap → Prop} (S : St D ([(b, o)] :: C) h) (hK : ∀ h', St D ([(b, o')] :: C) h' → K h') : setO h b o' K := by
  have hb := lt_of_get S.at0
  refine hK _ (S.upd ⟨by simp, fun x hx hf => ?_⟩ (by simp [hb]) (by simp) (by simp))
  rw [Array.getElem?_setIfInBounds_ne]
  simp at hf; exact fun e => hf e.symm
theorem St.at1 {b : Nat} {o : Obj} {c0 : Chunk} (S : St D (c0 :: [(b, o)] :: C) h) : atO h b o := S.drop.at0
theorem St.set1 {b : Nat} {o o' : Obj} {c0 : Chunk} {K : Heap → Prop} (S : St D (c0 :: [(b, o)] :: C) h) (hK : ∀ h', St D (c0 :: [(b, o')] :: C) h' → K h') : setO h b o' K := S.swap.set0 fun h' S' => hK h' S'.swap
theorem St.sub {c : Chunk} (S : St D C h) (hc : c ∈ C) : ∀ p ∈ c, h[p.1]? = some p.2 := fun p hp => S.own p (List.mem_flatten.2 ⟨c, hc, hp⟩)

theorem callV_c {P : Program} {g : FuncId} {args : List Value} {c : Value} {h : Heap} {R : Value → Heap → Prop} (hr : Run P g (args ++ [c]) h R) : CallV P (.func (.func g) #[] #[c]) args h R := by
  unfold CallV
  simpa using hr
abbrev YOf (D : Fz) (l : Nat) (L : List Tm) (Y : Nat → Fz → Chunk → Prop) : Prop :=
  ∀ k t, L[k]? = some t → ∀ D1 cy Cr h1 R, Y k D1 cy → Le D D1 → St D1 (cy :: Cr) h1 → (∀ D2 cy2 h2, Le D1 D2 → Y (k + 1) D2 cy2 → St D2 (cy2 :: Cr) h2 → R (.bool true) h2) → YRun Try.prog l [vT t] h1 R
theorem values_spec {a : Option Addr} {n c m1 l : Nat} {L : List Tm} {ch cy : Chunk} (Y : Nat → Fz → Chunk → Prop) (hS : ∀ h' : Heap, (∀ p ∈ ch, h'[p.1]? = some p.2) → SlOf encT 3 h' a n c L) (hn : n ≤ 100000) (hY : YOf D l L Y)
    (S : St D (cy :: [(m1, .cells #[.slice a n c] 59 (0, 0))] :: ch :: C) h) (h0 : Y 0 D cy) :
    Run Try.prog 78 [.func (.yield l) #[] #[], .pointer (some ⟨m1, 0, none⟩)] h fun v h' => ∃ D' cy', Le D D' ∧ Y L.length D' cy' ∧ St D' (cy' :: [(m1, .cells #[.slice a n c] 59 (0, 0))] :: ch :: C) h' := by
  have hnL : L.length = n := (hS h (S.sub (by simp))).1
  refine V78 _ _ _ _ ?_
  unfold VC78
  (first | refine ⟨_, by assumption, ?_⟩ | refine ⟨_, S.ld0.trans rfl, ?_⟩ | refine ⟨_, _, _, S.ld0.trans rfl, ?_⟩ | refine ⟨_, S.ld1.trans rfl, ?_⟩ | refine ⟨_, _, _, S.ld1.trans rfl, ?_⟩ | refine ⟨_, S.ld2.trans rfl, ?_⟩ | refine ⟨_, _, _, S.ld2.trans rfl, ?_⟩ | refine ⟨_, S.ld3.trans rfl, ?_⟩ | refine ⟨_, _, _, S.ld3.trans rfl, ?_⟩ | refine ⟨_, S.ld4.trans rfl, ?_⟩ | refine ⟨_, _, _, S.ld4.trans rfl, ?_⟩ | refine ⟨_, S.ld5.trans rfl, ?_⟩ | refine ⟨_, _, _, S.ld5.trans rfl, ?_⟩)
  refine ⟨fun z h' => ∃ (i : Nat) (D' : Fz) (cy' : Chunk), z = i ∧ i ≤ n ∧ Le D D' ∧ Y i D' cy' ∧ St D' (cy' :: [(m1, .cells #[.slice a n c] 59 (0, 0))] :: ch :: C) h', fun z _ => n - z.toNat, ⟨0, D, cy, rfl, by omega, .refl D, h0, S⟩, ?_⟩
  clear S h0
  rintro - h1 z ⟨i, D1, cy1, rfl, hi, l1, y1, S⟩
  refine cIf (fun hlt => ?_) fun hge => ?_
  · have hil : i < L.length := by omega
    refine SlOf.el (hS h1 (S.sub (by simp))) rfl hil fun b o hc => ?_
    refine ⟨by omega, by omega, _, hc 0 _ rfl, _, hc 1 _ rfl, _, hc 2 _ rfl, ?_⟩
    (repeat (first | refine onPtr_s ?_ | refine S.new fun bb hh S => ?_ | refine S.st0 (by rfl) (by rfl) fun hh S => ?_ | refine S.sk0 (by rfl) (by rfl) fun hh S => ?_ | refine S.st1 (by rfl) (by rfl) fun hh S => ?_ | refine S.sk1 (by rfl) (by rfl) fun hh S => ?_ | refine S.st2 (by rfl) (by rfl) fun hh S => ?_ | refine S.sk2 (by rfl) (by rfl) fun hh S => ?_ | refine S.st3 (by rfl) (by rfl) fun hh S => ?_ | refine S.sk3 (by rfl) (by rfl) fun hh S => ?_ | refine ⟨_, by assumption, ?_⟩ | refine ⟨_, S.ld0.trans rfl, ?_⟩ | refine ⟨_, _, _, S.ld0.trans rfl, ?_⟩ | refine ⟨_, S.ld1.trans rfl, ?_⟩ | refine ⟨_, _, _, S.ld1.trans rfl, ?_⟩ | refine ⟨_, S.ld2.trans rfl, ?_⟩ | refine ⟨_, _, _, S.ld2.trans rfl, ?_⟩ | refine ⟨_, S.ld3.trans rfl, ?_⟩ | refine ⟨_, _, _, S.ld3.trans rfl, ?_⟩ | refine ⟨_, S.ld4.trans rfl, ?_⟩ | refine ⟨_, _, _, S.ld4.trans rfl, ?_⟩ | refine ⟨_, S.ld5.trans rfl, ?_⟩ | refine ⟨_, _, _, S.ld5.trans rfl, ?_⟩))
    refine hY i L[i] (List.getElem?_eq_getElem hil) D1 cy1 _ _ _ y1 l1 S.swap fun D2 cy2 h2 l2 y2 S => ?_
    refine ⟨_, rfl, rfl, ?_⟩
    rw [w64n (by omega)]
    exact ⟨⟨i + 1, D2, cy2, rfl, by omega, l1.trans l2, y2, S.swap.drop⟩, by simp only [Int.toNat_natCast]; omega⟩
  · have : i = L.length := by omega
    subst this
    exact ⟨D1, cy1, l1, y1, S⟩

/-- An own row of timers. -/
abbrev OwnR (D : Fz) (a : Option Addr) (c : Nat) (L : List Tm) (och : Chunk) : Prop := Own D 30 3 a c (L.map eT) och
theorem appendSeq_spec {a : Option Addr} {n c m1 : Nat} {L : List Tm} {ch : Chunk} (hS : ∀ h' : Heap, (∀ p ∈ ch, h'[p.1]? = some p.2) → SlOf encT 3 h' a n c L) (hn : n ≤ 100000)
    (S : St D ([(m1, .cells #[.slice a n c] 59 (0, 0))] :: ch :: C) h) :
    Run Try.prog 84 [.slice none 0 0, .func (.func 78) #[] #[.pointer (some ⟨m1, 0, none⟩)]] h fun v h' => ∃ D' a' c' och, Le D D' ∧ v = .slice a' L.length c' ∧ OwnR D' a' c' L och ∧ St D' (och :: ch :: C) h' := by
  have hnL : L.length = n := (hS h (S.sub (by simp))).1
  refine V84 _ _ _ _ _ _ ?_
  unfold VC84
  refine S.new fun box h1 S => ?_
  intro oR oB oD
  refine S.new fun dd h2 S => S.new fun lp h3 S => ?_
  intro hy
  let Y : Nat → Fz → Chunk → Prop := fun k D1 cy => ∃ a' c' och, cy = [(lp, oR)] ++ ([(box, .cells #[.slice a' (L.take k).length c'] 59 (0, 0))] ++ och) ∧ OwnR D1 a' c' (L.take k) och
  have S1 : St D (([(lp, oR)] ++ ([(box, .cells #[.slice none 0 0] 59 (0, 0))] ++ [])) :: [(m1, .cells #[.slice a n c] 59 (0, 0))] :: ch :: [(dd, .deferred (some []))] :: C) h3 := (S.nil.arr [1, 3, 0, 4, 5, 2] rfl).join3
  refine callV_c ?_
  show Run Try.prog 78 [.func (.yield lp) #[] #[], .pointer (some ⟨m1, 0, none⟩)] h3 _
  refine (values_spec Y hS hn (fun k t hk D1 cy Cr h4 R y1 l1 S hR => ?_) S1 ⟨none, 0, [], rfl, .nil⟩).mono ?_
  · obtain ⟨a', c', och, rfl, o1⟩ := y1
    have S := S.split
    refine hy _ _ _ h4 R S.at0 ?_
    refine S.new fun m4 h5 S => ?_
    (first | refine S.st0 (by rfl) (by rfl) fun hh S => ?_ | refine S.sk0 (by rfl) (by rfl) fun hh S => ?_ | refine S.st1 (by rfl) (by rfl) fun hh S => ?_ | refine S.sk1 (by rfl) (by rfl) fun hh S => ?_ | refine S.st2 (by rfl) (by rfl) fun hh S => ?_ | refine S.sk2 (by rfl) (by rfl) fun hh S => ?_ | refine S.st3 (by rfl) (by rfl) fun hh S => ?_ | refine S.sk3 (by rfl) (by rfl) fun hh S => ?_)
    refine ⟨rfl, S.at1, S.set1 fun h6 S => ?_⟩
    have S : St D1 ([(m4, .cells #[.int .i64 t.1, .int .i64 t.2.1, .int .i64 t.2.2] 30 (0, 0))] :: [(lp, oB)] :: [(box, .cells #[.slice a' (L.take k).length c'] 59 (0, 0))] :: och :: Cr) h6 := S.perm (by simp; rfl)
    (repeat (first | refine ⟨_, by assumption, ?_⟩ | refine ⟨_, S.ld0.trans rfl, ?_⟩ | refine ⟨_, _, _, S.ld0.trans rfl, ?_⟩ | refine ⟨_, S.ld1.trans rfl, ?_⟩ | refine ⟨_, _, _, S.ld1.trans rfl, ?_⟩ | refine ⟨_, S.ld2.trans rfl, ?_⟩ | refine ⟨_, _, _, S.ld2.trans rfl, ?_⟩ | refine ⟨_, S.ld3.trans rfl, ?_⟩ | refine ⟨_, _, _, S.ld3.trans rfl, ?_⟩ | refine ⟨_, S.ld4.trans rfl, ?_⟩ | refine ⟨_, _, _, S.ld4.trans rfl, ?_⟩ | refine ⟨_, S.ld5.trans rfl, ?_⟩ | refine ⟨_, _, _, S.ld5.trans rfl, ?_⟩))
    refine S.new fun m5 h7 S => ?_
    have S : St D1 (och :: [(m5, .cells #[.int .i64 t.1, .int .i64 t.2.1, .int .i64 t.2.2] 30 (0, 0))] :: [(lp, oB)] :: [(box, .cells #[.slice a' (L.take k).length c'] 59 (0, 0))] :: [(m4, .cells #[.int .i64 t.1, .int .i64 t.2.1, .int .i64 t.2.2] 30 (0, 0))] :: Cr) h7 := S.arr [4, 0, 2, 3, 1] rfl
    have hkl := (List.getElem?_eq_some_iff.1 hk).1
    refine app_e eyT o1 S (src_one S eT3 (rd_T.2 rfl)) rfl rfl (by simp <;> omega) fun a3 c3 ch3 h8 o3 S3 => ⟨_, _, _, rfl, ?_⟩
    have S := S3
    (first | refine S.st0 (by rfl) (by rfl) fun hh S => ?_ | refine S.sk0 (by rfl) (by rfl) fun hh S => ?_ | refine S.st1 (by rfl) (by rfl) fun hh S => ?_ | refine S.sk1 (by rfl) (by rfl) fun hh S => ?_ | refine S.st2 (by rfl) (by rfl) fun hh S => ?_ | refine S.sk2 (by rfl) (by rfl) fun hh S => ?_ | refine S.st3 (by rfl) (by rfl) fun hh S => ?_ | refine S.sk3 (by rfl) (by rfl) fun hh S => ?_)
    refine ⟨(S.arr [2, 0, 1, 3] rfl).at0, (S.arr [2, 0, 1, 3] rfl).set0 fun h9 S => ?_⟩
    have hp : L.take k ++ [t] = L.take (k + 1) := by rw [List.take_add_one, hk]; rfl
    rw [hp] at o3 S
    refine hR D1 ([(lp, oR)] ++ ([(box, .cells #[.slice a3 (L.take (k + 1)).length c3] 59 (0, 0))] ++ ch3)) h9 (.refl _) ⟨_, _, _, rfl, o3⟩ ?_
    exact (S.arr [2, 4, 0, 3, 1] rfl).drop.drop.join3
  · rintro v h5 ⟨D2, cy, l2, ⟨a', c', och, rfl, o1⟩, S⟩
    have S := S.split3
    refine .inl ⟨S.at0, fun oX => S.set0 fun h6 S => ?_⟩
    (repeat (first | refine ⟨_, by assumption, ?_⟩ | refine ⟨_, S.ld0.trans rfl, ?_⟩ | refine ⟨_, _, _, S.ld0.trans rfl, ?_⟩ | refine ⟨_, S.ld1.trans rfl, ?_⟩ | refine ⟨_, _, _, S.ld1.trans rfl, ?_⟩ | refine ⟨_, S.ld2.trans rfl, ?_⟩ | refine ⟨_, _, _, S.ld2.trans rfl, ?_⟩ | refine ⟨_, S.ld3.trans rfl, ?_⟩ | refine ⟨_, _, _, S.ld3.trans rfl, ?_⟩ | refine ⟨_, S.ld4.trans rfl, ?_⟩ | refine ⟨_, _, _, S.ld4.trans rfl, ?_⟩ | refine ⟨_, S.ld5.trans rfl, ?_⟩ | refine ⟨_, _, _, S.ld5.trans rfl, ?_⟩))
    have S := S.arr [5, 0, 1, 2, 3, 4] rfl
    refine ⟨S.at0, S.set0 fun h7 S => ?_⟩
    rw [List.take_length] at o1
    refine ⟨D2, a', c', och, l2, by rw [List.take_length], o1, (S.arr [0, 1, 2, 4, 3, 5] rfl).drop.drop.drop.drop⟩

/- ## The sort -/
def sg (x y : Int) : Int := if x < y then -1 else if x > y then 1 else 0
def cmpT (a b : Tm) : Int := if sg a.1 b.1 ≠ 0 then sg a.1 b.1 else sg a.2.1 b.2.1
theorem cmpT_spec (a b : Tm) (h : Heap) : Run Try.prog 63 [.agg (encT a).toArray, .agg (encT b).toArray] h fun v h' => v = .int .i64 (cmpT a b) ∧ Keep h h' := by
  refine V63 _ _ _ _ _ _ _ _ ?_
  unfold VC63
  refine newB_intro fun h1 hb1 k1 s1 => newB_intro fun h2 hb2 k2 s2 => ?_
  have hb1' : h2[h.size]? = _ := k2.get hb1 (by simp)
  refine ⟨_, by rw [hcell_of hb1']; rfl, _, by rw [hcell_of hb2]; rfl, _, by rw [hcell_of hb1']; rfl, _, by rw [hcell_of hb2]; rfl, ?_⟩
  refine (cmpInt_spec _ _ _).mono ?_
  rintro v h3 ⟨rfl, rfl⟩
  refine ⟨_, rfl, ⟨_, by rw [hcell_of hb2]; rfl, rfl⟩, ⟨_, by rw [hcell_of hb1']; rfl, rfl⟩, ?_⟩
  refine (cmpInt_spec _ _ _).mono ?_
  rintro v h4 ⟨rfl, rfl⟩
  refine ⟨_, rfl, newB_intro fun h5 hb5 k5 s5 => ?_⟩
  refine (or_spec hb5).mono ?_
  rintro v h6 ⟨rfl, rfl⟩
  exact ⟨_, rfl, rfl, (k1.trans k2).trans k5⟩
theorem timerSWO : SWO (ltOf cmpT) where
  irrefl x := by unfold ltOf cmpT sg; simp
  trans x y z h1 h2 := by
    unfold ltOf cmpT sg at *
    simp only [decide_eq_true_eq] at *
    split at h1 <;> split at h2 <;> split <;> omega
  ntrans x y z h1 h2 := by
    unfold ltOf cmpT sg at *
    simp only [decide_eq_false_iff_not] at *
    split at h1 <;> split at h2 <;> split <;> omega
instance : Inhabited Tm := ⟨(0, 0, 0)⟩
theorem callS7 : Callable Try.prog 77 := ⟨_, Try.func77, by kernel_rfl, by kernel_rfl⟩
theorem callC7 : Callable Try.prog 63 := ⟨_, Try.func63, by kernel_rfl, by kernel_rfl⟩
theorem ownT_cells {T : TypeId} {a : Option Addr} {c : Nat} {L : List Tm} {och : Chunk} (o : Own D T 3 a c (L.map eT) och) (hL : L ≠ []) : ∃ b arr, a = some ⟨b, 0, none⟩ ∧ och = [(b, .cells arr T (0, 0))] ∧ arr.size = c * 3 ∧
    ∀ i x, L[i]? = some x → ∀ j v, (encT x)[j]? = some v → arr[i * 3 + j]? = some v := by
  generalize hr : L.map eT = rows at o
  cases o with
  | nil => simp at hr; exact absurd hr hL
  | row b c arr rows v h1 h2 h3 h4 h5 =>
    refine ⟨b, arr, rfl, rfl, h1, fun i x hx j w hw => ?_⟩
    subst hr
    have hrow : (L.map eT)[i]? = some (eT x) := by simp [hx]
    match j, hw with
    | 0, hw => cases hw; have e1 := h4 i 0 _ _ hrow rfl; have e2 := h5 i 0 _ _ hrow rfl; rw [Rd.int_iff] at e2; rw [e1, e2]
    | 1, hw => cases hw; have e1 := h4 i 1 _ _ hrow rfl; have e2 := h5 i 1 _ _ hrow rfl; rw [Rd.int_iff] at e2; rw [e1, e2]
    | 2, hw => cases hw; have e1 := h4 i 2 _ _ hrow rfl; have e2 := h5 i 2 _ _ hrow rfl; rw [Rd.int_iff] at e2; rw [e1, e2]
theorem ownT_of {b c : Nat} {arr : Array Value} {r : List Tm} (hb : h[b]? = some (.cells arr 30 (0, 0))) (hz : arr.size = c * 3) (hs : SlOf encT 3 h (some ⟨b, 0, none⟩) r.length c r) : OwnR D (some ⟨b, 0, none⟩) c r [(b, .cells arr 30 (0, 0))] := by
  refine .row b c arr (r.map eT) (fun i j => (encT (r.getD i (0, 0, 0))).getD j undef) hz (by simpa using hs.2.1) (eT_len r) (fun i j q u hi hj => ?_) (fun i j q u hi hj => ?_)
  · rw [List.getElem?_map] at hi
    cases hx : r[i]? with
    | none => rw [hx] at hi; cases hi
    | some x =>
      rw [hx] at hi; cases hi
      obtain ⟨b', o', e, hc⟩ := hs.2.2 i x hx
      cases e
      have hj3 : j < 3 := by have := (List.getElem?_eq_some_iff.1 hj).1; exact this
      have hv : (encT x)[j]? = some ((encT x).getD j undef) := by rw [List.getD_eq_getElem?_getD, List.getElem?_eq_getElem (by rw [encT_len]; exact hj3)]; rfl
      have := hc j _ hv
      rw [hcell_of hb, Nat.zero_add] at this
      have hg : r.getD i (0, 0, 0) = x := by rw [List.getD_eq_getElem?_getD, hx]; rfl
      simp only [hg]; exact this
  · rw [List.getElem?_map] at hi
    cases hx : r[i]? with
    | none => rw [hx] at hi; cases hi
    | some x =>
      rw [hx] at hi; cases hi
      have hg : r.getD i (0, 0, 0) = x := by rw [List.getD_eq_getElem?_getD, hx]; rfl
      simp only [hg]
      match j, hj with
      | 0, hj => cases hj; exact .int _ _
      | 1, hj => cases hj; exact .int _ _
      | 2, hj => cases hj; exact .int _ _
theorem sortT_spec {a : Option Addr} {c : Nat} {L : List Tm} {och : Chunk} (o : OwnR D a c L och) (S : St D (och :: C) h) (hn : L.length ≤ 100000) :
    Run Try.prog 77 [.slice a L.length c, .func (.func 63) #[] #[]] h fun v h' => v = .tuple #[] ∧ ∃ och' r, r.Perm L ∧ r.Pairwise (fun x y => cmpT y x < 0 → False) ∧ OwnR D a c r och' ∧ St D (och' :: C) h' := by
  have hlc := o.len
  rw [List.length_map] at hlc
  cases hL : L with
  | nil =>
    subst hL
    refine (sortRun_none Try.sortLT (f := 77) rfl callS7).mono ?_
    rintro v h' ⟨rfl, rfl⟩
    exact ⟨rfl, och, [], .refl _, .nil, o, S⟩
  | cons t0 L0 =>
    rw [← hL]
    obtain ⟨b, arr, rfl, rfl, hz, hc⟩ := ownT_cells o (by rw [hL]; simp)
    refine (sortRun (α := Tm) Try.sortLT (f := 77) rfl callS7 3 Try.isAgg30 Try.sizeOf30 encT encT_len encT_single cmpT timerSWO 63 callC7 (fun x y h => cmpT_spec x y h) (cap := c) (d := L) S.at0 hc (by omega) hlc).mono ?_
    rintro v h' ⟨rfl, kb, r, hp, hs, hsl, l', hb', hz'⟩
    have hlr : r.length = L.length := hp.length_eq
    refine ⟨rfl, [(b, .cells l' 30 (0, 0))], r, hp, hs, ownT_of hb' (by rw [hz', hz]) (by rw [hlr]; exact hsl), S.upd (by simpa using kb) (by simpa using hb') (by simp) (by simp)⟩

/- ## List -/
theorem sorted_eq {L M : List Tm} (hL : L.Pairwise fun a b => aheadT a b = true) (hp : M.Perm L) (hM : M.Pairwise fun x y => cmpT y x < 0 → False) : M = L := by
  refine List.Perm.eq_of_pairwise (le := fun x y => ¬ cmpT y x < 0) (fun a b ha hb h1 h2 => ?_) hM ?_ hp
  · have hab : ∀ a b : Tm, ¬ cmpT b a < 0 → ¬ cmpT a b < 0 → a.1 = b.1 ∧ a.2.1 = b.2.1 := fun a b h1 h2 => by
      unfold cmpT sg at h1 h2
      split at h1 <;> split at h2 <;> omega
    have e := hab a b h1 h2
    have haL := hp.mem_iff.1 ha
    obtain ⟨i, hi⟩ := List.mem_iff_getElem?.1 haL
    obtain ⟨j, hj⟩ := List.mem_iff_getElem?.1 hb
    have hpw := List.pairwise_iff_getElem.1 hL
    obtain ⟨i1, i2⟩ := List.getElem?_eq_some_iff.1 hi
    obtain ⟨j1, j2⟩ := List.getElem?_eq_some_iff.1 hj
    rcases Nat.lt_trichotomy i j with hlt | rfl | hlt
    · have := hpw i j i1 j1 hlt; rw [i2, j2, aheadT_iff] at this; omega
    · rw [← i2, ← j2]
    · have := hpw j i j1 i1 hlt; rw [i2, j2, aheadT_iff] at this; omega
  · refine hL.imp fun {a b} h => ?_
    rw [aheadT_iff] at h
    unfold cmpT sg
    split <;> omega
theorem pList_spec {q : Nat} {x : RQ} {ch : Chunk} (k : x.Ok) (r : IsQ q x.L x.most x.next ch) (S : St D (ch :: C) h) :
    Run Try.prog 41 [.pointer (some ⟨q, 0, none⟩)] h fun v h' => ∃ D' a' c', Le D D' ∧ v = .slice a' x.L.length c' ∧ Rd D' (.slice a' x.L.length c') (.l (x.L.map eT)) ∧ St D' (ch :: C) h' := by
  obtain ⟨mb, a, e, f⟩ := r
  have Q := f h (S.sub (by simp))
  obtain ⟨c, xs, m, qb, hH, hM, hp, hi⟩ := Q
  have hlen : xs.length = x.L.length := hp.length_eq
  have h1 := k.len; have h2 := k.most
  have hrow : ∀ h' : Heap, (∀ p ∈ ch, h'[p.1]? = some p.2) → SlOf encT 3 h' a xs.length c xs := fun h' hh => by
    have hq' : QB 0 h' q mb a c xs m x.most x.next := qb.congr fun b hb => by
      rw [← e] at hb
      obtain ⟨p, hp, rfl⟩ := List.mem_map.1 hb
      rw [hh p hp, S.sub (by simp) p hp]
    exact OwnS.slOf encT_len hq'.row rfl
  refine V41 _ _ _ ?_
  unfold VC41
  refine (given_spec qb).mono ?_
  rintro v h1 ⟨rfl, rfl⟩
  refine ⟨_, rfl, cNot (cB (fun _ => ?_) fun h => nomatch h)⟩
  refine ⟨_, _, _, by rw [hcell_of qb.q]; rfl, ?_⟩
  refine V62 _ _ _ _ _ ?_
  unfold VC62
  refine S.new fun m1 h2 S => ?_
  refine ⟨_, rfl, ?_⟩
  refine V61 _ _ _ _ ?_
  unfold VC61
  refine V76 _ _ _ ?_
  unfold VC76
  refine (appendSeq_spec hrow (by omega) S).mono ?_
  rintro v h3 ⟨D1, a1, c1, och, l1, rfl, o1, S⟩
  refine ⟨_, _, _, rfl, _, _, _, rfl, ?_⟩
  refine (sortT_spec o1 S (by omega)).mono ?_
  rintro v h4 ⟨rfl, och2, r2, hp2, hs2, o2, S⟩
  have : r2 = x.L := sorted_eq k.sort (hp2.trans hp) hs2
  subst this
  obtain ⟨D2, l2, S, hx⟩ := o2.freeze S
  rw [List.length_map] at hx
  rw [hlen]
  exact ⟨rfl, _, _, _, rfl, D2, a1, c1, l1.trans l2, rfl, hx, S⟩
end Go.Proofs.Ytjcjlhpabjjflaa
