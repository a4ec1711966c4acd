/- What layer 7 computes: push, numbers, Insert, Len, Next. -/
import Derived.Test.YtjcjlhpabjjflaaPm
set_option linter.unusedVariables false
namespace Go.Proofs.Ytjcjlhpabjjflaa
open Go Go.Proofs
attribute [local irreducible] appK copyK delK updK lookK makeK rangeK nextM entryM mapEntryK entryStK lenMapK

theorem onPtr_some {b o : Nat} {K : Nat → Nat → Prop} (h : K b o) : onPtr (some ⟨b, o, none⟩) K := h
theorem tyT : Try.prog.underlying 59 = some (.slice 30) := by kernel_rfl
theorem inT : ∃ i, Try.prog.info? 30 = some i ∧ i.size = 3 ∧ i.bytes = 24 ∧ i.zero = some (.agg #[.int .i64 0, .int .i64 0, .int .i64 0]) := by
  have h : (Try.prog.info? 30).map (fun i => (i.size, i.bytes, i.zero)) = some (3, 24, some (.agg #[.int .i64 0, .int .i64 0, .int .i64 0])) := by kernel_rfl
  cases hi : Try.prog.info? 30 with
  | none => rw [hi] at h; cases h
  | some i => rw [hi] at h; simp only [Option.map_some, Option.some.injEq, Prod.mk.injEq] at h; exact ⟨i, rfl, h⟩
theorem appT {B b : Nat} {h : Heap} {a : Option Addr} {c : Nat} {r : List Tm} {x : Tm} {K : Value → Heap → Prop} (hown : OwnT B h a c r) (hB : B ≤ h.size) (hn : r.length ≤ 1000000)
    (hx : h[b]? = some (.cells #[.int .i64 x.1, .int .i64 x.2.1, .int .i64 x.2.2] 30 (0, 0)))
    (hK : ∀ (a' : Option Addr) (c' : Nat) (h' : Heap), OwnT B h' a' c' (r ++ [x]) → KB (ownB a) h h' → (∀ b o, a' = some ⟨b, o, none⟩ → b ∈ ownB a ∨ h.size ≤ b) → K (.slice a' (r ++ [x]).length c') h') :
    appK Try.prog #[59, 59] 59 (.slice a r.length c) (.slice (some ⟨b, 0, none⟩) 1 1) h K := by
  obtain ⟨i, hi, hsz, hby, hz⟩ := inT
  refine app_own (P := Try.prog) (T := 59) (E := 30) (b2 := b) (o2 := 0) (new := encT x) (m := 1) (K := K) tyT hi hz (by rw [hsz]; rfl) (by rw [hby]; decide) (by rw [hsz]; exact hown) hB (fun j v hv => ?_) (by rw [hsz]; rfl) (encT_single x) (by rw [hby]; omega) ?_
  · rw [hcell_of hx, Nat.zero_add]; simpa [encT] using hv
  · intro a' c' h' h1 h2 h3
    rw [hsz] at h1
    have hl : (r ++ [x]).length = r.length + 1 := by simp
    have h1' : OwnT B h' a' c' (r ++ [x]) := by
      show OwnS B 30 3 h' a' (r ++ [x]).length c' _
      rw [hl]; simpa using h1
    have := hK a' c' h' h1' h2 h3
    rwa [hl] at this

/-- A queue that holds the timers L (in some order). -/
def Queue (B : Nat) (h : Heap) (qb mb : Nat) (a : Option Addr) (L : List Tm) (most next : Int) : Prop :=
  ∃ (c : Nat) (xs : List Tm) (m : List Stk), QB B h qb mb a c xs m most next ∧ IsHeap xs ∧ MAll m xs ∧ xs.Perm L ∧ Ids L
theorem Queue.keep {B : Nat} {h h' : Heap} {qb mb : Nat} {a : Option Addr} {L : List Tm} {most next : Int} (s : Queue B h qb mb a L most next) (k : Keep h h') : Queue B h' qb mb a L most next :=
  let ⟨c, xs, m, q, r⟩ := s; ⟨c, xs, m, q.keep k, r⟩
theorem Queue.perm {B : Nat} {h : Heap} {qb mb : Nat} {a : Option Addr} {L M : List Tm} {most next : Int} (s : Queue B h qb mb a L most next) (p : L.Perm M) : Queue B h qb mb a M most next :=
  let ⟨c, xs, m, q, h1, h2, h3, h4⟩ := s; ⟨c, xs, m, q, h1, h2, h3.trans p, ids_perm p.symm h4⟩
/-- New places of the row lie in its old block or in a new one. -/
def Moved (h : Heap) (a a' : Option Addr) : Prop := ∀ x ∈ ownB a', x ∈ ownB a ∨ h.size ≤ x

theorem push_spec {B : Nat} {h : Heap} {qb mb : Nat} {a : Option Addr} {L : List Tm} {most next : Int} (s : Queue B h qb mb a L most next) (hB : B ≤ h.size) {t : Tm} (ht : ∀ x ∈ L, x.2.1 ≠ t.2.1) (hn : L.length ≤ 100000) :
    Run Try.prog 57 [.pointer (some ⟨qb, 0, none⟩), .agg #[.int .i64 t.1, .int .i64 t.2.1, .int .i64 t.2.2]] h
      fun v h' => v = .tuple #[] ∧ ∃ a', Queue B h' qb mb a' (t :: L) most next ∧ KB (foot qb mb a) h h' ∧ Moved h a a' := by
  obtain ⟨c, xs, m, q, hH, hM, hp, hi⟩ := s
  have hln : xs.length = L.length := hp.length_eq
  refine V57 _ _ _ _ _ _ ?_
  unfold VC57
  refine newB_intro fun h1 hb1 k1 s1 => ?_
  have q1 := q.keep k1
  refine ⟨_, _, _, by rw [hcell_of q1.q]; rfl, _, by rw [hcell_of hb1]; rfl, _, by rw [hcell_of hb1]; rfl, _, by rw [hcell_of hb1]; rfl, newB_intro fun h2 hb2 k2 s2 => ?_⟩
  have q2 := q1.keep k2
  refine ⟨⟨_, _, _, by rw [hcell_of q2.q]; rfl, rfl⟩, ?_⟩
  have hsz := k1.size
  have hsz2 := k2.size
  refine appT (B := B) (r := xs) (x := t) q2.row (by omega) (by omega) hb2 fun a' c' h3 own3 k3 hmv => ?_
  obtain ⟨hne1, hne2, hne3⟩ := q2.ne
  have q3 := k3.get q2.q hne2
  have m3 := q2.map.kb k3 hne3
  refine ⟨_, _, _, rfl, ?_⟩
  refine onPtr_some ?_
  refine stK_blk q3 (by simp) rfl fun h4 hb4 k4 s4 => ?_
  have hqa' : qb ∉ ownB a' := fun hq => by
    rcases own3 with ⟨rfl, -⟩ | ⟨b, l, rfl, g1, g2, -⟩
    · simp [ownB] at hq
    · simp [ownB] at hq; subst hq; rw [q3] at g2; cases g2
  have hb4' : h4[qb]? = some (.cells #[.slice a' (xs ++ [t]).length c', .map (some mb), .int .i64 most, .int .i64 next] 65 (0, 0)) := by simpa using hb4
  have q4 : QB B h4 qb mb a' c' (xs ++ [t]) m most next :=
    ⟨hb4', own3.kb k4 fun b o e => by subst e; intro hm; exact hqa' (by simp at hm; simp [ownB, hm]), m3.kb k4 (by simpa using Ne.symm hne1), q.hq, q.hm⟩
  have hxl : (xs ++ [t]).length = xs.length + 1 := by simp
  refine ⟨_, _, _, by rw [hcell_of hb4']; rfl, ?_⟩
  have hw : IntKind.wrap .i64 (((xs ++ [t]).length : Nat) - 1 : Int) = (xs.length : Nat) := by rw [hxl, w64 (by omega) (by omega)]; omega
  rw [hw]
  have hlast : (xs ++ [t])[xs.length]? = some t := by simp
  have hnone : ∀ j, xs.length < j → (xs ++ [t])[j]? = none := fun j hj => List.getElem?_eq_none (by rw [hxl]; omega)
  have hold : ∀ j, j < xs.length → (xs ++ [t])[j]? = xs[j]? := fun j hj => List.getElem?_append_left hj
  have hpn : ∀ j, 0 < j → par j = xs.length → (xs ++ [t])[j]? = none := fun j hj hpj => hnone j (by have := par_lt hj; omega)
  have hE : HE (xs ++ [t]) xs.length := ⟨fun i hi0 hin hpi x y hx hy => by
      have hil : i < xs.length := by
        have := (List.getElem?_eq_some_iff.1 hy).1; rw [hxl] at this; omega
      have := par_lt hi0
      rw [hold _ (by omega)] at hx hy
      exact hH i hi0 x y hx hy, fun j hj hpj hk x y hx hy => by rw [hpn j hj hpj] at hy; cases hy⟩
  have hD : DownOK (xs ++ [t]) xs.length := fun j hj hpj x y hx hy => by rw [hpn j hj hpj] at hy; cases hy
  have hids : Ids (xs ++ [t]) := by
    show ((xs ++ [t]).map (·.2.1)).Nodup
    rw [List.map_append, List.nodup_append]
    refine ⟨ids_perm hp hi, by simp, fun u hu w hw' => ?_⟩
    simp at hw'; subst hw'
    obtain ⟨x, hx, rfl⟩ := List.mem_map.1 hu
    exact ht x (hp.mem_iff.1 hx)
  have hMx : MEx m (xs ++ [t]) xs.length := ⟨fun i x hx hin => by
      have hil : i < xs.length := by
        have := (List.getElem?_eq_some_iff.1 hx).1; rw [hxl] at this; omega
      rw [hold _ hil] at hx
      exact hM.pos i x hx, fun p hpm => by obtain ⟨x, hx, he⟩ := hM.only p hpm; exact ⟨x, by simp [hx], he⟩⟩
  refine (up_spec q4 hlast (by rw [hxl]; omega) hids hE hMx).mono ?_
  rintro v h5 ⟨rfl, ys, m', k', q5, k5, hperm, hHE, hU, hkt, hMA, hdn⟩
  have hD5 : DownOK ys k' := by
    rcases hdn with ⟨rfl, rfl⟩ | h
    · exact hD
    · exact h
  have hmv' : Moved h a a' := fun x hx => by
    cases a' with
    | none => simp [ownB] at hx
    | some ad =>
      rcases own3 with ⟨e, -⟩ | ⟨b, l, e, -⟩
      · cases e
      · cases e
        simp [ownB] at hx; subst hx
        rcases hmv x 0 rfl with h | h
        · exact .inl h
        · exact .inr (by omega)
  refine ⟨rfl, rfl, a', ⟨c', ys, m', q5, hHE.heap hU hD5, hMA, hperm.trans ((List.perm_append_comm (l₁ := xs) (l₂ := [t])).trans (hp.cons t)), ids_perm ((hp.cons t).symm.trans (List.perm_append_comm (l₁ := [t]) (l₂ := xs))) hids⟩, ?_, hmv'⟩
  have t1 : KB (foot qb mb a ++ foot qb mb a') h h5 :=
    (((KB.of_keep (k1.trans k2)).trans (k3.mono fun x hx _ => by simp [foot, hx])).trans (k4.mono fun x hx _ => by simp at hx; subst hx; simp [foot])).trans (k5.mono fun x hx _ => List.mem_append_right _ hx)
  refine t1.mono fun x hx hl => ?_
  rcases List.mem_append.1 hx with hx | hx
  · exact hx
  · simp only [foot, List.mem_cons] at hx ⊢
    rcases hx with hx | hx | hx
    · exact .inl hx
    · exact .inr (.inl hx)
    · rcases hmv' x hx with h | h
      · exact .inr (.inr h)
      · omega

theorem numbers_spec {B : Nat} {h : Heap} {qb mb : Nat} {a : Option Addr} {L : List Tm} {most next : Int} (s : Queue B h qb mb a L most next) (hB : B ≤ h.size) (at0 what : Int) (ht : ∀ x ∈ L, x.2.1 ≠ next) (hn : L.length ≤ 100000) (hx : 0 ≤ next ∧ next < 9000000000000000000) :
    Run Try.prog 44 [.pointer (some ⟨qb, 0, none⟩), .int .i64 at0, .int .i64 what] h
      fun v h' => v = .int .i64 next ∧ ∃ a', Queue B h' qb mb a' ((at0, next, what) :: L) most (next + 1) ∧ KB (foot qb mb a) h h' ∧ Moved h a a' := by
  obtain ⟨c, xs, m, q, hH, hM, hp, hi⟩ := s
  refine V44 _ _ _ _ _ ?_
  unfold VC44
  refine ⟨_, by rw [hcell_of q.q]; rfl, _, by rw [hcell_of q.q]; rfl, ?_⟩
  rw [w64 (by omega) (by omega)]
  refine onPtr_some ?_
  refine stK_blk q.q (by simp) rfl fun h1 hb1 k1 s1 => ?_
  have hb1' : h1[qb]? = some (.cells #[.slice a xs.length c, .map (some mb), .int .i64 most, .int .i64 (next + 1)] 65 (0, 0)) := by simpa using hb1
  obtain ⟨hne1, hne2, hne3⟩ := q.ne
  have q1 : Queue B h1 qb mb a L most (next + 1) := ⟨c, xs, m, ⟨hb1', q.row.kb k1 fun b o e => by subst e; intro hm; exact hne2 (by simp at hm; simp [ownB, hm]), q.map.kb k1 (by simpa using Ne.symm hne1), q.hq, q.hm⟩, hH, hM, hp, hi⟩
  refine (push_spec (t := (at0, next, what)) q1 (by omega) ht hn).mono ?_
  rintro v h2 ⟨rfl, a', q2, k2, hmv⟩
  refine ⟨rfl, rfl, a', q2, (k1.mono fun x hx _ => by simp at hx; subst hx; simp [foot]).trans k2, fun x hx => ?_⟩
  rcases hmv x hx with h | h
  · exact .inl h
  · exact .inr (by omega)
theorem insert_spec {B : Nat} {h : Heap} {qb mb : Nat} {a : Option Addr} {L : List Tm} {most next : Int} (s : Queue B h qb mb a L most next) (hB : B ≤ h.size) (at0 what : Int) (ht : ∀ x ∈ L, x.2.1 ≠ next) (hn : L.length ≤ 100000) (hx : 0 ≤ next ∧ next < 9000000000000000000) :
    Run Try.prog 12 [.pointer (some ⟨qb, 0, none⟩), .int .i64 at0, .int .i64 what] h
      fun v h' => ∃ (n e : Int) (a' : Option Addr) (L' : List Tm) (next' : Int), v = .tuple #[.int .i64 n, .int .i64 e] ∧ Queue B h' qb mb a' L' most next' ∧ KB (foot qb mb a) h h' ∧ Moved h a a' ∧
        if at0 < 0 then n = 0 ∧ e = 1 ∧ L' = L ∧ next' = next else if (L.length : Int) ≥ most ∨ next = 1099511627776 then n = 0 ∧ e = 4 ∧ L' = L ∧ next' = next else n = next ∧ e = 0 ∧ L' = (at0, next, what) :: L ∧ next' = next + 1 := by
  have s' := s
  obtain ⟨c, xs, m, q, hH, hM, hp, hi⟩ := s
  have hln : xs.length = L.length := hp.length_eq
  refine V12 _ _ _ _ _ ?_
  unfold VC12
  refine (given_spec q).mono ?_
  rintro v h1 ⟨rfl, rfl⟩
  refine ⟨_, rfl, cNot (cB (fun _ => ?_) fun h => nomatch h)⟩
  have hmv : Moved h1 a a := fun x hx => .inl hx
  refine cIf (fun h0 => ⟨0, 1, a, L, next, rfl, s', .refl _ _, hmv, by rw [if_pos h0]; exact ⟨rfl, rfl, rfl, rfl⟩⟩) fun h0 => ?_
  refine ⟨_, _, _, by rw [hcell_of q.q]; rfl, _, by rw [hcell_of q.q]; rfl, ?_⟩
  refine cIf (fun hf => ⟨0, 4, a, L, next, rfl, s', .refl _ _, hmv, by rw [if_neg h0, if_pos (.inl (by omega))]; exact ⟨rfl, rfl, rfl, rfl⟩⟩) fun hf => ?_
  refine ⟨_, by rw [hcell_of q.q]; rfl, ?_⟩
  refine cEq (fun hf2 => ⟨0, 4, a, L, next, rfl, s', .refl _ _, hmv, by rw [if_neg h0, if_pos (.inr hf2)]; exact ⟨rfl, rfl, rfl, rfl⟩⟩) fun hf2 => ?_
  refine (numbers_spec s' hB at0 what ht hn hx).mono ?_
  rintro v h2 ⟨rfl, a', q2, k2, hmv2⟩
  exact ⟨_, rfl, next, 0, a', _, _, rfl, q2, k2, hmv2, by rw [if_neg h0, if_neg (by omega)]; exact ⟨rfl, rfl, rfl, rfl⟩⟩
theorem len_spec {B : Nat} {h : Heap} {qb mb : Nat} {a : Option Addr} {L : List Tm} {most next : Int} (s : Queue B h qb mb a L most next) : Run Try.prog 14 [.pointer (some ⟨qb, 0, none⟩)] h fun v h' => v = .int .i64 (L.length : Nat) ∧ h' = h := by
  obtain ⟨c, xs, m, q, hH, hM, hp, hi⟩ := s
  refine V14 _ _ _ ?_
  unfold VC14
  refine (given_spec q).mono ?_
  rintro v h1 ⟨rfl, rfl⟩
  refine ⟨_, rfl, cNot (cB (fun _ => ?_) fun h => nomatch h)⟩
  exact ⟨_, _, _, by rw [hcell_of q.q]; rfl, by rw [hp.length_eq], rfl⟩
theorem next_spec7 {B : Nat} {h : Heap} {qb mb : Nat} {a : Option Addr} {L : List Tm} {most next : Int} (s : Queue B h qb mb a L most next) : Run Try.prog 42 [.pointer (some ⟨qb, 0, none⟩)] h fun v h' => v = .int .i64 next ∧ h' = h := by
  obtain ⟨c, xs, m, q, hH, hM, hp, hi⟩ := s
  refine V42 _ _ _ ?_
  unfold VC42
  refine (given_spec q).mono ?_
  rintro v h1 ⟨rfl, rfl⟩
  refine ⟨_, rfl, cNot (cB (fun _ => ?_) fun h => nomatch h)⟩
  exact ⟨_, by rw [hcell_of q.q]; rfl, rfl, rfl⟩
end Go.Proofs.Ytjcjlhpabjjflaa
