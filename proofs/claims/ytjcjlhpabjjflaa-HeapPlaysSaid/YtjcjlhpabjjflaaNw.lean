/- Layer 07: Same, Load, Get; the laws HeapPlays and HeapLoads over the heap. -/
import Derived.Test.YtjcjlhpabjjflaaNv
import Derived.Test.YtjcjlhpabjjflaaNs
set_option linter.unusedVariables false
namespace Go.Proofs.Ytjcjlhpabjjflaa
open Go Go.Proofs
attribute [local irreducible] appK copyK delK updK lookK makeK rangeK nextM entryM mapEntryK entryStK lenMapK YRun
variable {D D' : Fz} {C : List Chunk} {h h' : Heap}

theorem tSame_spec {a b : Option Addr} {n c n' c' : Nat} {x y : List Tm} (S : St D C h) (s : Rd D (.slice a n c) (.l (x.map eT))) (t : Rd D (.slice b n' c') (.l (y.map eT))) (hn : n ≤ 100000) :
    Run Try.prog 56 [.slice a n c, .slice b n' c'] h fun v h' => v = .bool (decide (x = y)) ∧ h' = h := by
  have hx : n = x.length := by simpa using s.len.1
  have hy : n' = y.length := by simpa using t.len.1
  refine V56 _ _ _ _ _ _ _ _ ?_
  unfold VC56
  refine cNe (fun hne => ⟨?_, rfl⟩) fun he => ?_
  · rw [decide_eq_false]; rintro rfl; omega
  have hnn : n' = n := by omega
  have hfull : ∀ i : Nat, n ≤ i → i ≤ n → x.take i = y.take i → x = y := fun i h1 h2 h3 => by
    rwa [List.take_of_length_le (by omega), List.take_of_length_le (by omega)] at h3
  refine ⟨fun z h1 => h1 = h ∧ ∃ i : Nat, z = i ∧ i ≤ n ∧ x.take i = y.take i, fun z _ => n - z.toNat, ⟨rfl, 0, rfl, by omega, rfl⟩, ?_⟩
  rintro - h1 z ⟨rfl, i, rfl, hi, ht⟩
  refine cIf (fun h1 => ?_) (fun h1 => ⟨by rw [decide_eq_true (hfull i (by omega) hi ht)], rfl⟩)
  refine cIf (fun h2 => ?_) (fun h2 => by omega)
  have hix : i < x.length := by omega
  have hiy : i < y.length := by omega
  refine el_T s S rfl (List.getElem?_eq_getElem hix) fun b o c0 c1 c2 => ⟨by omega, by omega, _, c0, _, c1, _, c2, ?_⟩
  refine el_T t S rfl (List.getElem?_eq_getElem hiy) fun b o d0 d1 d2 => ⟨by omega, by omega, _, d0, _, d1, _, d2, ?_⟩
  rw [w64n (by omega)]
  have hbeq : (x[i].1 == y[i].1 && (x[i].2.1 == y[i].2.1 && (x[i].2.2 == y[i].2.2 && true))) = decide (x[i] = y[i]) := by
    rw [Bool.and_true]
    have : (x[i] = y[i]) ↔ x[i].1 = y[i].1 ∧ x[i].2.1 = y[i].2.1 ∧ x[i].2.2 = y[i].2.2 := ⟨fun h => by rw [h]; exact ⟨rfl, rfl, rfl⟩, fun ⟨h1, h2, h3⟩ => Prod.ext h1 (Prod.ext h2 h3)⟩
    rw [Bool.eq_iff_iff]
    simp only [Bool.and_eq_true, beq_iff_eq, decide_eq_true_eq]
    exact this.symm
  rw [hbeq]
  refine cNot (cIf (fun he => ?_) fun hne => ⟨?_, rfl⟩)
  · refine ⟨⟨rfl, i + 1, rfl, by omega, ?_⟩, by simp only [Int.toNat_natCast]; omega⟩
    rw [List.take_add_one, List.take_add_one, ht, List.getElem?_eq_getElem hix, List.getElem?_eq_getElem hiy, he]
  · rw [decide_eq_false]; rintro rfl; exact hne rfl

/- ## Load -/
def loadT (next : Int) : List Tm → List Tm → Option (List Tm)
  | L, [] => some L
  | L, t :: l => if t.1 < 0 ∨ t.2.1 < 1 ∨ t.2.1 ≥ next ∨ (findT L t.2.1).isSome then none else loadT next (putT L t) l
def RQ.load (most : Int) (l : List Tm) (next : Int) : Option RQ :=
  if most < 1 ∨ most > 1024 ∨ (l.length : Int) > most ∨ next < 1 ∨ next > 1099511627776 then none else (loadT next [] l).map fun L => ⟨L, most, next⟩
theorem findT_isSome {L : List Tm} {id : Int} : (findT L id).isSome = true ↔ ∃ x ∈ L, x.2.1 = id := by
  unfold findT
  rw [List.findIdx?_isSome, List.any_eq_true]
  simp
structure LoadI (next : Int) (L : List Tm) : Prop where
  sort : L.Pairwise fun a b => aheadT a b = true
  low : ∀ t ∈ L, 0 ≤ t.1 ∧ 1 ≤ t.2.1 ∧ t.2.1 < next
theorem LoadI.step {next : Int} {L : List Tm} {t : Tm} (k : LoadI next L) (h1 : ¬ t.1 < 0) (h2 : ¬ t.2.1 < 1) (h3 : ¬ t.2.1 ≥ next) (h4 : ¬ (findT L t.2.1).isSome = true) : LoadI next (putT L t) where
  sort := putT_sort k.sort fun x hx e => h4 (findT_isSome.2 ⟨x, hx, e⟩)
  low u hu := by
    rcases List.mem_cons.1 ((putT_perm _ _).mem_iff.1 hu) with rfl | hu
    · omega
    · exact k.low u hu
theorem idx_nn {L : List Tm} {id : Int} : idxT (findT L id) ≥ 0 ↔ (findT L id).isSome = true := by
  cases hf : findT L id with
  | none => simp [idxT]
  | some k => simp [idxT]
def LoadR (q? : Option RQ) (P : Nat → RQ → Fz → Chunk → Prop) (D : Fz) (C : List Chunk) (v : Value) (h' : Heap) : Prop :=
  match q? with
  | none => v = .tuple #[.pointer none, .int .i64 1] ∧ ∃ D', Le D D' ∧ St D' C h'
  | some x => ∃ q ch D', v = .tuple #[.pointer (some ⟨q, 0, none⟩), .int .i64 0] ∧ Le D D' ∧ P q x D' ch ∧ St D' (ch :: C) h'
theorem drop_cons {l : List Tm} {i : Nat} (h : i < l.length) : l.drop i = l[i] :: l.drop (i + 1) := List.drop_eq_getElem_cons h
theorem rLoad_spec (S : St D C h) {a : Option Addr} {n c : Nat} {l : List Tm} (hx : Rd D (.slice a n c) (.l (l.map eT))) (most next : Int) :
    Run Try.prog 36 [.int .i64 most, .slice a n c, .int .i64 next] h (LoadR (RQ.load most l next) (fun q x D' ch => IsR D' q x ch) D C) := by
  have hn : n = l.length := by simpa using hx.len.1
  refine V36 _ _ _ _ _ _ _ ?_
  unfold VC36 RQ.load
  have bad : ∀ {h' : Heap} {D' : Fz} {C' : List Chunk}, Le D D' → St D' (C' ++ C) h' → LoadR none (fun q x D' ch => IsR D' q x ch) D C (.tuple #[.pointer none, .int .i64 1]) h' := fun {h' D' C'} l S => by
    refine ⟨rfl, D', l, ?_⟩
    induction C' with
    | nil => exact S
    | cons c C' ih => exact ih S.drop
  refine cIf (fun h1 => by rw [if_pos (.inl h1)]; exact bad (C' := []) (.refl _) S) fun h1 => ?_
  refine cIf (fun h2 => by rw [if_pos (.inr (.inl h2))]; exact bad (C' := []) (.refl _) S) fun h2 => ?_
  refine cIf (fun h3 => by rw [if_pos (.inr (.inr (.inl (by omega))))]; exact bad (C' := []) (.refl _) S) fun h3 => ?_
  refine cIf (fun h4 => by rw [if_pos (.inr (.inr (.inr (.inl h4))))]; exact bad (C' := []) (.refl _) S) fun h4 => ?_
  refine cIf (fun h5 => by rw [if_pos (.inr (.inr (.inr (.inr h5))))]; exact bad (C' := []) (.refl _) S) fun h5 => ?_
  rw [if_neg (by omega)]
  refine S.new fun q h1 S => ?_
  refine ⟨fun z h' => ∃ (i : Nat) (L : List Tm) (D' : Fz) (a' : Option Addr) (c' : Nat), z = i ∧ i ≤ n ∧ Le D D' ∧ L.length = i ∧ loadT next [] l = loadT next L (l.drop i) ∧ Rd D' (.slice a' L.length c') (.l (L.map eT)) ∧ St D' (rqB q a' L.length c' most next :: C) h',
    fun z _ => n - z.toNat, ⟨0, [], D, none, 0, rfl, by omega, .refl D, rfl, rfl, .nil _ _, S⟩, ?_⟩
  clear S
  rintro - h2 z ⟨i, L, D1, a1, c1, rfl, hi, l1, hL, he, hx1, S⟩
  have hx' := hx.mono l1
  refine cIf (fun hlt => ?_) fun hge => ?_
  · have hil : i < l.length := by omega
    rw [drop_cons hil] at he
    have el : ∀ {K : Nat → Nat → Prop} {h2 : Heap} {C' : List Chunk}, St D1 C' h2 → (∀ b o, hcell h2 ⟨b, o + Int.toNat (i : Int) * 3, none⟩ = some (.int .i64 l[i].1) → hcell h2 ⟨b, o + Int.toNat (i : Int) * 3 + 1, none⟩ = some (.int .i64 l[i].2.1) → hcell h2 ⟨b, o + Int.toNat (i : Int) * 3 + 2, none⟩ = some (.int .i64 l[i].2.2) → K b o) → onPtr a K := fun S hK =>
      el_T hx' S rfl (List.getElem?_eq_getElem hil) hK
    refine el S fun b o c0 c1 c2 => ⟨by omega, by omega, _, c0, ?_⟩
    refine cIf (fun hb => ?_) fun hb1 => ?_
    · rw [he]; unfold loadT; rw [if_pos (.inl hb)]; exact bad (C' := [_]) l1 S
    refine el S fun b o c0 c1 c2 => ⟨by omega, by omega, _, c1, ?_⟩
    refine cIf (fun hb => ?_) fun hb2 => ?_
    · rw [he]; unfold loadT; rw [if_pos (.inr (.inl hb))]; exact bad (C' := [_]) l1 S
    refine el S fun b o c0 c1 c2 => ⟨by omega, by omega, _, c1, ?_⟩
    refine cIf (fun hb => ?_) fun hb3 => ?_
    · rw [he]; unfold loadT; rw [if_pos (.inr (.inr (.inl hb)))]; exact bad (C' := [_]) l1 S
    refine el S fun b o c0 c1 c2 => ⟨by omega, by omega, _, c1, ?_⟩
    refine (find_spec S hx1 (by omega) _).mono ?_
    rintro v h3 ⟨rfl, rfl⟩
    refine ⟨_, rfl, cIf (fun hb => ?_) fun hb4 => ?_⟩
    · rw [he]; unfold loadT; rw [if_pos (.inr (.inr (.inr (idx_nn.1 hb))))]; exact bad (C' := [_]) l1 S
    rw [idx_nn] at hb4
    refine el S fun b o c0 c1 c2 => ⟨by omega, by omega, _, c0, _, c1, _, c2, ?_⟩
    refine (put_spec S hx1 (by omega) l[i]).mono ?_
    rintro v h4 ⟨rfl, D2, a2, c2, l2, S, hx2⟩
    rw [w64n (by omega)]
    refine ⟨rfl, ⟨i + 1, putT L l[i], D2, a2, c2, rfl, by omega, l1.trans l2, by rw [putT_len, hL], ?_, hx2, S⟩, by simp only [Int.toNat_natCast]; omega⟩
    rw [he]
    conv => lhs; unfold loadT
    rw [if_neg (by rintro (h | h | h | h); exact hb1 h; exact hb2 h; exact hb3 h; exact hb4 h)]
  · have hin : i = l.length := by omega
    subst hin
    rw [List.drop_length] at he
    rw [he]
    exact ⟨q, _, D1, rfl, l1, ⟨a1, c1, rfl, hx1, by show L.length ≤ 5000; omega⟩, S⟩
theorem rNew_spec (S : St D C h) (most : Int) : Run Try.prog 32 [.int .i64 most] h (LoadR (RQ.load most [] 1) (fun q x D' ch => IsR D' q x ch) D C) := by
  refine V32 _ _ _ ?_
  unfold VC32
  refine (rLoad_spec S (l := []) (a := none) (c := 0) (.nil _ _) most 1).mono ?_
  intro v h' hR
  unfold LoadR at hR
  split at hR
  · obtain ⟨rfl, hR⟩ := hR; exact ⟨_, _, rfl, by unfold LoadR; rename_i e; rw [e]; exact ⟨rfl, hR⟩⟩
  · obtain ⟨q, ch, D', rfl, hR⟩ := hR; exact ⟨_, _, rfl, by unfold LoadR; rename_i e; rw [e]; exact ⟨q, ch, D', rfl, hR⟩⟩
theorem pLoad_spec (S : St D C h) {a : Option Addr} {n c : Nat} {l : List Tm} (hx : Rd D (.slice a n c) (.l (l.map eT))) (most next : Int) :
    Run Try.prog 35 [.int .i64 most, .slice a n c, .int .i64 next] h (LoadR (RQ.load most l next) (fun q x D' ch => IsQ q x.L x.most x.next ch) D C) := by
  have hn : n = l.length := by simpa using hx.len.1
  refine V35 _ _ _ _ _ _ _ ?_
  unfold VC35 RQ.load
  have bad : ∀ {h' : Heap} {C' : List Chunk}, St D (C' ++ C) h' → LoadR none (fun q x D' ch => IsQ q x.L x.most x.next ch) D C (.tuple #[.pointer none, .int .i64 1]) h' := fun {h' C'} S => by
    refine ⟨rfl, D, .refl D, ?_⟩
    induction C' with
    | nil => exact S
    | cons c C' ih => exact ih S.drop
  refine cIf (fun h1 => by rw [if_pos (.inl h1)]; exact bad (C' := []) S) fun h1 => ?_
  refine cIf (fun h2 => by rw [if_pos (.inr (.inl h2))]; exact bad (C' := []) S) fun h2 => ?_
  refine cIf (fun h3 => by rw [if_pos (.inr (.inr (.inl (by omega))))]; exact bad (C' := []) S) fun h3 => ?_
  refine cIf (fun h4 => by rw [if_pos (.inr (.inr (.inr (.inl h4))))]; exact bad (C' := []) S) fun h4 => ?_
  refine cIf (fun h5 => by rw [if_pos (.inr (.inr (.inr (.inr h5))))]; exact bad (C' := []) S) fun h5 => ?_
  rw [if_neg (by omega)]
  refine S.new fun mb h1 S => S.new fun q h2 S => ?_
  have hq0 : IsQ q [] most next ([(q, .cells #[.slice none 0 0, .map (some mb), .int .i64 most, .int .i64 next] 65 (0, 0))] ++ [(mb, .map #[] 0)]) := by
    refine ⟨mb, none, rfl, fun h hh => ⟨0, [], [], ⟨hh (q, _) List.mem_cons_self, .nil _ _ _ _, .made (hh (mb, .map #[] 0) (by simp)), Nat.zero_le _, Nat.zero_le _⟩, fun i _ x y hx => by simp at hx, ⟨fun i x hx => by simp at hx, by simp⟩, .refl _, .nil⟩⟩
  refine ⟨fun z h' => ∃ (i : Nat) (L : List Tm) (ch : Chunk), z = i ∧ i ≤ n ∧ L.length = i ∧ loadT next [] l = loadT next L (l.drop i) ∧ IsQ q L most next ch ∧ St D (ch :: C) h',
    fun z _ => n - z.toNat, ⟨0, [], _, rfl, by omega, rfl, rfl, hq0, S.join⟩, ?_⟩
  clear S
  rintro - h2 z ⟨i, L, ch, rfl, hi, hL, he, r, S⟩
  refine cIf (fun hlt => ?_) fun hge => ?_
  · have hil : i < l.length := by omega
    rw [drop_cons hil] at he
    refine el_T hx S rfl (List.getElem?_eq_getElem hil) fun b o c0 c1 c2 => ⟨by omega, by omega, _, c0, _, c1, _, c2, ?_⟩
    refine S.new fun m5 h3 S => ?_
    (first | refine S.st0 (by rfl) (by rfl) fun hh S => ?_ | refine S.sk0 (by rfl) (by rfl) fun hh S => ?_ | refine S.st1 (by rfl) (by rfl) fun hh S => ?_ | refine S.sk1 (by rfl) (by rfl) fun hh S => ?_ | refine S.st2 (by rfl) (by rfl) fun hh S => ?_ | refine S.sk2 (by rfl) (by rfl) fun hh S => ?_ | refine S.st3 (by rfl) (by rfl) fun hh S => ?_ | refine S.sk3 (by rfl) (by rfl) fun hh S => ?_)
    obtain ⟨mb', a', e, Q⟩ := r.open S.swap
    obtain ⟨c', xs, m, qb, hH, hM, hp, hid⟩ := Q
    refine ⟨_, by rw [hcell_of qb.q]; rfl, ?_⟩
    (repeat (first | refine ⟨_, by assumption, ?_⟩ | refine ⟨_, S.ld0.trans rfl, ?_⟩ | refine ⟨_, _, _, S.ld0.trans rfl, ?_⟩ | refine ⟨_, S.ld1.trans rfl, ?_⟩ | refine ⟨_, _, _, S.ld1.trans rfl, ?_⟩ | refine ⟨_, S.ld2.trans rfl, ?_⟩ | refine ⟨_, _, _, S.ld2.trans rfl, ?_⟩ | refine ⟨_, S.ld3.trans rfl, ?_⟩ | refine ⟨_, _, _, S.ld3.trans rfl, ?_⟩ | refine ⟨_, S.ld4.trans rfl, ?_⟩ | refine ⟨_, _, _, S.ld4.trans rfl, ?_⟩ | refine ⟨_, S.ld5.trans rfl, ?_⟩ | refine ⟨_, _, _, S.ld5.trans rfl, ?_⟩))
    refine lookM2 qb.map fun hnd => ⟨_, _, rfl, ?_⟩
    have hiff : l[i].2.1 ∈ m.map (·.1) ↔ (findT L l[i].2.1).isSome = true := by
      rw [findT_isSome]
      constructor
      · intro hm
        obtain ⟨p, hpm, he'⟩ := List.mem_map.1 hm
        obtain ⟨x, hx', hxe⟩ := hM.only p hpm
        exact ⟨x, hp.mem_iff.1 hx', hxe.trans he'⟩
      · rintro ⟨x, hx', hxe⟩
        obtain ⟨j, hj⟩ := List.mem_iff_getElem?.1 (hp.mem_iff.2 hx')
        exact List.mem_map.2 ⟨_, hM.pos j x hj, hxe⟩
    (repeat (first | refine ⟨_, by assumption, ?_⟩ | refine ⟨_, S.ld0.trans rfl, ?_⟩ | refine ⟨_, _, _, S.ld0.trans rfl, ?_⟩ | refine ⟨_, S.ld1.trans rfl, ?_⟩ | refine ⟨_, _, _, S.ld1.trans rfl, ?_⟩ | refine ⟨_, S.ld2.trans rfl, ?_⟩ | refine ⟨_, _, _, S.ld2.trans rfl, ?_⟩ | refine ⟨_, S.ld3.trans rfl, ?_⟩ | refine ⟨_, _, _, S.ld3.trans rfl, ?_⟩ | refine ⟨_, S.ld4.trans rfl, ?_⟩ | refine ⟨_, _, _, S.ld4.trans rfl, ?_⟩ | refine ⟨_, S.ld5.trans rfl, ?_⟩ | refine ⟨_, _, _, S.ld5.trans rfl, ?_⟩))
    refine cIf (fun hb => ?_) fun hb1 => ?_
    · rw [he]; unfold loadT; rw [if_pos (.inl hb)]; exact bad (C' := [_, _]) S
    (repeat (first | refine ⟨_, by assumption, ?_⟩ | refine ⟨_, S.ld0.trans rfl, ?_⟩ | refine ⟨_, _, _, S.ld0.trans rfl, ?_⟩ | refine ⟨_, S.ld1.trans rfl, ?_⟩ | refine ⟨_, _, _, S.ld1.trans rfl, ?_⟩ | refine ⟨_, S.ld2.trans rfl, ?_⟩ | refine ⟨_, _, _, S.ld2.trans rfl, ?_⟩ | refine ⟨_, S.ld3.trans rfl, ?_⟩ | refine ⟨_, _, _, S.ld3.trans rfl, ?_⟩ | refine ⟨_, S.ld4.trans rfl, ?_⟩ | refine ⟨_, _, _, S.ld4.trans rfl, ?_⟩ | refine ⟨_, S.ld5.trans rfl, ?_⟩ | refine ⟨_, _, _, S.ld5.trans rfl, ?_⟩))
    refine cIf (fun hb => ?_) fun hb2 => ?_
    · rw [he]; unfold loadT; rw [if_pos (.inr (.inl hb))]; exact bad (C' := [_, _]) S
    (repeat (first | refine ⟨_, by assumption, ?_⟩ | refine ⟨_, S.ld0.trans rfl, ?_⟩ | refine ⟨_, _, _, S.ld0.trans rfl, ?_⟩ | refine ⟨_, S.ld1.trans rfl, ?_⟩ | refine ⟨_, _, _, S.ld1.trans rfl, ?_⟩ | refine ⟨_, S.ld2.trans rfl, ?_⟩ | refine ⟨_, _, _, S.ld2.trans rfl, ?_⟩ | refine ⟨_, S.ld3.trans rfl, ?_⟩ | refine ⟨_, _, _, S.ld3.trans rfl, ?_⟩ | refine ⟨_, S.ld4.trans rfl, ?_⟩ | refine ⟨_, _, _, S.ld4.trans rfl, ?_⟩ | refine ⟨_, S.ld5.trans rfl, ?_⟩ | refine ⟨_, _, _, S.ld5.trans rfl, ?_⟩))
    refine cIf (fun hb => ?_) fun hb3 => ?_
    · rw [he]; unfold loadT; rw [if_pos (.inr (.inr (.inl hb)))]; exact bad (C' := [_, _]) S
    refine cIf (fun hb => ?_) fun hb4 => ?_
    · rw [he]; unfold loadT; rw [if_pos (.inr (.inr (.inr (hiff.1 hb))))]; exact bad (C' := [_, _]) S
    rw [hiff] at hb4
    (repeat (first | refine ⟨_, by assumption, ?_⟩ | refine ⟨_, S.ld0.trans rfl, ?_⟩ | refine ⟨_, _, _, S.ld0.trans rfl, ?_⟩ | refine ⟨_, S.ld1.trans rfl, ?_⟩ | refine ⟨_, _, _, S.ld1.trans rfl, ?_⟩ | refine ⟨_, S.ld2.trans rfl, ?_⟩ | refine ⟨_, _, _, S.ld2.trans rfl, ?_⟩ | refine ⟨_, S.ld3.trans rfl, ?_⟩ | refine ⟨_, _, _, S.ld3.trans rfl, ?_⟩ | refine ⟨_, S.ld4.trans rfl, ?_⟩ | refine ⟨_, _, _, S.ld4.trans rfl, ?_⟩ | refine ⟨_, S.ld5.trans rfl, ?_⟩ | refine ⟨_, _, _, S.ld5.trans rfl, ?_⟩))
    have S := S.swap
    refine (push_spec (B := 0) (t := l[i]) ⟨c', xs, m, qb, hH, hM, hp, hid⟩ (Nat.zero_le _) (fun x hx' e => hb4 (findT_isSome.2 ⟨x, hx', e⟩)) (by omega)).mono ?_
    rintro v h6 ⟨rfl, a2, Q2, kb, mv⟩
    obtain ⟨ch2, r2, S2⟩ := IsQ.close S e Q2 kb mv
    rw [w64n (by omega)]
    refine ⟨rfl, ⟨i + 1, putT L l[i], ch2, rfl, by omega, by rw [putT_len, hL], ?_, r2.perm (putT_perm _ _).symm, S2.swap.drop⟩, by simp only [Int.toNat_natCast]; omega⟩
    rw [he]
    conv => lhs; unfold loadT
    rw [if_neg (by rintro (h | h | h | h); exact hb1 h; exact hb2 h; exact hb3 h; exact hb4 h)]
  · have hin : i = l.length := by omega
    subst hin
    rw [List.drop_length] at he
    rw [he]
    exact ⟨q, ch, D, rfl, .refl D, r, S⟩
theorem loadT_ok {next : Int} : ∀ {l L M : List Tm}, loadT next L l = some M → LoadI next L → LoadI next M ∧ M.length = L.length + l.length
  | [], L, M, h, k => by cases h; exact ⟨k, by simp⟩
  | t :: l, L, M, h, k => by
    unfold loadT at h
    split at h
    · cases h
    · rename_i hc
      obtain ⟨h1, h2⟩ := loadT_ok h (k.step (fun e => hc (.inl e)) (fun e => hc (.inr (.inl e))) (fun e => hc (.inr (.inr (.inl e)))) (fun e => hc (.inr (.inr (.inr e)))))
      exact ⟨h1, by rw [h2, putT_len, List.length_cons]; omega⟩
theorem load_ok {most next : Int} {l : List Tm} {x : RQ} (h : RQ.load most l next = some x) : x.Ok := by
  unfold RQ.load at h
  split at h
  · cases h
  · rename_i hc
    simp only [Option.map_eq_some_iff] at h
    obtain ⟨L, hL, rfl⟩ := h
    obtain ⟨k, hl⟩ := loadT_ok hL ⟨.nil, by simp⟩
    exact ⟨k.sort, k.low, by show 1 ≤ next ∧ next ≤ 1099511627776; omega, by show most ≤ 1024; omega, by show ((L.length : Nat) : Int) ≤ most; simp at hl; omega⟩
theorem pNew2_spec (S : St D C h) (most : Int) : Run Try.prog 11 [.int .i64 most] h (LoadR (RQ.load most [] 1) (fun q x D' ch => IsQ q x.L x.most x.next ch) D C) := by
  refine V11 _ _ _ ?_
  unfold VC11
  refine (pLoad_spec S (l := []) (a := none) (c := 0) (.nil _ _) most 1).mono ?_
  intro v h' hR
  unfold LoadR at hR
  split at hR
  · obtain ⟨rfl, hR⟩ := hR; exact ⟨_, _, rfl, by unfold LoadR; rename_i e; rw [e]; exact ⟨rfl, hR⟩⟩
  · obtain ⟨q, ch, D', rfl, hR⟩ := hR; exact ⟨_, _, rfl, by unfold LoadR; rename_i e; rw [e]; exact ⟨q, ch, D', rfl, hR⟩⟩

/- ## Get -/
theorem pGet_spec {q : Nat} {x : RQ} {ch : Chunk} (r : IsQ q x.L x.most x.next ch) (S : St D (ch :: C) h) (id : Int) :
    Run Try.prog 39 [.pointer (some ⟨q, 0, none⟩), .int .i64 id] h fun v h' => v = .tuple #[vT (x.get id).1, .bool (x.get id).2] ∧ St D (ch :: C) h' := by
  refine V39 _ _ _ _ ?_
  unfold VC39
  refine S.new fun m1 h1 S => ?_
  obtain ⟨mb, a, e, Q⟩ := r.open S.swap
  obtain ⟨c, xs, m, qb, hH, hM, hp, hid⟩ := Q
  have hidL : Ids x.L := hid
  refine (place_spec qb hM id).mono ?_
  rintro v h2 ⟨rfl, hc⟩
  unfold RQ.get
  rcases hc with ⟨k, t, rfl, hk, rfl⟩ | ⟨rfl, hno⟩
  · refine ⟨_, _, rfl, cNe (fun h => absurd rfl h) fun _ => ?_⟩
    refine ⟨_, _, _, by rw [hcell_of qb.q]; rfl, ?_⟩
    obtain ⟨b, rfl, -, g0, g1, g2⟩ := OwnT.get qb.row hk
    have hkl := (List.getElem?_eq_some_iff.1 hk).1
    refine ⟨by omega, by omega, _, g0, _, g1, _, g2, ?_⟩
    (repeat (first | refine onPtr_s ?_ | refine S.new fun bb hh S => ?_ | refine S.st0 (by rfl) (by rfl) fun hh S => ?_ | refine S.sk0 (by rfl) (by rfl) fun hh S => ?_ | refine S.st1 (by rfl) (by rfl) fun hh S => ?_ | refine S.sk1 (by rfl) (by rfl) fun hh S => ?_ | refine S.st2 (by rfl) (by rfl) fun hh S => ?_ | refine S.sk2 (by rfl) (by rfl) fun hh S => ?_ | refine S.st3 (by rfl) (by rfl) fun hh S => ?_ | refine S.sk3 (by rfl) (by rfl) fun hh S => ?_ | refine ⟨_, by assumption, ?_⟩ | refine ⟨_, S.ld0.trans rfl, ?_⟩ | refine ⟨_, _, _, S.ld0.trans rfl, ?_⟩ | refine ⟨_, S.ld1.trans rfl, ?_⟩ | refine ⟨_, _, _, S.ld1.trans rfl, ?_⟩ | refine ⟨_, S.ld2.trans rfl, ?_⟩ | refine ⟨_, _, _, S.ld2.trans rfl, ?_⟩ | refine ⟨_, S.ld3.trans rfl, ?_⟩ | refine ⟨_, _, _, S.ld3.trans rfl, ?_⟩ | refine ⟨_, S.ld4.trans rfl, ?_⟩ | refine ⟨_, _, _, S.ld4.trans rfl, ?_⟩ | refine ⟨_, S.ld5.trans rfl, ?_⟩ | refine ⟨_, _, _, S.ld5.trans rfl, ?_⟩))
    obtain ⟨i, hf, hi⟩ := find_of hidL (hp.mem_iff.1 (List.mem_of_getElem? hk))
    rw [hf]
    exact ⟨by simp [hi], S.drop⟩
  · refine ⟨_, _, rfl, cNe (fun _ => ?_) fun h => absurd h (by decide)⟩
    (repeat (first | refine onPtr_s ?_ | refine S.new fun bb hh S => ?_ | refine S.st0 (by rfl) (by rfl) fun hh S => ?_ | refine S.sk0 (by rfl) (by rfl) fun hh S => ?_ | refine S.st1 (by rfl) (by rfl) fun hh S => ?_ | refine S.sk1 (by rfl) (by rfl) fun hh S => ?_ | refine S.st2 (by rfl) (by rfl) fun hh S => ?_ | refine S.sk2 (by rfl) (by rfl) fun hh S => ?_ | refine S.st3 (by rfl) (by rfl) fun hh S => ?_ | refine S.sk3 (by rfl) (by rfl) fun hh S => ?_ | refine ⟨_, by assumption, ?_⟩ | refine ⟨_, S.ld0.trans rfl, ?_⟩ | refine ⟨_, _, _, S.ld0.trans rfl, ?_⟩ | refine ⟨_, S.ld1.trans rfl, ?_⟩ | refine ⟨_, _, _, S.ld1.trans rfl, ?_⟩ | refine ⟨_, S.ld2.trans rfl, ?_⟩ | refine ⟨_, _, _, S.ld2.trans rfl, ?_⟩ | refine ⟨_, S.ld3.trans rfl, ?_⟩ | refine ⟨_, _, _, S.ld3.trans rfl, ?_⟩ | refine ⟨_, S.ld4.trans rfl, ?_⟩ | refine ⟨_, _, _, S.ld4.trans rfl, ?_⟩ | refine ⟨_, S.ld5.trans rfl, ?_⟩ | refine ⟨_, _, _, S.ld5.trans rfl, ?_⟩))
    rw [find_not fun y hy => hno y (hp.mem_iff.2 hy)]
    exact ⟨rfl, S.drop⟩
end Go.Proofs.Ytjcjlhpabjjflaa
