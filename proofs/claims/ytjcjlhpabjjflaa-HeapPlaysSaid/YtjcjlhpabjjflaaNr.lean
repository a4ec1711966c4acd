/- Queues of layer 07 in the new logic: the program's operations, told by the plain queue of the reference. -/
import Derived.Test.YtjcjlhpabjjflaaPr
import Derived.Test.YtjcjlhpabjjflaaNq
set_option linter.unusedVariables false
namespace Go.Proofs.Ytjcjlhpabjjflaa
open Go Go.Proofs
attribute [local irreducible] appK copyK delK updK lookK makeK rangeK nextM entryM mapEntryK entryStK lenMapK
variable {D D' : Fz} {C : List Chunk} {h h' : Heap}

theorem QB.congr {B : Nat} {h h' : Heap} {qb mb : Nat} {a : Option Addr} {c : Nat} {xs : List Tm} {m : List Stk} {most next : Int} (s : QB B h qb mb a c xs m most next) (e : ∀ b ∈ foot qb mb a, h'[b]? = h[b]?) : QB B h' qb mb a c xs m most next where
  q := by rw [e qb (by simp [foot])]; exact s.q
  row := by
    rcases s.row with r | ⟨b, l, rfl, h1, h2, r⟩
    · exact .inl r
    · exact .inr ⟨b, l, rfl, h1, by rw [e b (by simp [foot, ownB])]; exact h2, r⟩
  map := by obtain ⟨es, clk, hb, r⟩ := s.map; exact ⟨es, clk, by rw [e mb (by simp [foot])]; exact hb, r⟩
  hq := s.hq
  hm := s.hm
theorem QB.low {B : Nat} {h : Heap} {qb mb : Nat} {a : Option Addr} {c : Nat} {xs : List Tm} {m : List Stk} {most next : Int} (s : QB B h qb mb a c xs m most next) : QB 0 h qb mb a c xs m most next where
  q := s.q
  row := by
    rcases s.row with r | ⟨b, l, rfl, h1, r⟩
    · exact .inl r
    · exact .inr ⟨b, l, rfl, Nat.zero_le _, r⟩
  map := s.map
  hq := Nat.zero_le _
  hm := Nat.zero_le _
theorem Queue.low {B : Nat} {h : Heap} {qb mb : Nat} {a : Option Addr} {L : List Tm} {most next : Int} (s : Queue B h qb mb a L most next) : Queue 0 h qb mb a L most next := let ⟨c, xs, m, q, r⟩ := s; ⟨c, xs, m, q.low, r⟩
theorem Queue.get {B : Nat} {h : Heap} {qb mb : Nat} {a : Option Addr} {L : List Tm} {most next : Int} (s : Queue B h qb mb a L most next) : ∀ b ∈ foot qb mb a, ∃ o, h[b]? = some o := by
  obtain ⟨c, xs, m, q, -⟩ := s
  intro b hb
  simp only [foot, List.mem_cons] at hb
  rcases hb with rfl | rfl | hb
  · exact ⟨_, q.q⟩
  · obtain ⟨es, clk, hb, -⟩ := q.map; exact ⟨_, hb⟩
  · rcases q.row with ⟨rfl, -⟩ | ⟨b', l, rfl, -, h2, -⟩
    · simp [ownB] at hb
    · simp [ownB] at hb; subst hb; exact ⟨_, h2⟩
theorem Queue.nodup {B : Nat} {h : Heap} {qb mb : Nat} {a : Option Addr} {L : List Tm} {most next : Int} (s : Queue B h qb mb a L most next) : (foot qb mb a).Nodup := by
  obtain ⟨c, xs, m, q, -⟩ := s
  obtain ⟨h1, h2, h3⟩ := q.ne
  cases a <;> simp [foot, ownB] at * <;> omega

/-- Blocks that hold a queue of the timers L (in some order), at q. -/
def IsQ (q : Nat) (L : List Tm) (most next : Int) (ch : Chunk) : Prop := ∃ mb a, ch.map (·.1) = foot q mb a ∧ ∀ h : Heap, (∀ p ∈ ch, h[p.1]? = some p.2) → Queue 0 h q mb a L most next
theorem IsQ.perm {q : Nat} {L M : List Tm} {most next : Int} {ch : Chunk} (s : IsQ q L most next ch) (p : L.Perm M) : IsQ q M most next ch := let ⟨mb, a, e, f⟩ := s; ⟨mb, a, e, fun h hh => (f h hh).perm p⟩
theorem IsQ.open {q : Nat} {L : List Tm} {most next : Int} {ch : Chunk} (s : IsQ q L most next ch) (S : St D (ch :: C) h) : ∃ mb a, ch.map (·.1) = foot q mb a ∧ Queue 0 h q mb a L most next :=
  let ⟨mb, a, e, f⟩ := s; ⟨mb, a, e, f h fun p hp => S.own p (by simp [hp])⟩
theorem IsQ.close {q : Nat} {mb : Nat} {a a' : Option Addr} {L : List Tm} {most next : Int} {ch : Chunk} (S : St D (ch :: C) h) (e : ch.map (·.1) = foot q mb a) (Q : Queue 0 h' q mb a' L most next) (k : KB (foot q mb a) h h') (mv : Moved h a a') :
    ∃ ch', IsQ q L most next ch' ∧ St D (ch' :: C) h' := by
  have hg := Q.get
  let ch' : Chunk := (foot q mb a').filterMap fun b => h'[b]?.map fun o => (b, o)
  have h1 : ∀ p ∈ ch', h'[p.1]? = some p.2 := by
    intro p hp
    obtain ⟨b, hb, he⟩ := List.mem_filterMap.1 hp
    obtain ⟨o, ho⟩ := hg b hb
    rw [ho] at he; cases he; exact ho
  have h2 : ch'.map (·.1) = foot q mb a' := by
    have : ∀ l : List Nat, (∀ b ∈ l, ∃ o, h'[b]? = some o) → (l.filterMap fun b => h'[b]?.map fun o => (b, o)).map (·.1) = l := by
      intro l
      induction l with
      | nil => intro _; rfl
      | cons b l ih =>
        intro hl
        obtain ⟨o, ho⟩ := hl b (by simp)
        rw [List.filterMap_cons, ho]
        simp only [Option.map_some, List.map_cons]
        rw [ih fun x hx => hl x (by simp [hx])]
    exact this _ hg
  refine ⟨ch', ⟨mb, a', h2, fun g hgg => ?_⟩, S.upd (by rw [e]; exact k) h1 (by rw [h2]; exact Q.nodup) fun p hp => ?_⟩
  · obtain ⟨c, xs, m, q', r⟩ := Q
    refine ⟨c, xs, m, q'.congr fun b hb => ?_, r⟩
    obtain ⟨o, ho⟩ := hg b hb
    have : (b, o) ∈ ch' := List.mem_filterMap.2 ⟨b, hb, by rw [ho]; rfl⟩
    rw [hgg _ this, ho]
  · have hp' : p.1 ∈ foot q mb a' := by rw [← h2]; exact List.mem_map.2 ⟨p, hp, rfl⟩
    rw [e]
    simp only [foot, List.mem_cons] at hp' ⊢
    rcases hp' with h | h | h
    · exact .inl (.inl h)
    · exact .inl (.inr (.inl h))
    · rcases mv _ h with h | h
      · exact .inl (.inr (.inr h))
      · exact .inr h

/- ## The plain law: what a queue is told to have -/
/-- Sorted, numbers once each and below the next one. -/
structure RQ.Ok (x : RQ) : Prop where
  sort : x.L.Pairwise fun a b => aheadT a b = true
  low : ∀ t ∈ x.L, 0 ≤ t.1 ∧ 1 ≤ t.2.1 ∧ t.2.1 < x.next
  next : 1 ≤ x.next ∧ x.next ≤ 1099511627776
  most : x.most ≤ 1024
  len : (x.L.length : Int) ≤ x.most
theorem aheadT_iff {a b : Tm} : aheadT a b = true ↔ a.1 < b.1 ∨ a.1 = b.1 ∧ a.2.1 < b.2.1 := by unfold aheadT; rw [decide_eq_true_iff]
theorem aheadT_trans {a b c : Tm} (h : aheadT a b = true) (k : aheadT b c = true) : aheadT a c = true := by rw [aheadT_iff] at *; omega
theorem RQ.Ok.ids {x : RQ} (k : x.Ok) : Ids x.L → True := fun _ => trivial
theorem putT_perm (L : List Tm) (t : Tm) : (putT L t).Perm (t :: L) := by
  unfold putT
  have := List.takeWhile_append_dropWhile (p := (aheadT · t)) (l := L)
  conv => rhs; rw [← this]
  exact List.perm_middle
theorem takeWhile_all {p : Tm → Bool} {L : List Tm} : ∀ x ∈ L.takeWhile p, p x = true := fun x hx => by
  have := List.all_takeWhile (p := p) (l := L)
  exact List.all_eq_true.1 this x hx
theorem putT_sort {L : List Tm} {t : Tm} (h : L.Pairwise fun a b => aheadT a b = true) (hid : ∀ x ∈ L, x.2.1 ≠ t.2.1) : (putT L t).Pairwise fun a b => aheadT a b = true := by
  unfold putT
  have hs := List.takeWhile_append_dropWhile (p := (aheadT · t)) (l := L)
  rw [← hs, List.pairwise_append] at h
  obtain ⟨h1, h2, h3⟩ := h
  have hd : ∀ x ∈ L.dropWhile (aheadT · t), aheadT t x = true := by
    intro x hx
    cases hdd : L.dropWhile (aheadT · t) with
    | nil => rw [hdd] at hx; simp at hx
    | cons y r =>
      have hy : aheadT y t = false := by
        have := List.head?_dropWhile_not (p := (aheadT · t)) (l := L)
        rw [hdd] at this; simpa using this
      have hyL : y ∈ L := by rw [← hs, hdd]; simp
      have hyt : aheadT t y = true := by
        have := hid y hyL
        rw [aheadT_iff]
        have hn : ¬ aheadT y t = true := by simp [hy]
        rw [aheadT_iff] at hn; omega
      rw [hdd] at hx h2
      rcases List.mem_cons.1 hx with rfl | hx
      · exact hyt
      · exact aheadT_trans hyt ((List.pairwise_cons.1 h2).1 x hx)
  rw [List.pairwise_append]
  refine ⟨h1, List.pairwise_cons.2 ⟨hd, h2⟩, fun a ha b hb => ?_⟩
  rcases List.mem_cons.1 hb with rfl | hb
  · exact takeWhile_all a ha
  · exact h3 a ha b hb
theorem RQ.Ok.put {x : RQ} (k : x.Ok) {at0 what : Int} (h0 : 0 ≤ at0) (hn : x.next ≠ 1099511627776) (hl : (x.L.length : Int) < x.most) : (⟨putT x.L (at0, x.next, what), x.most, x.next + 1⟩ : RQ).Ok where
  sort := putT_sort k.sort fun y hy => by have := k.low y hy; show y.2.1 ≠ x.next; omega
  low t ht := by
    have := (putT_perm _ _).mem_iff.1 ht
    rcases List.mem_cons.1 this with rfl | h
    · have := k.next; exact ⟨h0, by show 1 ≤ x.next; omega, by show x.next < x.next + 1; omega⟩
    · have := k.low t h; show _ ∧ _ ∧ t.2.1 < x.next + 1; omega
  next := by have := k.next; show 1 ≤ x.next + 1 ∧ x.next + 1 ≤ _; omega
  most := k.most
  len := by show ((putT _ _).length : Int) ≤ _; rw [putT_len]; show ((x.L.length + 1 : Nat) : Int) ≤ x.most; omega
theorem RQ.Ok.sub {x : RQ} (k : x.Ok) {L : List Tm} (s : L.Sublist x.L) : (⟨L, x.most, x.next⟩ : RQ).Ok where
  sort := k.sort.sublist s
  low t ht := k.low t (s.subset ht)
  next := k.next
  most := k.most
  len := by have := s.length_le; have := k.len; show ((L.length : Nat) : Int) ≤ x.most; omega
theorem RQ.Ok.insert {x : RQ} (k : x.Ok) (at0 what : Int) : (x.insert at0 what).1.Ok := by
  unfold RQ.insert
  split
  · exact k
  · split
    · exact k
    · exact k.put (by omega) (by omega) (by omega)
theorem RQ.Ok.cancel {x : RQ} (k : x.Ok) (id : Int) : (x.cancel id).1.Ok := by
  unfold RQ.cancel
  split
  · exact k.sub (List.eraseIdx_sublist _ _)
  · exact k
theorem RQ.Ok.move {x : RQ} (k : x.Ok) (id at0 : Int) : (x.move id at0).1.Ok := by
  unfold RQ.move
  split
  · exact k
  · rename_i j hj
    split
    · exact k
    · split
      · exact k
      · obtain ⟨t, ht, -⟩ := findT_some hj
        have hl := List.length_eraseIdx_of_lt (List.getElem?_eq_some_iff.1 ht).1
        have h2 := (List.getElem?_eq_some_iff.1 ht).1
        have := (k.sub (List.eraseIdx_sublist x.L j)).put (what := (x.L[j]?.getD (0, 0, 0)).2.2) (at0 := at0) (by omega) (by show x.next ≠ _; omega) (by have := k.len; show ((x.L.eraseIdx j).length : Int) < x.most; omega)
        exact this
theorem RQ.Ok.pop {x : RQ} (k : x.Ok) (now : Int) : (x.pop now).1.Ok := by
  unfold RQ.pop
  split
  · exact k
  · rename_i t L hL
    split
    · exact k
    · exact k.sub (by rw [hL]; exact List.sublist_cons_self _ _)

/- ## The program's operations -/
def PPost (q : Nat) (D : Fz) (C : List Chunk) (x' : RQ) (v' : Value) (v : Value) (h' : Heap) : Prop := v = v' ∧ ∃ ch', IsQ q x'.L x'.most x'.next ch' ∧ St D (ch' :: C) h'
section
variable {q : Nat} {x : RQ} {ch : Chunk}
theorem pInsert_spec (k : x.Ok) (r : IsQ q x.L x.most x.next ch) (S : St D (ch :: C) h) (at0 what : Int) :
    Run Try.prog 12 [.pointer (some ⟨q, 0, none⟩), .int .i64 at0, .int .i64 what] h (PPost q D C (x.insert at0 what).1 (.tuple #[.int .i64 (x.insert at0 what).2.1, .int .i64 (x.insert at0 what).2.2])) := by
  obtain ⟨mb, a, e, Q⟩ := r.open S
  have h1 := k.len; have h2 := k.most; have h3 := k.next
  refine (insert_spec Q (Nat.zero_le _) at0 what (fun y hy => by have := k.low y hy; omega) (by omega) ⟨by omega, by omega⟩).mono ?_
  rintro v h' ⟨n, e0, a', L', next', rfl, Q', kb, mv, hc⟩
  obtain ⟨ch', r', S'⟩ := IsQ.close S e Q' kb mv
  unfold RQ.insert
  split at hc
  · rename_i hneg
    obtain ⟨rfl, rfl, rfl, rfl⟩ := hc
    rw [if_pos hneg]; exact ⟨rfl, ch', r', S'⟩
  · rename_i hneg
    rw [if_neg hneg]
    split at hc
    · rename_i hf
      obtain ⟨rfl, rfl, rfl, rfl⟩ := hc
      rw [if_pos hf]; exact ⟨rfl, ch', r', S'⟩
    · rename_i hf
      obtain ⟨rfl, rfl, rfl, rfl⟩ := hc
      rw [if_neg hf]; exact ⟨rfl, ch', r'.perm (putT_perm _ _).symm, S'⟩
theorem perm_erase {L L' : List Tm} {t : Tm} {i : Nat} (hp : (t :: L').Perm L) (hi : L[i]? = some t) : L'.Perm (L.eraseIdx i) := by
  have hl := (List.getElem?_eq_some_iff.1 hi)
  have h2 : L.Perm (t :: L.eraseIdx i) := by
    rw [List.eraseIdx_eq_take_drop_succ]
    conv => lhs; rw [← List.take_append_drop i L, List.drop_eq_getElem_cons hl.1, hl.2]
    exact List.perm_middle
  exact (hp.trans h2).cons_inv
theorem Queue.ids {B : Nat} {h : Heap} {qb mb : Nat} {a : Option Addr} {L : List Tm} {most next : Int} (s : Queue B h qb mb a L most next) : Ids L := let ⟨_, _, _, _, _, _, _, r⟩ := s; r
theorem find_of {L : List Tm} (hid : Ids L) {t : Tm} (ht : t ∈ L) : ∃ i, findT L t.2.1 = some i ∧ L[i]? = some t := by
  cases hf : findT L t.2.1 with
  | none =>
    unfold findT at hf
    rw [List.findIdx?_eq_none_iff] at hf
    have := hf t ht
    simp at this
  | some i =>
    obtain ⟨u, hu, he⟩ := findT_some hf
    obtain ⟨j, hj⟩ := List.mem_iff_getElem?.1 ht
    refine ⟨i, rfl, ?_⟩
    have := hid.inj hu hj he
    subst this; exact hj
theorem find_not {L : List Tm} {id : Int} (h : ∀ x ∈ L, x.2.1 ≠ id) : findT L id = none := by
  unfold findT
  rw [List.findIdx?_eq_none_iff]
  intro x hx; simpa using h x hx
theorem pCancel_spec (k : x.Ok) (r : IsQ q x.L x.most x.next ch) (S : St D (ch :: C) h) (id : Int) :
    Run Try.prog 40 [.pointer (some ⟨q, 0, none⟩), .int .i64 id] h (PPost q D C (x.cancel id).1 (.int .i64 (x.cancel id).2)) := by
  obtain ⟨mb, a, e, Q⟩ := r.open S
  have h1 := k.len; have h2 := k.most
  refine (cancel_spec Q id (by omega)).mono ?_
  rintro v h' ⟨L', Q', kb, hc⟩
  obtain ⟨ch', r', S'⟩ := IsQ.close S e Q' kb (fun x hx => .inl hx)
  unfold RQ.cancel
  rcases hc with ⟨rfl, rfl, hno⟩ | ⟨t, ht, rfl, rfl, hp⟩
  · rw [find_not hno]; exact ⟨rfl, ch', r', S'⟩
  · obtain ⟨i, hf, hi⟩ := find_of Q.ids ht
    rw [hf]; exact ⟨rfl, ch', r'.perm (perm_erase hp hi), S'⟩
theorem pMove_spec (k : x.Ok) (r : IsQ q x.L x.most x.next ch) (S : St D (ch :: C) h) (id at0 : Int) :
    Run Try.prog 37 [.pointer (some ⟨q, 0, none⟩), .int .i64 id, .int .i64 at0] h (PPost q D C (x.move id at0).1 (.tuple #[.int .i64 (x.move id at0).2.1, .int .i64 (x.move id at0).2.2])) := by
  obtain ⟨mb, a, e, Q⟩ := r.open S
  have h1 := k.len; have h2 := k.most; have h3 := k.next
  refine (move_spec Q (Nat.zero_le _) id at0 (fun y hy => by have := k.low y hy; omega) (by omega) ⟨by omega, by omega⟩).mono ?_
  rintro v h' ⟨n, e0, a', L', next', rfl, Q', kb, mv, hc⟩
  obtain ⟨ch', r', S'⟩ := IsQ.close S e Q' kb mv
  unfold RQ.move
  rcases hc with ⟨rfl, rfl, rfl, rfl, hno⟩ | ⟨t, ht, rfl, hc⟩
  · rw [find_not hno]; exact ⟨rfl, ch', r', S'⟩
  · obtain ⟨i, hf, hi⟩ := find_of Q.ids ht
    rw [hf]
    split at hc
    · rename_i hneg
      obtain ⟨rfl, rfl, rfl, rfl⟩ := hc
      simp only [if_pos hneg]; exact ⟨rfl, ch', r', S'⟩
    · rename_i hneg
      split at hc
      · rename_i hf2
        obtain ⟨rfl, rfl, rfl, rfl⟩ := hc
        simp only [if_neg hneg, if_pos hf2]; exact ⟨rfl, ch', r', S'⟩
      · rename_i hf2
        obtain ⟨rfl, rfl, rfl, L0, hp, rfl⟩ := hc
        simp only [if_neg hneg, if_neg hf2, hi]
        exact ⟨rfl, ch', r'.perm (((perm_erase hp hi).cons _).trans (putT_perm _ _).symm), S'⟩
theorem least_head {t u : Tm} {L L' : List Tm} (k : (u :: L).Pairwise fun a b => aheadT a b = true) (hp : (t :: L').Perm (u :: L)) (hm : ∀ x ∈ u :: L, leT t x) : t = u ∧ L'.Perm L := by
  have ht : t ∈ u :: L := hp.mem_iff.1 (by simp)
  have : t = u := by
    rcases List.mem_cons.1 ht with h | h
    · exact h
    · have h1 := (List.pairwise_cons.1 k).1 t h
      have h2 := hm u (by simp)
      rw [aheadT_iff] at h1; unfold leT at h2; omega
  subst this
  exact ⟨rfl, hp.cons_inv⟩
theorem pPop_spec (k : x.Ok) (r : IsQ q x.L x.most x.next ch) (S : St D (ch :: C) h) (now : Int) :
    Run Try.prog 13 [.pointer (some ⟨q, 0, none⟩), .int .i64 now] h (PPost q D C (x.pop now).1 (.tuple #[vT (x.pop now).2.1, .bool (x.pop now).2.2])) := by
  obtain ⟨mb, a, e, Q⟩ := r.open S
  have h1 := k.len; have h2 := k.most
  refine (pop_spec Q (by omega) now).mono ?_
  rintro v h' ⟨t, b, L', rfl, Q', kb, hc⟩
  obtain ⟨ch', r', S'⟩ := IsQ.close S e Q' kb (fun x hx => .inl hx)
  unfold RQ.pop
  rcases hc with ⟨rfl, rfl, rfl, hno⟩ | ⟨rfl, hp, hle, hm⟩
  · cases hL : x.L with
    | nil => exact ⟨rfl, ch', r', S'⟩
    | cons u L =>
      have := hno u (by rw [hL]; simp)
      simp only [if_pos (show u.1 > now by omega)]
      exact ⟨rfl, ch', r', S'⟩
  · cases hL : x.L with
    | nil => rw [hL] at hp; have := hp.length_eq; simp at this
    | cons u L =>
      rw [hL] at hp hm
      obtain ⟨rfl, hp'⟩ := least_head (by have := k.sort; rwa [hL] at this) hp hm
      simp only [if_neg (show ¬ t.1 > now by omega)]
      exact ⟨rfl, ch', r'.perm hp', S'⟩
def RQ.first (x : RQ) : Tm × Bool := match x.L with | [] => ((0, 0, 0), false) | t :: _ => (t, true)
theorem pFirst_spec (k : x.Ok) (r : IsQ q x.L x.most x.next ch) (S : St D (ch :: C) h) :
    Run Try.prog 38 [.pointer (some ⟨q, 0, none⟩)] h fun v h' => v = .tuple #[vT x.first.1, .bool x.first.2] ∧ St D (ch :: C) h' := by
  obtain ⟨mb, a, e, Q⟩ := r.open S
  obtain ⟨c, xs, m, qb, hH, hM, hp, hi⟩ := Q
  refine (first_spec qb).mono ?_
  rintro v h' ⟨kk, t, b, rfl, hc⟩
  refine ⟨?_, S.keep kk⟩
  unfold RQ.first
  cases hL : x.L with
  | nil =>
    rw [hL] at hp
    have hx : xs = [] := hp.eq_nil
    rcases hc with ⟨-, rfl, rfl⟩ | ⟨-, h0⟩
    · rfl
    · rw [hx] at h0; simp at h0
  | cons u L =>
    rw [hL] at hp
    rcases hc with ⟨hx, -⟩ | ⟨rfl, h0⟩
    · rw [hx] at hp; have := hp.length_eq; simp at this
    · obtain ⟨xs', rfl⟩ : ∃ xs', xs = t :: xs' := by cases xs with | nil => simp at h0 | cons y ys => simp at h0; subst h0; exact ⟨ys, rfl⟩
      obtain ⟨rfl, -⟩ := least_head (by have := k.sort; rwa [hL] at this) hp fun y hy => by
        obtain ⟨i, hi⟩ := List.mem_iff_getElem?.1 (hp.mem_iff.2 hy)
        exact hH.first i t y rfl hi
      rfl
theorem pLen_spec (r : IsQ q x.L x.most x.next ch) (S : St D (ch :: C) h) : Run Try.prog 14 [.pointer (some ⟨q, 0, none⟩)] h fun v h' => v = .int .i64 (x.L.length : Nat) ∧ St D (ch :: C) h' := by
  obtain ⟨mb, a, e, Q⟩ := r.open S
  exact (len_spec Q).mono fun v h' ⟨e1, e2⟩ => ⟨e1, e2 ▸ S⟩
theorem pNext_spec (r : IsQ q x.L x.most x.next ch) (S : St D (ch :: C) h) : Run Try.prog 42 [.pointer (some ⟨q, 0, none⟩)] h fun v h' => v = .int .i64 x.next ∧ St D (ch :: C) h' := by
  obtain ⟨mb, a, e, Q⟩ := r.open S
  exact (next_spec7 Q).mono fun v h' ⟨e1, e2⟩ => ⟨e1, e2 ▸ S⟩
end
theorem pNew_spec (S : St D C h) (most : Int) : Run Try.prog 11 [.int .i64 most] h fun v h' =>
    if most < 1 ∨ most > 1024 then v = .tuple #[.pointer none, .int .i64 1] ∧ St D C h' else ∃ q ch, v = .tuple #[.pointer (some ⟨q, 0, none⟩), .int .i64 0] ∧ IsQ q [] most 1 ch ∧ St D (ch :: C) h' := by
  refine (new_spec most h).mono ?_
  rintro v h' ⟨kk, hc⟩
  split at hc
  · rename_i hb; rw [if_pos hb]; exact ⟨hc, S.keep kk⟩
  · rename_i hb
    rw [if_neg hb]
    obtain ⟨q, mb, rfl, Q⟩ := hc
    have hg := Q.ge
    -- the blocks of the new queue lie above the old heap
    obtain ⟨ch', r', S'⟩ : ∃ ch', IsQ q [] most 1 ch' ∧ St D (ch' :: C) h' := by
      let c0 : Chunk := (foot q mb none).filterMap fun b => h'[b]?.map fun o => (b, o)
      have hgt := Q.get
      obtain ⟨o1, ho1⟩ := hgt q (by simp [foot])
      obtain ⟨o2, ho2⟩ := hgt mb (by simp [foot])
      have hc0 : c0 = [(q, o1), (mb, o2)] := by show List.filterMap _ [q, mb] = _; simp [ho1, ho2]
      have hnd := Q.nodup
      have S2 : St D (c0 :: C) h' := S.nil.upd (c' := c0) (kk.mono fun x hx => by simp at hx) (by rw [hc0]; intro p hp; simp at hp; rcases hp with rfl | rfl; exact ho1; exact ho2) (by rw [hc0]; exact hnd)
        fun p hp => .inr (hg p.1 (by rw [hc0] at hp; simp at hp; rcases hp with rfl | rfl <;> simp [foot]))
      exact IsQ.close S2 (mb := mb) (a := none) (by rw [hc0]; rfl) Q.low (.refl _ _) (fun x hx => .inl hx)
    exact ⟨q, ch', rfl, r', S'⟩
theorem awake7S (S : St D C h) : Run Try.prog 15 [] h fun v h' => v = .bool true ∧ St D C h' := (awake7_spec h).mono fun v h' ⟨e, k⟩ => ⟨e, S.keep k⟩
end Go.Proofs.Ytjcjlhpabjjflaa
