/- The logic, part a: blocks that one owns, in chunks; frozen blocks; data in frozen blocks. -/
import Derived.Test.YtjcjlhpabjjflaaEj
set_option linter.unusedVariables false
namespace Go.Proofs.Ytjcjlhpabjjflaa
open Go

/- ## States -/
abbrev Chunk := List (Nat × Obj)
abbrev Fz := Nat → Option Obj
def Le (D D' : Fz) : Prop := ∀ b o, D b = some o → D' b = some o
theorem Le.refl (D : Fz) : Le D D := fun _ _ h => h
theorem Le.trans {A B C : Fz} (h : Le A B) (k : Le B C) : Le A C := fun b o x => k b o (h b o x)
def ids (C : List Chunk) : List Nat := C.flatten.map (·.1)
/-- The blocks of C are as C says, those of D are frozen. -/
structure St (D : Fz) (C : List Chunk) (h : Heap) : Prop where
  nd : (ids C).Nodup
  own : ∀ p ∈ C.flatten, h[p.1]? = some p.2
  fz : ∀ b o, D b = some o → h[b]? = some o ∧ b ∉ ids C

variable {D D' : Fz} {C : List Chunk} {h h' : Heap}
theorem St.perm {C' : List Chunk} (S : St D C h) (p : C.flatten.Perm C'.flatten) : St D C' h where
  nd := (p.map _).nodup_iff.1 S.nd
  own q hq := S.own q (p.mem_iff.2 hq)
  fz b o hb := ⟨(S.fz b o hb).1, fun hm => (S.fz b o hb).2 ((p.map _).mem_iff.2 hm)⟩
theorem perm_pick {α : Type} : ∀ {C : List (List α)} {i : Nat} {c : List α}, C[i]? = some c → C.flatten.Perm (c :: C.eraseIdx i).flatten
  | [], i, c, h => by simp at h
  | x :: C, 0, c, h => by simp at h; subst h; exact .refl _
  | x :: C, i + 1, c, h => by
    have := perm_pick (C := C) (i := i) (c := c) (by simpa using h)
    simp only [List.flatten_cons, List.eraseIdx_cons_succ] at this ⊢
    refine (this.append_left x).trans ?_
    rw [← List.append_assoc, ← List.append_assoc]
    exact List.perm_append_comm.append_right _
/-- Chunk i comes to the front. -/
theorem St.pick (S : St D C h) (i : Nat) {c : Chunk} (hi : C[i]? = some c) : St D (c :: C.eraseIdx i) h := S.perm (perm_pick hi)
theorem St.drop {c : Chunk} (S : St D (c :: C) h) : St D C h where
  nd := by have := S.nd; simp only [ids, List.flatten_cons, List.map_append, List.nodup_append] at this; exact this.2.1
  own p hp := S.own p (by simp only [List.flatten_cons, List.mem_append]; exact .inr hp)
  fz b o hb := ⟨(S.fz b o hb).1, fun hm => (S.fz b o hb).2 (by simp only [ids, List.flatten_cons, List.map_append, List.mem_append]; exact .inr hm)⟩
theorem St.get {c : Chunk} {b : Nat} {o : Obj} (S : St D (c :: C) h) (hm : (b, o) ∈ c) : h[b]? = some o := S.own (b, o) (by simp [hm])
/-- Chunk c becomes c': of its own blocks, or of new ones. -/
theorem St.upd {c c' : Chunk} (S : St D (c :: C) h) (k : KB (c.map (·.1)) h h') (hc : ∀ p ∈ c', h'[p.1]? = some p.2) (hn : (c'.map (·.1)).Nodup)
    (hi : ∀ p ∈ c', p.1 ∈ c.map (·.1) ∨ h.size ≤ p.1) : St D (c' :: C) h' := by
  have hnd := S.nd
  simp only [ids, List.flatten_cons, List.map_append, List.nodup_append] at hnd
  obtain ⟨h1, h2, h3⟩ := hnd
  have hlt : ∀ p ∈ C.flatten, p.1 < h.size := fun p hp => lt_of_get (S.own p (by simp only [List.flatten_cons, List.mem_append]; exact .inr hp))
  have hout : ∀ p ∈ C.flatten, p.1 ∉ c.map (·.1) := fun p hp hm => h3 _ hm _ (List.mem_map.2 ⟨p, hp, rfl⟩) rfl
  refine ⟨?_, ?_, ?_⟩
  · simp only [ids, List.flatten_cons, List.map_append, List.nodup_append]
    refine ⟨hn, h2, fun x hx y hy e => ?_⟩
    subst e
    obtain ⟨p, hp, rfl⟩ := List.mem_map.1 hx
    obtain ⟨q, hq, he⟩ := List.mem_map.1 hy
    have := hlt q hq
    rcases hi p hp with hm | hm
    · exact hout q hq (he ▸ hm)
    · omega
  · intro p hp
    simp only [List.flatten_cons, List.mem_append] at hp
    rcases hp with hp | hp
    · exact hc p hp
    · exact k.get (S.own p (by simp only [List.flatten_cons, List.mem_append]; exact .inr hp)) (hout p hp)
  · intro b o hb
    obtain ⟨g1, g2⟩ := S.fz b o hb
    simp only [ids, List.flatten_cons, List.map_append, List.mem_append, not_or] at g2 ⊢
    refine ⟨k.get g1 g2.1, fun hm => ?_, g2.2⟩
    obtain ⟨p, hp, rfl⟩ := List.mem_map.1 hm
    rcases hi p hp with hm | hm
    · exact g2.1 hm
    · have := lt_of_get g1; omega
theorem St.nil (S : St D C h) : St D ([] :: C) h := ⟨S.nd, S.own, S.fz⟩
theorem St.keep (S : St D C h) (k : Keep h h') : St D C h' := (S.nil.upd (c' := []) (k.mono fun x hx => by simp at hx) (by simp) (by simp) (by simp)).drop
/-- Chunks c1, c2 as one. -/
theorem St.join {c1 c2 : Chunk} (S : St D (c1 :: c2 :: C) h) : St D ((c1 ++ c2) :: C) h := S.perm (by simp)
theorem St.join3 {c1 c2 c3 : Chunk} (S : St D (c1 :: c2 :: c3 :: C) h) : St D ((c1 ++ (c2 ++ c3)) :: C) h := S.perm (by simp)
theorem St.split3 {c1 c2 c3 : Chunk} (S : St D ((c1 ++ (c2 ++ c3)) :: C) h) : St D (c1 :: c2 :: c3 :: C) h := S.perm (by simp)
theorem St.split {c1 c2 : Chunk} (S : St D ((c1 ++ c2) :: C) h) : St D (c1 :: c2 :: C) h := S.perm (by simp)
theorem St.new {o : Obj} {K : Nat → Heap → Prop} (S : St D C h) (hK : ∀ (b : Nat) (h1 : Heap), St D ([(b, o)] :: C) h1 → K b h1) : newB h o K :=
  newB_intro fun h1 hb k s => hK _ h1 (S.nil.upd (k.mono fun x hx => by simp at hx) (by simpa using hb) (by simp) (by simp))
/-- What one owns is frozen. -/
theorem St.freeze {c : Chunk} (S : St D (c :: C) h) : ∃ D', Le D D' ∧ (∀ p ∈ c, D' p.1 = some p.2) ∧ St D' C h := by
  have hnd := S.nd
  simp only [ids, List.flatten_cons, List.map_append, List.nodup_append] at hnd
  obtain ⟨h1, h2, h3⟩ := hnd
  have key : ∀ p ∈ c, ∀ q ∈ c, p.1 = q.1 → p = q := fun p hp q hq e => by
    have hp' := S.own p (by simp [hp])
    have hq' := S.own q (by simp [hq])
    rw [e, hq'] at hp'
    exact Prod.ext e (Option.some.inj hp').symm
  refine ⟨fun b => match c.find? (fun p => p.1 == b) with | some p => some p.2 | none => D b, fun b o hb => ?_, fun p hp => ?_, S.drop.nd, S.drop.own, fun b o hb => ?_⟩
  · have : c.find? (fun p => p.1 == b) = none := by
      rw [List.find?_eq_none]
      intro p hp he
      simp only [beq_iff_eq] at he
      exact (S.fz b o hb).2 (by simp only [ids, List.flatten_cons, List.map_append, List.mem_append]; exact .inl (List.mem_map.2 ⟨p, hp, he⟩))
    simp only [this]; exact hb
  · cases hf : c.find? (fun q => q.1 == p.1) with
    | none => rw [List.find?_eq_none] at hf; exact absurd (by simp) (hf p hp)
    | some q =>
      have h1 := List.mem_of_find?_eq_some hf
      have h2 := List.find?_some hf
      simp only [beq_iff_eq] at h2
      have := key q h1 p hp h2
      subst this
      simp only [hf]
  · cases hf : c.find? (fun q => q.1 == b) with
    | none => rw [hf] at hb; exact ⟨(S.drop.fz b o hb).1, (S.drop.fz b o hb).2⟩
    | some q =>
      rw [hf] at hb
      have h1 := List.mem_of_find?_eq_some hf
      have h2' := List.find?_some hf
      simp only [beq_iff_eq] at h2'
      cases hb
      refine ⟨h2' ▸ S.own q (by simp [h1]), fun hm => ?_⟩
      exact h3 b (List.mem_map.2 ⟨q, h1, h2'⟩) b hm rfl
theorem St.none (S : St D C h) : St D [] h := ⟨by simp [ids], by simp, fun b o hb => ⟨(S.fz b o hb).1, by simp [ids]⟩⟩

/-- The first chunks in another order. -/
def arr (is : List Nat) (C : List Chunk) : List Chunk := is.map (fun i => C.getD i []) ++ C.drop is.length
theorem getD_range : ∀ (k : Nat) (C : List Chunk), ((List.range k).map fun i => C.getD i []).flatten = (C.take k).flatten
  | 0, C => by simp
  | k + 1, [] => by
    have : ((List.range (k + 1)).map fun i => ([] : List Chunk).getD i []) = List.replicate (k + 1) [] := by
      apply List.ext_getElem <;> simp
    rw [this]; simp
  | k + 1, c :: C => by
    rw [List.range_succ_eq_map, List.map_cons, List.map_map, List.flatten_cons, List.take_succ_cons, List.flatten_cons, ← getD_range k C]
    rfl
theorem St.arr (S : St D C h) (is : List Nat) (hp : is.isPerm (List.range is.length) = true) : St D (arr is C) h := by
  refine S.perm ?_
  unfold Go.Proofs.Ytjcjlhpabjjflaa.arr
  rw [List.flatten_append]
  conv => lhs; rw [← List.take_append_drop is.length C, List.flatten_append]
  refine List.Perm.append_right _ ?_
  rw [← getD_range]
  exact ((List.isPerm_iff.1 hp).map _).flatten.symm

theorem onPtr_s {b o : Nat} {K : Nat → Nat → Prop} (h : K b o) : onPtr (some ⟨b, o, .none⟩) K := h

/- ## Own blocks of cells -/
section
variable {b o : Nat} {c : Array Value} {T : TypeId} {f : Nat × Nat} {c0 c1 c2 c3 c4 c5 : Chunk}
theorem St.ld0 (S : St D ([(b, .cells c T f)] :: C) h) : hcell h ⟨b, o, .none⟩ = c[o]? := hcell_of (S.get (List.mem_singleton_self _)) o
theorem St.ld1 (S : St D (c0 :: [(b, .cells c T f)] :: C) h) : hcell h ⟨b, o, .none⟩ = c[o]? := S.drop.ld0
theorem St.ld2 (S : St D (c0 :: c1 :: [(b, .cells c T f)] :: C) h) : hcell h ⟨b, o, .none⟩ = c[o]? := S.drop.drop.ld0
theorem St.ld3 (S : St D (c0 :: c1 :: c2 :: [(b, .cells c T f)] :: C) h) : hcell h ⟨b, o, .none⟩ = c[o]? := S.drop.drop.drop.ld0
theorem St.ld4 (S : St D (c0 :: c1 :: c2 :: c3 :: [(b, .cells c T f)] :: C) h) : hcell h ⟨b, o, .none⟩ = c[o]? := S.drop.drop.drop.drop.ld0
theorem St.ld5 (S : St D (c0 :: c1 :: c2 :: c3 :: c4 :: [(b, .cells c T f)] :: C) h) : hcell h ⟨b, o, .none⟩ = c[o]? := S.drop.drop.drop.drop.drop.ld0
theorem St.ld6 (S : St D (c0 :: c1 :: c2 :: c3 :: c4 :: c5 :: [(b, .cells c T f)] :: C) h) : hcell h ⟨b, o, .none⟩ = c[o]? := S.drop.drop.drop.drop.drop.drop.ld0
end
section
variable {b : Nat} {T : TypeId} {l : List Value} {c0 c1 c2 c3 c4 c5 : Chunk}
theorem St.swap {c0 c1 : Chunk} (S : St D (c0 :: c1 :: C) h) : St D (c1 :: c0 :: C) h := S.pick 1 rfl
theorem St.st0 {vs : List Value} {o i : Nat} {K : Heap → Prop} (S : St D ([(b, .cells ⟨l⟩ T (0, 0))] :: C) h) (hl : Nat.ble (o + i + vs.length) l.length = true) (hv : vs.all single = true)
    (hK : ∀ h', St D ([(b, .cells ⟨splice l (o + i) vs⟩ T (0, 0))] :: C) h' → K h') : storeS b o vs i h K :=
  storeS_blk (l := l) (e := T) (S.get (List.mem_singleton_self _)) (Nat.le_of_ble_eq_true hl) (List.all_eq_true.1 hv) fun h' hb k s => hK h' (S.upd (by simpa using k) (by simpa using hb) (by simp) (by simp))
theorem St.st1 {vs : List Value} {o i : Nat} {K : Heap → Prop} (S : St D (c0 :: [(b, .cells ⟨l⟩ T (0, 0))] :: C) h) (hl : Nat.ble (o + i + vs.length) l.length = true) (hv : vs.all single = true)
    (hK : ∀ h', St D (c0 :: [(b, .cells ⟨splice l (o + i) vs⟩ T (0, 0))] :: C) h' → K h') : storeS b o vs i h K :=
  (S.pick 1 rfl).st0 hl hv fun h' S' => hK h' (S'.pick 1 rfl)
theorem St.st2 {vs : List Value} {o i : Nat} {K : Heap → Prop} (S : St D (c0 :: c1 :: [(b, .cells ⟨l⟩ T (0, 0))] :: C) h) (hl : Nat.ble (o + i + vs.length) l.length = true) (hv : vs.all single = true)
    (hK : ∀ h', St D (c0 :: c1 :: [(b, .cells ⟨splice l (o + i) vs⟩ T (0, 0))] :: C) h' → K h') : storeS b o vs i h K :=
  (S.pick 2 rfl).st0 hl hv fun h' S' => hK h' ((S'.pick 2 rfl).pick 2 rfl)
theorem St.st3 {vs : List Value} {o i : Nat} {K : Heap → Prop} (S : St D (c0 :: c1 :: c2 :: [(b, .cells ⟨l⟩ T (0, 0))] :: C) h) (hl : Nat.ble (o + i + vs.length) l.length = true) (hv : vs.all single = true)
    (hK : ∀ h', St D (c0 :: c1 :: c2 :: [(b, .cells ⟨splice l (o + i) vs⟩ T (0, 0))] :: C) h' → K h') : storeS b o vs i h K :=
  (S.pick 3 rfl).st0 hl hv fun h' S' => hK h' (((S'.pick 3 rfl).pick 3 rfl).pick 3 rfl)
theorem St.st4 {vs : List Value} {o i : Nat} {K : Heap → Prop} (S : St D (c0 :: c1 :: c2 :: c3 :: [(b, .cells ⟨l⟩ T (0, 0))] :: C) h) (hl : Nat.ble (o + i + vs.length) l.length = true) (hv : vs.all single = true)
    (hK : ∀ h', St D (c0 :: c1 :: c2 :: c3 :: [(b, .cells ⟨splice l (o + i) vs⟩ T (0, 0))] :: C) h' → K h') : storeS b o vs i h K :=
  (S.pick 4 rfl).st0 hl hv fun h' S' => hK h' ((((S'.pick 4 rfl).pick 4 rfl).pick 4 rfl).pick 4 rfl)
theorem St.sk0 {v : Value} {o : Nat} {K : Heap → Prop} (S : St D ([(b, .cells ⟨l⟩ T (0, 0))] :: C) h) (hl : Nat.ble (o + 1) l.length = true) (hv : single v = true)
    (hK : ∀ h', St D ([(b, .cells ⟨l.set o v⟩ T (0, 0))] :: C) h' → K h') : stK h ⟨b, o, .none⟩ v K :=
  stK_blk (S.get (List.mem_singleton_self _)) (by have := Nat.le_of_ble_eq_true hl; simp only [List.size_toArray]; omega) hv fun h' hb k s => hK h' (S.upd (by simpa using k) (by simpa using hb) (by simp) (by simp))
theorem St.sk1 {v : Value} {o : Nat} {K : Heap → Prop} (S : St D (c0 :: [(b, .cells ⟨l⟩ T (0, 0))] :: C) h) (hl : Nat.ble (o + 1) l.length = true) (hv : single v = true)
    (hK : ∀ h', St D (c0 :: [(b, .cells ⟨l.set o v⟩ T (0, 0))] :: C) h' → K h') : stK h ⟨b, o, .none⟩ v K :=
  (S.pick 1 rfl).sk0 hl hv fun h' S' => hK h' (S'.pick 1 rfl)
theorem St.sk2 {v : Value} {o : Nat} {K : Heap → Prop} (S : St D (c0 :: c1 :: [(b, .cells ⟨l⟩ T (0, 0))] :: C) h) (hl : Nat.ble (o + 1) l.length = true) (hv : single v = true)
    (hK : ∀ h', St D (c0 :: c1 :: [(b, .cells ⟨l.set o v⟩ T (0, 0))] :: C) h' → K h') : stK h ⟨b, o, .none⟩ v K :=
  (S.pick 2 rfl).sk0 hl hv fun h' S' => hK h' ((S'.pick 2 rfl).pick 2 rfl)
theorem St.sk3 {v : Value} {o : Nat} {K : Heap → Prop} (S : St D (c0 :: c1 :: c2 :: [(b, .cells ⟨l⟩ T (0, 0))] :: C) h) (hl : Nat.ble (o + 1) l.length = true) (hv : single v = true)
    (hK : ∀ h', St D (c0 :: c1 :: c2 :: [(b, .cells ⟨l.set o v⟩ T (0, 0))] :: C) h' → K h') : stK h ⟨b, o, .none⟩ v K :=
  (S.pick 3 rfl).sk0 hl hv fun h' S' => hK h' (((S'.pick 3 rfl).pick 3 rfl).pick 3 rfl)
end

/- ## Data -/
inductive U where
  | i (k : IntKind) (n : Int)
  | b (c : Bool)
  | s (x : ByteArray)
  | l (rows : List (List U))
abbrev U.n (x : Int) : U := .i .i64 x
inductive Rd (D : Fz) : Value → U → Prop
  | int (k : IntKind) (n : Int) : Rd D (.int k n) (.i k n)
  | bool (c : Bool) : Rd D (.bool c) (.b c)
  | str (x : ByteArray) : Rd D (.string x) (.s x)
  | nil (a : Option Addr) (c : Nat) : Rd D (.slice a 0 c) (.l [])
  | row (b o c : Nat) (arr : Array Value) (T : TypeId) (f : Nat × Nat) (rows : List (List U)) (sz : Nat) (v : Nat → Nat → Value) : D b = some (.cells arr T f) → rows.length ≤ c → (∀ r ∈ rows, r.length = sz) →
      (∀ i j r u, rows[i]? = some r → r[j]? = some u → arr[o + i * sz + j]? = some (v i j)) → (∀ i j r u, rows[i]? = some r → r[j]? = some u → Rd D (v i j) u) →
      Rd D (.slice (some ⟨b, o, none⟩) rows.length c) (.l rows)
theorem Rd.mono {v : Value} {u : U} (hr : Rd D v u) (l : Le D D') : Rd D' v u := by
  induction hr with
  | int k n => exact .int k n
  | bool c => exact .bool c
  | str x => exact .str x
  | nil a c => exact .nil a c
  | row b o c arr T f rows sz v h1 h2 h3 h4 h5 ih => exact .row b o c arr T f rows sz v (l _ _ h1) h2 h3 h4 ih
theorem Rd.int_iff {v : Value} {k : IntKind} {n : Int} : Rd D v (.i k n) ↔ v = .int k n := ⟨fun h => by cases h; rfl, fun h => h ▸ .int k n⟩
theorem Rd.bool_iff {v : Value} {c : Bool} : Rd D v (.b c) ↔ v = .bool c := ⟨fun h => by cases h; rfl, fun h => h ▸ .bool c⟩
theorem Rd.str_iff {v : Value} {x : ByteArray} : Rd D v (.s x) ↔ v = .string x := ⟨fun h => by cases h; rfl, fun h => h ▸ .str x⟩
theorem Rd.shape {v : Value} {rows : List (List U)} (h : Rd D v (.l rows)) : ∃ a c, v = .slice a rows.length c ∧ rows.length ≤ c := by
  cases h with
  | nil a c => exact ⟨a, c, rfl, by simp⟩
  | row b o c arr T f rows sz v h1 h2 h3 h4 h5 => exact ⟨_, _, rfl, h2⟩
theorem Rd.len {a : Option Addr} {n c : Nat} {rows : List (List U)} (h : Rd D (.slice a n c) (.l rows)) : n = rows.length ∧ n ≤ c := by
  obtain ⟨a', c', e, hl⟩ := h.shape; cases e; exact ⟨rfl, hl⟩
/-- Values as data, one by one. -/
inductive RdL (D : Fz) : List Value → List U → Prop
  | nil : RdL D [] []
  | cons {v : Value} {u : U} {vs : List Value} {us : List U} : Rd D v u → RdL D vs us → RdL D (v :: vs) (u :: us)
theorem RdL.nil_iff {vs : List Value} : RdL D vs [] ↔ vs = [] := ⟨fun h => by cases h; rfl, fun h => h ▸ .nil⟩
theorem RdL.cons_iff {vs : List Value} {u : U} {us : List U} : RdL D vs (u :: us) ↔ ∃ v vs', vs = v :: vs' ∧ Rd D v u ∧ RdL D vs' us :=
  ⟨fun h => by cases h with | cons a b => exact ⟨_, _, rfl, a, b⟩, fun ⟨v, vs', e, a, b⟩ => e ▸ .cons a b⟩
theorem RdL.mono {vs : List Value} {us : List U} (hr : RdL D vs us) (l : Le D D') : RdL D' vs us := by
  induction hr with
  | nil => exact .nil
  | cons a _ ih => exact .cons (a.mono l) ih
theorem RdL.len {vs : List Value} {us : List U} (hr : RdL D vs us) : vs.length = us.length := by
  induction hr with
  | nil => rfl
  | cons a _ ih => simp [ih]
theorem RdL.of_get {us : List U} (f : Nat → Value) (h : ∀ j u, us[j]? = some u → Rd D (f j) u) : RdL D ((List.range us.length).map f) us := by
  induction us generalizing f with
  | nil => exact .nil
  | cons u us ih =>
    rw [List.length_cons, List.range_succ_eq_map, List.map_cons, List.map_map]
    exact .cons (h 0 u rfl) (ih (f ∘ Nat.succ) fun j w hw => h (j + 1) w (by simpa using hw))
theorem RdL.get {vs : List Value} {us : List U} (hr : RdL D vs us) : ∀ {j : Nat} {u : U}, us[j]? = some u → ∃ v, vs[j]? = some v ∧ Rd D v u := by
  induction hr with
  | nil => intro j u h; simp at h
  | cons a _ ih =>
    intro j u h
    cases j with
    | zero => simp at h; subst h; exact ⟨_, rfl, a⟩
    | succ j => simpa using ih (by simpa using h)
/-- An element of a slice of data. -/
theorem Rd.at {a : Option Addr} {n c sz i : Nat} {z : Int} {rows : List (List U)} {r : List U} (hx : Rd D (.slice a n c) (.l rows)) (S : St D C h) (hz : z = (i : Int)) (hi : rows[i]? = some r) (hs : r.length = sz) {K : Nat → Nat → Prop}
    (hK : ∀ b o vs, RdL D vs r → (∀ j, j < sz → hcell h ⟨b, o + z.toNat * sz + j, .none⟩ = vs[j]?) → K b o) : onPtr a K := by
  subst hz
  cases hx with
  | nil => simp at hi
  | row b o c arr T f rows sz' v h1 h2 h3 h4 h5 =>
    have hs' : sz' = sz := by rw [← hs]; exact (h3 r (List.mem_of_getElem? hi)).symm
    subst hs'
    refine hK b o _ (RdL.of_get (v i) fun j u hu => h5 i j r u hi hu) fun j hj => ?_
    rw [hcell_of (S.fz _ _ h1).1, Int.toNat_natCast]
    have hjr : j < r.length := by omega
    rw [h4 i j r r[j] hi (List.getElem?_eq_getElem hjr)]
    simp [hjr]

/- ## Own rows -/
/-- A slice at the head of a row of one's own (or nil): its rows as data; its chunk. -/
inductive Own (D : Fz) (T : TypeId) (sz : Nat) : Option Addr → Nat → List (List U) → Chunk → Prop
  | nil : Own D T sz none 0 [] []
  | row (b c : Nat) (arr : Array Value) (rows : List (List U)) (v : Nat → Nat → Value) : arr.size = c * sz → rows.length ≤ c → (∀ r ∈ rows, r.length = sz) →
      (∀ i j r u, rows[i]? = some r → r[j]? = some u → arr[i * sz + j]? = some (v i j)) → (∀ i j r u, rows[i]? = some r → r[j]? = some u → Rd D (v i j) u) →
      Own D T sz (some ⟨b, 0, none⟩) c rows [(b, .cells arr T (0, 0))]
theorem Own.mono {T : TypeId} {sz c : Nat} {a : Option Addr} {rows : List (List U)} {ch : Chunk} (o : Own D T sz a c rows ch) (l : Le D D') : Own D' T sz a c rows ch := by
  cases o with
  | nil => exact .nil
  | row b c arr rows v h1 h2 h3 h4 h5 => exact .row b c arr rows v h1 h2 h3 h4 fun i j r u a b => (h5 i j r u a b).mono l
theorem Own.len {T : TypeId} {sz c : Nat} {a : Option Addr} {rows : List (List U)} {ch : Chunk} (o : Own D T sz a c rows ch) : rows.length ≤ c := by
  cases o with
  | nil => simp
  | row b c arr rows v h1 h2 h3 h4 h5 => exact h2
theorem Own.freeze {T : TypeId} {sz c : Nat} {a : Option Addr} {rows : List (List U)} {ch : Chunk} (o : Own D T sz a c rows ch) (S : St D (ch :: C) h) : ∃ D', Le D D' ∧ St D' C h ∧ Rd D' (.slice a rows.length c) (.l rows) := by
  cases o with
  | nil => exact ⟨D, .refl D, S.drop, .nil _ _⟩
  | row b c arr rows v h1 h2 h3 h4 h5 =>
    obtain ⟨D', l, g, S'⟩ := S.freeze
    exact ⟨D', l, S', .row b 0 c arr T (0, 0) rows sz v (g (b, _) (by simp)) h2 h3 (fun i j r u a b => by rw [Nat.zero_add]; exact h4 i j r u a b) fun i j r u a b => (h5 i j r u a b).mono l⟩
theorem Own.at {T : TypeId} {sz c i : Nat} {z : Int} {a : Option Addr} {rows : List (List U)} {r : List U} {ch : Chunk} (x : Own D T sz a c rows ch) (S : St D (ch :: C) h) (hz : z = (i : Int)) (hi : rows[i]? = some r) {K : Nat → Nat → Prop}
    (hK : ∀ b o vs, RdL D vs r → (∀ j, j < sz → hcell h ⟨b, o + z.toNat * sz + j, .none⟩ = vs[j]?) → K b o) : onPtr a K := by
  subst hz
  cases x with
  | nil => simp at hi
  | row b c arr rows v h1 h2 h3 h4 h5 =>
    have hs : r.length = sz := h3 r (List.mem_of_getElem? hi)
    refine hK b 0 _ (RdL.of_get (v i) fun j u hu => h5 i j r u hi hu) fun j hj => ?_
    rw [S.ld0, Int.toNat_natCast, Nat.zero_add]
    have hjr : j < r.length := by omega
    rw [h4 i j r r[j] hi (List.getElem?_eq_getElem hjr)]
    simp [hjr]
theorem RdL.single {vs : List Value} {us : List U} (hr : RdL D vs us) : ∀ v ∈ vs, single v = true := by
  induction hr with
  | nil => intro v h; simp at h
  | cons a _ ih =>
    intro v hv
    rcases List.mem_cons.1 hv with rfl | hv
    · cases a <;> rfl
    · exact ih v hv
/-- An element of an own row is written anew. -/
theorem Own.put {T : TypeId} {sz c i : Nat} {z : Int} {a : Option Addr} {rows : List (List U)} {r' : List U} {ch : Chunk} (x : Own D T sz a c rows ch) (S : St D (ch :: C) h) (hz : z = (i : Int)) (hi : i < rows.length) {vs : List Value} (hv : RdL D vs r') (hs : vs.length = sz) {K : Nat → Nat → Prop}
    (hK : ∀ b o, (∀ K' : Heap → Prop, (∀ ch' h', Own D T sz a c (rows.set i r') ch' → St D (ch' :: C) h' → K' h') → storeS b (o + z.toNat * sz) vs 0 h K') → K b o) : onPtr a K := by
  subst hz
  cases x with
  | nil => simp at hi
  | row b c arr rows v h1 h2 h3 h4 h5 =>
    refine hK b 0 fun K' hK' => ?_
    obtain ⟨l⟩ := arr
    have hsz : i * sz + sz ≤ l.length := by
      have h1' : l.length = c * sz := by simpa using h1
      rw [h1']
      have := Nat.mul_le_mul_right sz (show i + 1 ≤ c by omega)
      rwa [Nat.succ_mul] at this
    refine S.st0 (Nat.ble_eq_true_of_le (by rw [Nat.zero_add, Int.toNat_natCast, hs]; omega)) (List.all_eq_true.2 hv.single) fun h' S' => ?_
    refine hK' _ h' (.row b c _ _ (fun k j => if k = i then vs.getD j undef else v k j) ?_ (by simpa using h2) ?_ ?_ ?_) S'
    · simp only [List.size_toArray, splice_length]; simpa using h1
    · intro r hr
      rcases List.mem_or_eq_of_mem_set hr with hr | rfl
      · exact h3 r hr
      · rw [← hv.len, hs]
    · intro k j r u hk hu
      have hl0 : 0 + Int.toNat (i : Int) * sz + 0 + vs.length ≤ l.length := by rw [Nat.zero_add, Int.toNat_natCast, hs]; omega
      simp only [List.getElem?_toArray]
      rw [splice_get _ _ _ _ hl0, Nat.zero_add, Int.toNat_natCast, Nat.add_zero, hs]
      by_cases hki : k = i
      · subst hki
        rw [List.getElem?_set_self hi] at hk
        cases hk
        have hj : j < sz := by have := (List.getElem?_eq_some_iff.1 hu).1; rw [← hv.len, hs] at this; exact this
        rw [if_neg (by omega), if_pos (by omega), if_pos rfl, show k * sz + j - k * sz = j by omega]
        simp [hs, hj]
      · rw [List.getElem?_set_ne (Ne.symm hki)] at hk
        have hj : j < sz := by have := (List.getElem?_eq_some_iff.1 hu).1; rwa [h3 r (List.mem_of_getElem? hk)] at this
        have hd : k * sz + sz ≤ i * sz ∨ i * sz + sz ≤ k * sz := by
          rcases Nat.lt_or_gt_of_ne hki with hlt | hlt
          · have := Nat.mul_le_mul_right sz (show k + 1 ≤ i by omega); rw [Nat.succ_mul] at this; exact .inl this
          · have := Nat.mul_le_mul_right sz (show i + 1 ≤ k by omega); rw [Nat.succ_mul] at this; exact .inr this
        have := h4 k j r u hk hu
        simp only [List.getElem?_toArray] at this
        simp only [if_neg hki]
        rcases hd with hd | hd
        · rw [if_pos (by omega)]; exact this
        · rw [if_neg (by omega), if_neg (by omega)]; exact this
    · intro k j r u hk hu
      by_cases hki : k = i
      · subst hki
        rw [List.getElem?_set_self hi] at hk
        cases hk
        obtain ⟨w, hw, hr⟩ := hv.get hu
        simp only [if_pos rfl, List.getD_eq_getElem?_getD, hw, Option.getD_some]; exact hr
      · rw [List.getElem?_set_ne (Ne.symm hki)] at hk
        simp only [if_neg hki]; exact h5 k j r u hk hu
end Go.Proofs.Ytjcjlhpabjjflaa
