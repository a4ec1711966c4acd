/- The engine, part g: what the named predicates come to on known memory: slices of records, own rows, maps. -/
import Derived.Test.YtjcjlhpabjjflaaEf
namespace Go.Proofs.Ytjcjlhpabjjflaa
open Go

/- ## Integers -/
def i64 (x : Int) : Prop := -9223372036854775808 ≤ x ∧ x ≤ 9223372036854775807
theorem w64 {x : Int} (h1 : -9223372036854775808 ≤ x) (h2 : x ≤ 9223372036854775807) : IntKind.wrap .i64 x = x := by
  have hb : (2 ^ IntKind.i64.bits : Int) = 18446744073709551616 := by decide
  have hb1 : (2 ^ (IntKind.i64.bits - 1) : Int) = 9223372036854775808 := by decide
  simp only [IntKind.wrap, IntKind.signed, hb, hb1, Bool.true_and, decide_eq_true_eq, ge_iff_le]
  split <;> omega
theorem w64n {n : Nat} (h : n < 9223372036854775807) : IntKind.wrap .i64 ((n : Int) + 1) = ((n + 1 : Nat) : Int) := by
  rw [w64 (by omega) (by omega)]; omega

/- ## Tests -/
theorem cIf {p : Prop} [Decidable p] {A B : Prop} (h1 : p → A) (h2 : ¬ p → B) : cond (decide p) A B := by
  by_cases h : p
  · rw [decide_eq_true h]; exact h1 h
  · rw [decide_eq_false h]; exact h2 h
theorem cEq {a b : Int} {A B : Prop} (h1 : a = b → A) (h2 : a ≠ b → B) : cond (a == b) A B := by
  by_cases h : a = b
  · rw [beq_iff_eq.2 h]; exact h1 h
  · rw [beq_eq_false_iff_ne.2 h]; exact h2 h
theorem cNe {a b : Int} {A B : Prop} (h1 : a ≠ b → A) (h2 : a = b → B) : cond (a != b) A B := by
  by_cases h : a = b
  · have : (a != b) = false := by simp [h]
    rw [this]; exact h2 h
  · have : (a != b) = true := by simpa using h
    rw [this]; exact h1 h
theorem cNot {b : Bool} {A B : Prop} (h : cond b B A) : cond (!b) A B := by cases b <;> exact h
theorem cB {b : Bool} {A B : Prop} (h1 : b = true → A) (h2 : b = false → B) : cond b A B := by cases b; exact h2 rfl; exact h1 rfl

/- ## What stays of a heap -/
structure KB (F : List Nat) (h h' : Heap) : Prop where
  size : h.size ≤ h'.size
  blk : ∀ b, b < h.size → b ∉ F → h'[b]? = h[b]?
abbrev Keep (h h' : Heap) : Prop := KB [] h h'
theorem KB.refl (F : List Nat) (h : Heap) : KB F h h := ⟨Nat.le_refl _, fun _ _ _ => rfl⟩
theorem KB.trans {F : List Nat} {a b c : Heap} (h : KB F a b) (k : KB F b c) : KB F a c :=
  ⟨Nat.le_trans h.size k.size, fun x hx hf => (k.blk x (Nat.lt_of_lt_of_le hx h.size) hf).trans (h.blk x hx hf)⟩
theorem KB.mono {F G : List Nat} {a b : Heap} (h : KB F a b) (hs : ∀ x, x ∈ F → x < a.size → x ∈ G) : KB G a b :=
  ⟨h.size, fun x hx hf => h.blk x hx fun hm => hf (hs x hm hx)⟩
theorem KB.keep {F : List Nat} {a b : Heap} (h : KB F a b) (hs : ∀ x, x ∈ F → a.size ≤ x) : Keep a b :=
  h.mono fun x hx hl => absurd (hs x hx) (by omega)
theorem KB.of_keep {F : List Nat} {a b : Heap} (h : Keep a b) : KB F a b := ⟨h.size, fun x hx _ => h.blk x hx (by simp)⟩
theorem KB.push (F : List Nat) (h : Heap) (o : Obj) : KB F h (h.push o) :=
  ⟨by simp, fun b hb _ => by rw [Array.getElem?_push, if_neg (by omega)]⟩
theorem push_get (h : Heap) (o : Obj) : (h.push o)[h.size]? = some o := by simp
theorem hset_size (h : Heap) (a : Addr) (v : Value) : (hset h a v).size = h.size := by simp [hset]
theorem hset_get_ne (h : Heap) (a : Addr) (v : Value) {b : Nat} (hb : b ≠ a.block) : (hset h a v)[b]? = h[b]? := by
  simp only [hset, Array.getElem?_modify]
  rw [if_neg (by omega)]
theorem hset_get (h : Heap) {b o : Nat} (v : Value) {c : Array Value} {e : TypeId} {f : Nat × Nat} (hb : h[b]? = some (.cells c e f)) : (hset h ⟨b, o, none⟩ v)[b]? = some (.cells (c.setIfInBounds o v) e f) := by
  simp only [hset, Array.getElem?_modify]
  simp [hb]
theorem KB.hset {F : List Nat} {h : Heap} {a : Addr} {v : Value} (hb : a.block ∈ F) : KB F h (hset h a v) :=
  ⟨by rw [hset_size]; exact Nat.le_refl _, fun b _ hf => hset_get_ne h a v fun e => hf (e ▸ hb)⟩
theorem lt_of_get {h : Heap} {b : Nat} {o : Obj} (hb : h[b]? = some o) : b < h.size := (Array.getElem?_eq_some_iff.1 hb).1
theorem KB.get {F : List Nat} {h h' : Heap} (k : KB F h h') {b : Nat} {o : Obj} (hb : h[b]? = some o) (hf : b ∉ F) : h'[b]? = some o := by
  rw [k.blk b (lt_of_get hb) hf]; exact hb
theorem hcell_blk {h h' : Heap} {b : Nat} (hb : h'[b]? = h[b]?) (o : Nat) : hcell h' ⟨b, o, none⟩ = hcell h ⟨b, o, none⟩ := by unfold hcell; simp only [hb]
theorem hcell_lt {h : Heap} {b o : Nat} {v : Value} (hv : hcell h ⟨b, o, none⟩ = some v) : b < h.size := by
  unfold hcell at hv
  cases hb : h[b]? with
  | none => simp [hb] at hv
  | some x => exact lt_of_get hb
theorem KB.cell {F : List Nat} {h h' : Heap} (k : KB F h h') {b o : Nat} {v : Value} (hv : hcell h ⟨b, o, none⟩ = some v) (hf : b ∉ F) : hcell h' ⟨b, o, none⟩ = some v := by
  rw [hcell_blk (k.blk b (hcell_lt hv) hf)]; exact hv
theorem hcell_of {h : Heap} {b : Nat} {c : Array Value} {e : TypeId} {f : Nat × Nat} (hb : h[b]? = some (.cells c e f)) (o : Nat) : hcell h ⟨b, o, none⟩ = c[o]? := by
  unfold hcell; simp [hb]
theorem hfroz_of {h : Heap} {b : Nat} {c : Array Value} {e : TypeId} (hb : h[b]? = some (.cells c e (0, 0))) (o : Nat) : hfroz h ⟨b, o, none⟩ = false := by
  unfold hfroz; simp [hb]

/- ## Blocks -/
theorem newB_intro {h : Heap} {o : Obj} {K : Nat → Heap → Prop} (hK : ∀ h1 : Heap, h1[h.size]? = some o → KB [] h h1 → h1.size = h.size + 1 → K h.size h1) : newB h o K :=
  hK _ (push_get h o) (.push _ h o) (by simp)

/-- A store into a block that is known whole. -/
theorem stK_blk {h : Heap} {b o : Nat} {v : Value} {K : Heap → Prop} {c : Array Value} {e : TypeId} (hb : h[b]? = some (.cells c e (0, 0))) (ho : o < c.size) (hv : single v = true)
    (hK : ∀ h' : Heap, h'[b]? = some (.cells (c.setIfInBounds o v) e (0, 0)) → KB [b] h h' → h'.size = h.size → K h') : stK h ⟨b, o, none⟩ v K :=
  ⟨hv, ⟨c[o], by rw [hcell_of hb]; simp [ho]⟩, hfroz_of hb o, hK _ (hset_get h v hb) (.hset (by simp)) (hset_size _ _ _)⟩

theorem storeS_blk {b : Nat} {e : TypeId} : ∀ {vs : List Value} {o i : Nat} {h : Heap} {K : Heap → Prop} {l : List Value}, h[b]? = some (.cells l.toArray e (0, 0)) → o + i + vs.length ≤ l.length → (∀ v ∈ vs, single v = true) →
    (∀ h' : Heap, h'[b]? = some (.cells (splice l (o + i) vs).toArray e (0, 0)) → KB [b] h h' → h'.size = h.size → K h') → storeS b o vs i h K
  | [], o, i, h, K, l, hb, _, _, hK => hK h (by rw [splice_nil]; exact hb) (.refl _ _) rfl
  | v :: vs, o, i, h, K, l, hb, hl, hv, hK => by
    simp only [List.length_cons] at hl
    show stK h ⟨b, addO o i, none⟩ v _
    rw [addO_eq]
    refine stK_blk hb (by simp; omega) (hv v (by simp)) fun h1 h1b k1 s1 => ?_
    refine storeS_blk (e := e) (l := l.set (o + i) v) (by rw [h1b]; simp) (by simp; omega) (fun u hu => hv u (by simp [hu])) fun h2 h2b k2 s2 => ?_
    refine hK h2 ?_ (k1.trans k2) (s2.trans s1)
    rw [h2b, splice_cons _ _ _ _ (by omega)]
    rfl

/- ## Slices of records -/
/-- The slice reads as these records; 'enc' says which cells a record has, 'sz' how many. -/
def SlOf {α : Type} (enc : α → List Value) (sz : Nat) (h : Heap) (a : Option Addr) (n c : Nat) (xs : List α) : Prop :=
  xs.length = n ∧ n ≤ c ∧ ∀ i x, xs[i]? = some x → ∃ b o, a = some ⟨b, o, none⟩ ∧ ∀ j v, (enc x)[j]? = some v → hcell h ⟨b, o + i * sz + j, none⟩ = some v
theorem SlOf.nil {α : Type} (enc : α → List Value) (sz : Nat) (h : Heap) (c : Nat) (a : Option Addr) : SlOf enc sz h a 0 c [] := ⟨rfl, Nat.zero_le _, fun i x hx => by simp at hx⟩
theorem SlOf.keep {α : Type} {enc : α → List Value} {sz : Nat} {h h' : Heap} {a : Option Addr} {n c : Nat} {xs : List α} (s : SlOf enc sz h a n c xs) (k : Keep h h') : SlOf enc sz h' a n c xs :=
  ⟨s.1, s.2.1, fun i x hx => let ⟨b, o, ha, hc⟩ := s.2.2 i x hx; ⟨b, o, ha, fun j v hv => k.cell (hc j v hv) (by simp)⟩⟩
theorem SlOf.kb {α : Type} {enc : α → List Value} {sz : Nat} {h h' : Heap} {a : Option Addr} {n c : Nat} {xs : List α} {F : List Nat} (s : SlOf enc sz h a n c xs) (k : KB F h h') (hd : ∀ b o, a = some ⟨b, o, none⟩ → b ∉ F) : SlOf enc sz h' a n c xs :=
  ⟨s.1, s.2.1, fun i x hx => let ⟨b, o, ha, hc⟩ := s.2.2 i x hx; ⟨b, o, ha, fun j v hv => k.cell (hc j v hv) (hd b o ha)⟩⟩
/-- An element's cells. -/
theorem SlOf.el {α : Type} {enc : α → List Value} {sz : Nat} {h : Heap} {a : Option Addr} {n c : Nat} {xs : List α} (s : SlOf enc sz h a n c xs) {z : Int} {i : Nat} (hz : z = i) (hi : i < xs.length) {K : Nat → Nat → Prop}
    (hK : ∀ b o, (∀ j v, (enc xs[i])[j]? = some v → hcell h ⟨b, o + z.toNat * sz + j, none⟩ = some v) → K b o) : onPtr a K := by
  obtain ⟨b, o, rfl, hc⟩ := s.2.2 i xs[i] (by simp [hi])
  subst hz
  exact hK b o (by simpa using hc)

/-- A slice at the head of a row of the call's own, from block B on (or nil). -/
def OwnS (B : Nat) (e : TypeId) (sz : Nat) (h : Heap) (a : Option Addr) (n c : Nat) (cs : List Value) : Prop :=
  (a = none ∧ n = 0 ∧ c = 0 ∧ cs = []) ∨ ∃ (b : Nat) (l : Array Value), a = some ⟨b, 0, none⟩ ∧ B ≤ b ∧ h[b]? = some (.cells l e (0, 0)) ∧ l.size = c * sz ∧ n ≤ c ∧ cs.length = n * sz ∧ ∀ (j : Nat) (v : Value), cs[j]? = some v → l[j]? = some v
theorem OwnS.nil (B : Nat) (e : TypeId) (sz : Nat) (h : Heap) : OwnS B e sz h none 0 0 [] := .inl ⟨rfl, rfl, rfl, rfl⟩
theorem OwnS.kb {B : Nat} {e : TypeId} {sz : Nat} {h h' : Heap} {a : Option Addr} {n c : Nat} {cs : List Value} {F : List Nat} (s : OwnS B e sz h a n c cs) (k : KB F h h') (hd : ∀ b o, a = some ⟨b, o, none⟩ → b ∉ F) : OwnS B e sz h' a n c cs := by
  rcases s with s | ⟨b, l, rfl, h1, h2, h3⟩
  · exact .inl s
  · exact .inr ⟨b, l, rfl, h1, k.get h2 (hd b 0 rfl), h3⟩
theorem OwnS.keep {B : Nat} {e : TypeId} {sz : Nat} {h h' : Heap} {a : Option Addr} {n c : Nat} {cs : List Value} (s : OwnS B e sz h a n c cs) (k : Keep h h') : OwnS B e sz h' a n c cs :=
  s.kb k fun _ _ _ => by simp
theorem OwnS.slOf {α : Type} {enc : α → List Value} {B : Nat} {e : TypeId} {sz : Nat} {h : Heap} {a : Option Addr} {n c : Nat} {xs : List α} (he : ∀ x, (enc x).length = sz) (s : OwnS B e sz h a n c (xs.flatMap enc)) (hn : xs.length = n) : SlOf enc sz h a n c xs := by
  rcases s with ⟨rfl, rfl, rfl, hx⟩ | ⟨b, l, rfl, h1, h2, h3, h4, h5, h6⟩
  · have : xs = [] := List.eq_nil_of_length_eq_zero hn
    subst this; exact .nil _ _ _ _ _
  · refine ⟨hn, h4, fun i x hx => ⟨b, 0, rfl, fun j v hv => ?_⟩⟩
    rw [hcell_of h2]
    refine h6 _ v ?_
    rw [Nat.zero_add]
    have key : ∀ (ys : List α) (i : Nat), ys[i]? = some x → (ys.flatMap enc)[i * sz + j]? = some v := by
      intro ys
      induction ys with
      | nil => intro i h; simp at h
      | cons y ys ih =>
        intro i hh
        rw [List.flatMap_cons]
        cases i with
        | zero =>
          simp at hh; subst hh
          have hj := (List.getElem?_eq_some_iff.1 hv).1
          rw [Nat.zero_mul, Nat.zero_add, List.getElem?_append_left hj]
          exact hv
        | succ i =>
          rw [List.getElem?_append_right (by rw [he]; rw [Nat.succ_mul]; omega)]
          rw [he, show (i + 1) * sz + j - sz = i * sz + j by rw [Nat.succ_mul]; omega]
          exact ih i (by simpa using hh)
    exact key xs i hx


/- ## Runs by parts -/
section
variable {P : Program}
theorem SWp_bind {α β : Type} {s : Sem α} {f : α → Sem β} {h : Heap} {K : β → Heap → Prop} : SWp P s h (fun a h' => SWp P (f a) h' K) → SWp P (s >>= f) h K := SWp.bind
theorem SWp_underlying {T : TypeId} {d : TypeDesc} (hd : P.underlying T = some d) {h : Heap} {K : TypeDesc → Heap → Prop} (hK : K d h) : SWp P (underlying T) h K := by
  show SWp P (match P.underlying T with | some d => pure d | none => stuck "no such type") h K
  rw [hd]; exact hK
theorem SWp_typeInfo {T : TypeId} {i : TypeInfo} (hi : P.info? T = some i) {h : Heap} {K : TypeInfo → Heap → Prop} (hK : K i h) : SWp P (typeInfo T) h K := by
  show SWp P (match P.info? T with | some i => pure i | none => stuck "no such type") h K
  rw [hi]; exact hK
theorem SWp_sizeOf {T : TypeId} {i : TypeInfo} (hi : P.info? T = some i) {h : Heap} {K : Nat → Heap → Prop} (hK : K i.size h) : SWp P (sizeOf T) h K :=
  SWp_bind (SWp_typeInfo hi hK)
theorem SWp_zero {T : TypeId} {i : TypeInfo} {z : Value} (hi : P.info? T = some i) (hz : i.zero = some z) {h : Heap} {K : Value → Heap → Prop} (hK : K z h) : SWp P (zeroValue T) h K := by
  refine SWp_bind (SWp_typeInfo hi ?_)
  rw [hz]; exact hK
theorem SWp_loadCells {b o : Nat} {h : Heap} : ∀ {vs : List Value} {i : Nat} {acc : Array Value} {K : Array Value → Heap → Prop}, (∀ j v, vs[j]? = some v → hcell h ⟨b, o + (i + j), none⟩ = some v) → K (acc ++ vs.toArray) h →
    SWp P (loadCellsFrom ⟨b, o, none⟩ i vs.length acc) h K
  | [], i, acc, K, _, hK => by show K acc h; simpa using hK
  | v :: vs, i, acc, K, hc, hK => by
    show SWp P (load ((⟨b, o, none⟩ : Addr).add i) >>= fun v => loadCellsFrom ⟨b, o, none⟩ (i + 1) vs.length (acc.push v)) h K
    refine SWp_bind ⟨v, ?_, ?_⟩
    · rw [add_plain]; simpa using hc 0 v rfl
    · refine SWp_loadCells (fun j u hu => ?_) (by simpa using hK)
      have := hc (j + 1) u (by simpa using hu)
      rw [show i + 1 + j = i + (j + 1) by omega]; exact this
theorem SWp_storeCells_blk {b : Nat} {e : TypeId} {vs l : List Value} {o : Nat} {h : Heap} {K : Unit → Heap → Prop} (hb : h[b]? = some (.cells l.toArray e (0, 0))) (hl : o + vs.length ≤ l.length) (hv : ∀ v ∈ vs, single v = true)
    (hK : ∀ h' : Heap, h'[b]? = some (.cells (splice l o vs).toArray e (0, 0)) → KB [b] h h' → h'.size = h.size → K () h') : SWp P (storeCells ⟨b, o, none⟩ vs) h K :=
  storeCells_spec (K := K ()) (storeS_blk (i := 0) hb (by omega) hv (by simpa using hK))

theorem SWp_askRoom {n : Nat} {h : Heap} {K : Unit → Heap → Prop} (hK : K () h) : SWp P (askRoom n) h K := by
  unfold askRoom
  split
  · exact hK
  · exact hK

def ownB (a : Option Addr) : List Nat :=
  match a with
  | some x => [x.block]
  | none => []

theorem splice_get : ∀ (l : List Value) (o : Nat) (vs : List Value) (j : Nat), o + vs.length ≤ l.length → (splice l o vs)[j]? = if j < o then l[j]? else if j < o + vs.length then vs[j - o]? else l[j]?
  | l, o, [], j, _ => by
    rw [splice_nil]
    by_cases h1 : j < o
    · rw [if_pos h1]
    · rw [if_neg h1, if_neg (by simp only [List.length_nil]; omega)]
  | [], o, v :: vs, j, h => by simp at h
  | x :: l, 0, v :: vs, 0, _ => by simp [splice]
  | x :: l, 0, v :: vs, j + 1, h => by
    simp only [splice, List.getElem?_cons_succ, List.length_cons] at *
    rw [splice_get l 0 vs j (by omega)]
    simp only [Nat.not_lt_zero, if_false, Nat.zero_add, Nat.sub_zero]
    by_cases hj : j < vs.length
    · rw [if_pos hj, if_pos (by omega)]; simp
    · rw [if_neg hj, if_neg (by omega)]
  | x :: l, o + 1, v :: vs, 0, _ => by simp [splice]
  | x :: l, o + 1, v :: vs, j + 1, h => by
    have hh : o + (v :: vs).length ≤ l.length := by simp only [List.length_cons] at *; omega
    simp only [splice, List.getElem?_cons_succ]
    rw [splice_get l o (v :: vs) j hh]
    by_cases h1 : j < o
    · rw [if_pos h1, if_pos (show j + 1 < o + 1 by omega)]
    · rw [if_neg h1, if_neg (show ¬ j + 1 < o + 1 by omega)]
      by_cases h2 : j < o + (v :: vs).length
      · rw [if_pos h2, if_pos (by omega), show j + 1 - (o + 1) = j - o by omega]
      · rw [if_neg h2, if_neg (by omega)]

theorem growBy_le {n : Nat} : ∀ (r c : Nat), Builtin.growBy n r c ≤ c ∨ Builtin.growBy n r c ≤ n + (n + 768) / 4
  | 0, c => .inl (Nat.le_refl _)
  | r + 1, c => by
    unfold Builtin.growBy
    split
    · exact .inl (Nat.le_refl _)
    · rename_i h
      rcases growBy_le (n := n) r (c + (c + 768) / 4) with h1 | h1
      · exact .inr (by omega)
      · exact .inr h1
theorem nextslicecap_le {n c : Nat} (h : c < n) : Builtin.nextslicecap n c ≤ 2 * n + 512 := by
  unfold Builtin.nextslicecap
  split
  · omega
  · split
    · omega
    · rcases growBy_le (n := n) 4 c with h1 | h1 <;> omega

/-- append onto a slice of the call's own. -/
theorem app_own {B : Nat} {T E : TypeId} {i : TypeInfo} {z : Value} {h : Heap} {a : Option Addr} {n c m cx b2 o2 : Nat} {cs new : List Value} {K : Value → Heap → Prop}
    (hu : P.underlying T = some (.slice E)) (hi : P.info? E = some i) (hz : i.zero = some z) (hzs : z.cells.size = i.size) (hb : i.bytes ≠ 0) (hown : OwnS B E i.size h a n c cs) (hB : B ≤ h.size)
    (hnew : ∀ j v, new[j]? = some v → hcell h ⟨b2, o2 + j, none⟩ = some v) (hlen : new.length = m * i.size) (hs : ∀ v ∈ new, single v = true) (hbd : (2 * (n + m) + 512) * i.bytes ≤ 281474976710656)
    (hK : ∀ (a' : Option Addr) (c' : Nat) (h' : Heap), OwnS B E i.size h' a' (n + m) c' (cs ++ new) → KB (ownB a) h h' → (∀ b o, a' = some ⟨b, o, none⟩ → b ∈ ownB a ∨ h.size ≤ b) → K (.slice a' (n + m) c') h') :
    appK P #[T, T] T (.slice a n c) (.slice (some ⟨b2, o2, none⟩) m cx) h K := by
  unfold appK
  have hfc : ∀ {K' : Array Value → Heap → Prop}, K' new.toArray h → SWp P (Builtin.firstCells i.size m (.slice (some ⟨b2, o2, none⟩) m cx)) h K' := by
    intro K' hK'
    show SWp P (loadCells ⟨b2, o2, none⟩ (m * i.size)) h K'
    rw [← hlen]
    exact SWp_loadCells (fun j v hv => by simpa using hnew j v hv) (by simpa using hK')
  show SWp P (underlying T >>= _) h K
  refine SWp_bind (SWp_underlying hu ?_)
  refine SWp_bind (SWp_sizeOf hi ?_)
  refine SWp_bind (SWp_bind (SWp_underlying hu ?_))
  refine SWp_bind ?_
  show SWp P (Builtin.lenOf (.slice (some ⟨b2, o2, none⟩) m cx) >>= _) h K
  refine SWp_bind ?_
  show SWp P (if n + m ≤ c then _ else _) h K
  by_cases hcap : n + m ≤ c
  · rw [if_pos hcap]
    refine SWp_bind (hfc ?_)
    rcases hown with ⟨rfl, rfl, rfl, rfl⟩ | ⟨b, l, rfl, h1, h2, h3, h4, h5, h6⟩
    · have hm : m = 0 := by omega
      subst hm
      have hn0 : new = [] := List.eq_nil_of_length_eq_zero (by simpa using hlen)
      subst hn0
      exact hK none 0 h (.nil _ _ _ _) (.refl _ _) fun b o hbo => by cases hbo
    · show SWp P (storeCells ((⟨b, 0, none⟩ : Addr).add (n * i.size)) new.toArray.toList >>= _) h K
      rw [add_plain, Nat.zero_add]
      have hsz : n * i.size + new.length ≤ l.toList.length := by
        rw [hlen, ← Nat.add_mul, Array.length_toList, h3]; exact Nat.mul_le_mul_right _ hcap
      refine SWp_bind (SWp_storeCells_blk (l := l.toList) (by simpa using h2) (by simpa using hsz) hs fun h' h1b k1 s1 => ?_)
      refine hK (some ⟨b, 0, none⟩) c h' (.inr ⟨b, _, rfl, h1, h1b, ?_, hcap, ?_, ?_⟩) k1 fun b' o' hbo => .inl (by cases hbo; simp [ownB])
      · simp [splice_length, h3]
      · simp [h5, hlen, Nat.add_mul]
      · intro j v hv
        simp only [List.getElem?_toArray]
        rw [splice_get _ _ _ _ hsz]
        by_cases hj : j < n * i.size
        · rw [if_pos hj]
          rw [List.getElem?_append_left (by omega)] at hv
          simpa using h6 j v hv
        · rw [if_neg hj]
          rw [List.getElem?_append_right (by omega), h5] at hv
          rw [if_pos (by have := (List.getElem?_eq_some_iff.1 hv).1; omega)]
          exact hv
  · rw [if_neg hcap]
    refine SWp_bind (SWp_typeInfo hi ?_)
    rw [if_neg (by rintro ⟨-, h1 | h1⟩; exact absurd h1 (by simp); exact hb h1)]
    refine SWp_bind ?_
    refine SWp_bind (SWp_typeInfo hi ?_)
    have hcap2 : ¬ Builtin.nextslicecap (n + m) c * i.bytes > 2 ^ 48 := by
      have h1 := nextslicecap_le (n := n + m) (c := c) (by omega)
      have h2 := Nat.mul_le_mul_right i.bytes h1
      omega
    rw [if_neg hcap2]
    refine SWp_bind ?_
    refine ⟨fun hf => (by cases hf), fun _ t => ?_⟩
    have hge : n + m ≤ (Question.appendCap (n + m) c E).cut t := by simp [Question.cut]
    generalize (Question.appendCap (n + m) c E).cut t = c' at hge ⊢
    refine SWp_bind (SWp_typeInfo hi ?_)
    refine SWp_bind (SWp_askRoom ?_)
    have hold : ∀ {K' : Array Value → Heap → Prop}, K' cs.toArray h → SWp P (Builtin.firstCells i.size n (.slice a n c)) h K' := by
      intro K' hK'
      rcases hown with ⟨rfl, rfl, rfl, rfl⟩ | ⟨b, l, rfl, h1, h2, h3, h4, h5, h6⟩
      · exact hK'
      · show SWp P (loadCells ⟨b, 0, none⟩ (n * i.size)) h K'
        rw [← h5]
        exact SWp_loadCells (fun j v hv => by rw [hcell_of h2, Nat.zero_add, Nat.zero_add]; exact h6 j v hv) (by simpa using hK')
    refine SWp_bind (hold ?_)
    refine SWp_bind ?_
    show SWp P (Builtin.firstCells i.size m (.slice (some ⟨b2, o2, none⟩) m cx)) h _
    refine hfc ?_
    refine SWp_bind (SWp_zero hi hz ?_)
    have hcn : cs.length = n * i.size := by
      rcases hown with ⟨rfl, rfl, rfl, rfl⟩ | ⟨b, l, rfl, h1, h2, h3, h4, h5, h6⟩
      · simp
      · exact h5
    refine hK (some ⟨h.size, 0, none⟩) c' (h.push (.cells (cs.toArray ++ new.toArray ++ Builtin.zeroCells z.cells (c' - (n + m))) E)) (.inr ⟨h.size, _, rfl, hB, push_get _ _, ?_, hge, ?_, ?_⟩) (.push _ _ _) fun b o hbo => .inr (by cases hbo; exact Nat.le_refl _)
    · simp only [Array.size_append, List.size_toArray, Builtin.zeroCells, Array.size_map, Array.size_range, hcn, hlen, hzs]
      rw [← Nat.add_mul, ← Nat.add_mul, show n + m + (c' - (n + m)) = c' by omega]
    · simp [hcn, hlen, Nat.add_mul]
    · intro j v hv
      have hj := (List.getElem?_eq_some_iff.1 hv).1
      rw [Array.getElem?_append_left (by simpa using hj)]
      simpa using hv
end
end Go.Proofs.Ytjcjlhpabjjflaa
