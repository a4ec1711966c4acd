/- The logic, part b: append and what one makes; slices as parts of slices. -/
import Derived.Test.YtjcjlhpabjjflaaNa
set_option linter.unusedVariables false
namespace Go.Proofs.Ytjcjlhpabjjflaa
open Go
variable {D D' : Fz} {C : List Chunk} {h h' : Heap} {P : Program}

theorem fl_get {α : Type} {enc : α → List Value} {sz : Nat} (he : ∀ x, (enc x).length = sz) : ∀ (xs : List α) (j : Nat) (v : Value), (xs.flatMap enc)[j]? = some v → ∃ i t x, xs[i]? = some x ∧ (enc x)[t]? = some v ∧ j = i * sz + t
  | [], j, v, h => by simp at h
  | x :: xs, j, v, h => by
    rw [List.flatMap_cons] at h
    by_cases hj : j < sz
    · rw [List.getElem?_append_left (by rw [he]; exact hj)] at h
      exact ⟨0, j, x, rfl, h, by omega⟩
    · rw [List.getElem?_append_right (by rw [he]; omega), he] at h
      obtain ⟨i, t, y, h1, h2, h3⟩ := fl_get he xs (j - sz) v h
      exact ⟨i + 1, t, y, by simpa using h1, h2, by rw [Nat.succ_mul]; omega⟩
theorem fl_len {α : Type} {enc : α → List Value} {sz : Nat} (he : ∀ x, (enc x).length = sz) (xs : List α) : (xs.flatMap enc).length = xs.length * sz := by
  induction xs with
  | nil => simp
  | cons x xs ih => rw [List.flatMap_cons, List.length_append, ih, he, List.length_cons, Nat.succ_mul]; omega
theorem fl_put {α : Type} {enc : α → List Value} {sz : Nat} (he : ∀ x, (enc x).length = sz) : ∀ (xs : List α) (i t : Nat) (x : α) (v : Value), xs[i]? = some x → (enc x)[t]? = some v → (xs.flatMap enc)[i * sz + t]? = some v
  | [], i, t, x, v, h, _ => by simp at h
  | y :: xs, i, t, x, v, h, hv => by
    rw [List.flatMap_cons]
    cases i with
    | zero =>
      simp at h; subst h
      have hj := (List.getElem?_eq_some_iff.1 hv).1
      rw [Nat.zero_mul, Nat.zero_add, List.getElem?_append_left hj]
      exact hv
    | succ i =>
      rw [List.getElem?_append_right (by rw [he]; rw [Nat.succ_mul]; omega)]
      rw [he, show (i + 1) * sz + t - sz = i * sz + t by rw [Nat.succ_mul]; omega]
      exact fl_put he xs i t x v (by simpa using h) hv

/-- Cells that read as rows of data. -/
def cellsOf (n sz : Nat) (v : Nat → Nat → Value) : List Value := (List.range n).flatMap fun i => (List.range sz).map (v i)
theorem cellsOf_len (n sz : Nat) (v : Nat → Nat → Value) : (cellsOf n sz v).length = n * sz := by
  rw [cellsOf, fl_len (sz := sz) (by simp)]; simp
theorem cellsOf_get {n sz : Nat} {v : Nat → Nat → Value} {j : Nat} {x : Value} (h : (cellsOf n sz v)[j]? = some x) : ∃ i t, i < n ∧ t < sz ∧ j = i * sz + t ∧ x = v i t := by
  obtain ⟨i, t, y, h1, h2, h3⟩ := fl_get (sz := sz) (by simp) _ _ _ h
  obtain ⟨h4, h5⟩ := List.getElem?_eq_some_iff.1 h1
  obtain ⟨h6, h7⟩ := List.getElem?_eq_some_iff.1 h2
  simp at h4 h5 h6 h7
  subst h5
  exact ⟨i, t, h4, h6, h3, h7.symm⟩
theorem cellsOf_put {n sz : Nat} (v : Nat → Nat → Value) {i t : Nat} (hi : i < n) (ht : t < sz) : (cellsOf n sz v)[i * sz + t]? = some (v i t) :=
  fl_put (sz := sz) (by simp) _ i t i _ (by simp [hi]) (by simp [ht])

/-- What a slice holds, as rows of data, in whatever block. -/
def Src (D : Fz) (h : Heap) (sz : Nat) (a : Option Addr) (rows : List (List U)) : Prop :=
  (∀ r ∈ rows, r.length = sz) ∧ (rows = [] ∨ ∃ (b o : Nat) (w : Nat → Nat → Value), a = some ⟨b, o, none⟩ ∧ ∀ i j r u, rows[i]? = some r → r[j]? = some u → hcell h ⟨b, o + i * sz + j, none⟩ = some (w i j) ∧ Rd D (w i j) u)
theorem Rd.src {a : Option Addr} {n c sz : Nat} {rows : List (List U)} (x : Rd D (.slice a n c) (.l rows)) (S : St D C h) (hs : ∀ r ∈ rows, r.length = sz) : Src D h sz a rows := by
  refine ⟨hs, ?_⟩
  cases x with
  | nil => exact .inl rfl
  | row b o c arr T f rows sz' v h1 h2 h3 h4 h5 =>
    cases rows with
    | nil => exact .inl rfl
    | cons r0 rows =>
      have e : sz' = sz := by rw [← h3 r0 (by simp), hs r0 (by simp)]
      subst e
      exact .inr ⟨b, o, v, rfl, fun i j r u hi hj => ⟨by rw [hcell_of (S.fz _ _ h1).1]; exact h4 i j r u hi hj, h5 i j r u hi hj⟩⟩
/-- A part of a slice of data. -/
theorem Rd.part {a : Option Addr} {n c sz : Nat} {rows : List (List U)} (x : Rd D (.slice a n c) (.l rows)) (hs : ∀ r ∈ rows, r.length = sz) {l r : Nat} (hl : l ≤ r) (hr : r ≤ n) : Rd D (.slice (slA a c l sz) (subN r l) (subN c l)) (.l ((rows.take r).drop l)) := by
  have hsub : ∀ p q, subN p q = p - q := fun p q => by
    unfold subN
    cases q with
    | zero => rfl
    | succ q => rfl
  rw [hsub, hsub]
  cases x with
  | nil =>
    have : r = 0 := by omega
    subst this
    simp only [List.take_nil, List.drop_nil, Nat.zero_sub]
    exact .nil _ _
  | row b o c arr T f rows sz' v h1 h2 h3 h4 h5 =>
    have hlen : ((rows.take r).drop l).length = r - l := by simp; omega
    by_cases hz : (rows.take r).drop l = []
    · rw [hz]; have : r - l = 0 := by rw [← hlen, hz]; rfl
      rw [this]; exact .nil _ _
    have hlt : l < r := by
      rcases Nat.lt_or_ge l r with h | h
      · exact h
      · exfalso; apply hz; apply List.eq_nil_of_length_eq_zero; omega
    have e : sz' = sz := by
      have h0 : 0 < rows.length := by omega
      rw [← h3 rows[0] (by simp), hs rows[0] (by simp)]
    subst e
    have ha : slA (some ⟨b, o, none⟩) c l sz' = some ⟨b, o + l * sz', none⟩ := by
      unfold slA
      cases l with
      | zero => simp
      | succ l =>
        show (if c = l + 1 then _ else _) = _
        rw [if_neg (by omega)]; rfl
    rw [ha, ← hlen]
    refine .row b (o + l * sz') (c - l) arr T f _ sz' (fun i j => v (i + l) j) h1 (by omega) (fun q hq => h3 q (List.mem_of_mem_take (List.mem_of_mem_drop hq))) (fun i j q u hi hj => ?_) (fun i j q u hi hj => ?_)
    · rw [List.getElem?_drop] at hi
      rw [List.getElem?_take] at hi
      have hi' : rows[l + i]? = some q := by split at hi; exact hi; cases hi
      rw [show o + l * sz' + i * sz' + j = o + (i + l) * sz' + j by rw [Nat.add_mul]; omega]
      rw [Nat.add_comm l i] at hi'
      exact h4 _ j q u hi' hj
    · rw [List.getElem?_drop] at hi
      rw [List.getElem?_take] at hi
      have hi' : rows[l + i]? = some q := by split at hi; exact hi; cases hi
      rw [Nat.add_comm l i] at hi'
      exact h5 _ j q u hi' hj
theorem Src.one {b sz : Nat} {T : TypeId} {f : Nat × Nat} {vs : List Value} {us : List U} {c : Chunk} (S : St D C h) (hc : ([(b, Obj.cells ⟨vs⟩ T f)] : Chunk) ∈ C) (hv : RdL D vs us) (hs : us.length = sz) : Src D h sz (some ⟨b, 0, none⟩) [us] := by
  refine ⟨by simp [hs], .inr ⟨b, 0, fun _ j => vs.getD j undef, rfl, fun i j r u hi hj => ?_⟩⟩
  have hb : h[b]? = some (Obj.cells ⟨vs⟩ T f) := S.own (b, _) (List.mem_flatten.2 ⟨_, hc, by simp⟩)
  cases i with
  | succ i => simp at hi
  | zero =>
    simp at hi; subst hi
    obtain ⟨w, hw, hr⟩ := hv.get hj
    rw [hcell_of hb, Nat.zero_mul, Nat.zero_add]
    simp [hw, hr]

theorem Own.toS {T : TypeId} {sz c : Nat} {a : Option Addr} {rows : List (List U)} {ch : Chunk} (x : Own D T sz a c rows ch) (S : St D (ch :: C) h) : ∃ v, OwnS 0 T sz h a rows.length c (cellsOf rows.length sz v) ∧ ch.map (·.1) = ownB a ∧
    (∀ r ∈ rows, r.length = sz) ∧ ∀ i j r u, rows[i]? = some r → r[j]? = some u → Rd D (v i j) u := by
  cases x with
  | nil => exact ⟨fun _ _ => undef, .nil _ _ _ _, rfl, by simp, by simp⟩
  | row b c arr rows v h1 h2 h3 h4 h5 =>
    refine ⟨v, .inr ⟨b, arr, rfl, Nat.zero_le _, S.get (List.mem_singleton_self _), h1, h2, cellsOf_len _ _ _, fun j x hx => ?_⟩, rfl, h3, h5⟩
    obtain ⟨i, t, hi, ht, rfl, rfl⟩ := cellsOf_get hx
    have hr : rows[i].length = sz := h3 _ (by simp)
    exact h4 i t rows[i] rows[i][t] (by simp [hi]) (by simp [hr, ht])
theorem Own.ofS {T : TypeId} {sz n c : Nat} {a : Option Addr} {rows : List (List U)} {v : Nat → Nat → Value} (x : OwnS 0 T sz h a n c (cellsOf n sz v)) (hn : n = rows.length) (hs : ∀ r ∈ rows, r.length = sz) (hr : ∀ i j r u, rows[i]? = some r → r[j]? = some u → Rd D (v i j) u) :
    ∃ ch, Own D T sz a c rows ch ∧ ch.map (·.1) = ownB a ∧ ∀ p ∈ ch, h[p.1]? = some p.2 := by
  subst hn
  rcases x with ⟨rfl, hn, rfl, -⟩ | ⟨b, l, rfl, -, h2, h3, h4, h5, h6⟩
  · have : rows = [] := List.eq_nil_of_length_eq_zero hn
    subst this
    exact ⟨[], .nil, rfl, by simp⟩
  · refine ⟨_, .row b c l rows v h3 h4 hs (fun i j r u hi hj => ?_) hr, rfl, by simpa using h2⟩
    have e1 := (List.getElem?_eq_some_iff.1 hi).1
    have e2 := (List.getElem?_eq_some_iff.1 hj).1
    rw [hs r (List.mem_of_getElem? hi)] at e2
    exact h6 _ _ (cellsOf_put v e1 e2)
theorem cellsOf_app {n m sz : Nat} {v w : Nat → Nat → Value} : cellsOf n sz v ++ cellsOf m sz w = cellsOf (n + m) sz fun i j => if i < n then v i j else w (i - n) j := by
  unfold cellsOf
  rw [List.range_add, List.flatMap_append]
  congr 1
  · rw [List.flatMap_def, List.flatMap_def]
    congr 1
    refine List.map_congr_left fun i hi => ?_
    simp at hi
    simp [hi]
  · rw [List.flatMap_def, List.flatMap_def, List.map_map]
    congr 1
    refine List.map_congr_left fun i hi => ?_
    simp
    intro a _ hlt; omega

/-- append: an own row, and rows from wherever. -/
theorem Own.app {T E : TypeId} {i : TypeInfo} {z : Value} {a a2 : Option Addr} {c m cx : Nat} {rows rows2 : List (List U)} {ch : Chunk} {K : Value → Heap → Prop} (own : Own D E i.size a c rows ch) (S : St D (ch :: C) h)
    (hu : P.underlying T = some (.slice E)) (hi : P.info? E = some i) (hz : i.zero = some z) (hzs : z.cells.size = i.size) (hb : i.bytes ≠ 0) (src : Src D h i.size a2 rows2) (hm : m = rows2.length) (hbd : (2 * (rows.length + rows2.length) + 512) * i.bytes ≤ 281474976710656)
    (hne : rows2 ≠ [])
    (hK : ∀ a' c' ch' h', Own D E i.size a' c' (rows ++ rows2) ch' → St D (ch' :: C) h' → K (.slice a' (rows ++ rows2).length c') h') :
    appK P #[T, T] T (.slice a rows.length c) (.slice a2 m cx) h K := by
  subst hm
  obtain ⟨v, os, hids, hs, hr⟩ := own.toS S
  obtain ⟨hs2, hsrc⟩ := src
  obtain ⟨b2, o2, w, rfl, hw⟩ := hsrc.resolve_left hne
  have hsingle : ∀ x ∈ cellsOf rows2.length i.size w, single x = true := fun x hx => by
    obtain ⟨j, hj⟩ := List.mem_iff_getElem?.1 hx
    obtain ⟨k, t, hk, ht, -, rfl⟩ := cellsOf_get hj
    have hr2 : rows2[k].length = i.size := hs2 _ (by simp)
    have := (hw k t rows2[k] rows2[k][t] (by simp [hk]) (by simp [hr2, ht])).2
    exact RdL.single (D := D) (vs := [w k t]) (us := [rows2[k][t]]) (.cons this .nil) _ (by simp)
  refine app_own (P := P) (T := T) (E := E) (B := 0) (new := cellsOf rows2.length i.size w) hu hi hz hzs hb os (Nat.zero_le _) (fun j x hx => ?_) (cellsOf_len _ _ _) hsingle hbd fun a' c' h' os' k' hmv => ?_
  · obtain ⟨k, t, hk, ht, rfl, rfl⟩ := cellsOf_get hx
    have hr2 : rows2[k].length = i.size := hs2 _ (by simp)
    have := (hw k t rows2[k] rows2[k][t] (by simp [hk]) (by simp [hr2, ht])).1
    rw [← this, Nat.add_assoc]
  · rw [cellsOf_app] at os'
    obtain ⟨ch', own', hids', hget⟩ := Own.ofS (rows := rows ++ rows2) os' (by simp) (fun r hr' => (List.mem_append.1 hr').elim (hs r) (hs2 r)) fun k j r u hk hj => by
      by_cases hkl : k < rows.length
      · rw [List.getElem?_append_left hkl] at hk
        simp only [if_pos hkl]; exact hr k j r u hk hj
      · rw [List.getElem?_append_right (by omega)] at hk
        simp only [if_neg hkl]; exact (hw _ j r u hk hj).2
    have hl : (rows ++ rows2).length = rows.length + rows2.length := by simp
    rw [← hl]
    refine hK a' c' ch' h' own' (S.upd (by rw [hids]; exact k') hget ?_ fun p hp => ?_)
    · rw [hids']; cases a' <;> simp [ownB]
    · have hp' : p.1 ∈ ownB a' := by rw [← hids']; exact List.mem_map.2 ⟨p, hp, rfl⟩
      rw [hids]
      cases a' with
      | none => simp [ownB] at hp'
      | some ad =>
        rcases os' with ⟨e, -⟩ | ⟨b, l, e, -⟩
        · cases e
        · cases e
          simp [ownB] at hp'; rw [hp']
          exact hmv b 0 rfl
/-- append of nothing. -/
theorem app_nil {T E : TypeId} {i : TypeInfo} {a a2 : Option Addr} {n c cx : Nat} {K : Value → Heap → Prop} (hu : P.underlying T = some (.slice E)) (hi : P.info? E = some i) (hn : n ≤ c) (hK : K (.slice a n c) h) : appK P #[T, T] T (.slice a n c) (.slice a2 0 cx) h K := by
  unfold appK
  show SWp P (underlying T >>= _) h K
  refine SWp_bind (SWp_underlying hu ?_)
  refine SWp_bind (SWp_sizeOf hi ?_)
  refine SWp_bind (SWp_bind (SWp_underlying hu ?_))
  refine SWp_bind ?_
  show SWp P (Builtin.lenOf (.slice a2 0 cx) >>= _) h K
  refine SWp_bind ?_
  show SWp P (if n + 0 ≤ c then _ else _) h K
  rw [if_pos (by omega)]
  have e : ∀ {K' : Array Value → Heap → Prop}, K' #[] h → SWp P (Builtin.firstCells i.size 0 (.slice a2 0 cx)) h K' := by
    intro K' hK'
    cases a2 with
    | none => exact hK'
    | some b =>
      show SWp P (loadCells b (0 * i.size)) h K'
      rw [Nat.zero_mul]; exact hK'
  refine SWp_bind (e ?_)
  cases a with
  | none => exact hK
  | some b => exact SWp_bind hK

/- ## Rows of one type -/
def elTyB (P : Program) (T E sz : Nat) : Bool :=
  (match P.underlying T with | some (.slice e) => Nat.beq e E | _ => false) &&
  match P.info? E with
  | some i => Nat.beq i.size sz && !Nat.beq i.bytes 0 && Nat.ble i.bytes 1000 && (match i.zero with | some z => Nat.beq z.cells.size sz | none => false)
  | none => false
structure ElTy (P : Program) (T E sz : Nat) : Prop where
  ty : P.underlying T = some (.slice E)
  inf : ∃ i z, P.info? E = some i ∧ i.size = sz ∧ i.bytes ≠ 0 ∧ i.bytes ≤ 1000 ∧ i.zero = some z ∧ z.cells.size = sz
theorem ElTy.of {T E sz : Nat} (h : elTyB P T E sz = true) : ElTy P T E sz := by
  unfold elTyB at h
  simp only [Bool.and_eq_true] at h
  obtain ⟨h1, h2⟩ := h
  refine ⟨?_, ?_⟩
  · cases hu : P.underlying T with
    | none => rw [hu] at h1; cases h1
    | some d =>
      rw [hu] at h1
      cases d <;> simp at h1
      rw [h1]
  · cases hi : P.info? E with
    | none => rw [hi] at h2; cases h2
    | some i =>
      rw [hi] at h2
      simp only [Bool.and_eq_true, Bool.not_eq_true'] at h2
      obtain ⟨⟨⟨h3, h4⟩, h5⟩, h6⟩ := h2
      cases hz : i.zero with
      | none => rw [hz] at h6; cases h6
      | some z =>
        rw [hz] at h6
        exact ⟨i, z, rfl, Nat.eq_of_beq_eq_true h3, (fun e => by rw [e] at h4; cases h4), Nat.le_of_ble_eq_true h5, hz, Nat.eq_of_beq_eq_true h6⟩
section
variable {α : Type} {e : α → List U} {T E sz : Nat}
theorem rows_len (he : ∀ x, (e x).length = sz) (l : List α) : ∀ r ∈ l.map e, r.length = sz := by
  intro r hr; obtain ⟨t, -, rfl⟩ := List.mem_map.1 hr; exact he t
theorem app_e {a a2 : Option Addr} {c m n cx : Nat} {r r2 : List α} {ch : Chunk} {K : Value → Heap → Prop} (ty : ElTy P T E sz) (own : Own D E sz a c (r.map e) ch) (S : St D (ch :: C) h) (src : Src D h sz a2 (r2.map e)) (hn : n = r.length) (hm : m = r2.length) (hb : r.length + r2.length ≤ 1000000)
    (hK : ∀ a' c' ch' h', Own D E sz a' c' ((r ++ r2).map e) ch' → St D (ch' :: C) h' → K (.slice a' (r ++ r2).length c') h') : appK P #[T, T] T (.slice a n c) (.slice a2 m cx) h K := by
  obtain ⟨hT, i, z, hi, hsz, hby, hby2, hz, hzs⟩ := ty
  subst hm hn
  by_cases hr2 : r2 = []
  · subst hr2
    refine app_nil (E := E) hT hi (by simpa using own.len) ?_
    simpa using hK a c ch h (by simpa using own) S
  subst hsz
  have hl : r.length = (r.map e).length := by simp
  rw [hl]
  have hbd : (2 * ((r.map e).length + (r2.map e).length) + 512) * i.bytes ≤ 281474976710656 := by
    simp only [List.length_map]
    have := Nat.mul_le_mul (show 2 * (r.length + r2.length) + 512 ≤ 2000512 by omega) hby2
    omega
  refine Own.app own S hT hi hz hzs hby src (by simp) hbd (by simpa using hr2) fun a' c' ch' h' own' S' => ?_
  rw [← List.map_append] at own'
  rw [← List.map_append, List.length_map]
  exact hK a' c' ch' h' own' S'
theorem src_take {a : Option Addr} {n c k : Nat} {l : List α} (hx : Rd D (.slice a n c) (.l (l.map e))) (S : St D C h) (he : ∀ x, (e x).length = sz) (hk : k ≤ l.length) : Src D h sz a ((l.take k).map e) := by
  have := Rd.part (l := 0) (r := k) hx (rows_len he l) (Nat.zero_le _) (by rw [hx.len.1]; simpa using hk)
  rw [List.drop_zero, ← List.map_take] at this
  exact this.src S (rows_len he _)
theorem src_drop {a : Option Addr} {n c k : Nat} {l : List α} (hx : Rd D (.slice a n c) (.l (l.map e))) (S : St D C h) (he : ∀ x, (e x).length = sz) (hk : k ≤ l.length) : Src D h sz (slA a c k sz) ((l.drop k).map e) := by
  have hl := hx.len.1
  have := Rd.part (l := k) (r := n) hx (rows_len he l) (by rw [hl]; simpa using hk) (Nat.le_refl _)
  rw [List.take_of_length_le (by rw [hl]; exact Nat.le_refl _), ← List.map_drop] at this
  exact this.src S (rows_len he _)
theorem src_all {a : Option Addr} {n c : Nat} {l : List α} (hx : Rd D (.slice a n c) (.l (l.map e))) (S : St D C h) (he : ∀ x, (e x).length = sz) : Src D h sz a (l.map e) := hx.src S (rows_len he l)
theorem src_one {b : Nat} {T' : TypeId} {f : Nat × Nat} {vs : List Value} {c0 : Chunk} {x : α} (S : St D (c0 :: [(b, Obj.cells ⟨vs⟩ T' f)] :: C) h) (he : ∀ x, (e x).length = sz) (hv : RdL D vs (e x)) : Src D h sz (some ⟨b, 0, none⟩) ([x].map e) :=
  Src.one (c := []) S (List.mem_cons_of_mem _ List.mem_cons_self) hv (he x)
end
end Go.Proofs.Ytjcjlhpabjjflaa
