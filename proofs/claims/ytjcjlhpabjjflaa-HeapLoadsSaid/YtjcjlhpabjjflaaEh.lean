/- The engine, part h: maps with integer keys: looking up, storing, deleting, ranging. -/
import Derived.Test.YtjcjlhpabjjflaaEg
namespace Go.Proofs.Ytjcjlhpabjjflaa
open Go

/- ## Association lists -/
abbrev KV := List (Int × Value)
def kvGet (m : KV) (k : Int) : Option Value :=
  match m with
  | [] => none
  | p :: m => if p.1 = k then some p.2 else kvGet m k
def kvSet (m : KV) (k : Int) (v : Value) : KV :=
  match m with
  | [] => [(k, v)]
  | p :: m => if p.1 = k then (k, v) :: m else p :: kvSet m k v
def kvDel (m : KV) (k : Int) : KV :=
  match m with
  | [] => []
  | p :: m => if p.1 = k then m else p :: kvDel m k
def kvIdx (m : KV) (k : Int) (i : Nat) : Option (Nat × Value) :=
  match m with
  | [] => none
  | p :: m => if p.1 = k then some (i, p.2) else kvIdx m k (i + 1)

theorem kvIdx_get (m : KV) (k : Int) : ∀ i, (kvIdx m k i).map (·.2) = kvGet m k := by
  induction m with
  | nil => intro i; rfl
  | cons p m ih => intro i; simp only [kvIdx, kvGet]; split; rfl; exact ih _

/-- The entries are these, in this order. -/
def entOf (es : List MapEntry) (m : KV) : Prop := es.map (fun e => (e.key, e.val)) = m.map fun p => (Value.int .i64 p.1, p.2)

theorem findNow_kv (k : Int) : ∀ (es : List MapEntry) (m : KV) (i : Nat), entOf es m → Instr.findNow (.int .i64) (.int .i64 k) es i = some (kvIdx m k i)
  | [], m, i, h => by
    have : m = [] := by unfold entOf at h; cases m <;> simp at h ⊢
    subst this; rfl
  | e :: es, m, i, h => by
    cases m with
    | nil => simp [entOf] at h
    | cons p m =>
      simp only [entOf, List.map_cons, List.cons.injEq, Prod.mk.injEq] at h
      obtain ⟨⟨h1, h2⟩, h3⟩ := h
      have ih := findNow_kv k es m (i + 1) h3
      unfold Instr.findNow
      rw [h1]
      simp only [Instr.sameNow, if_true, kvIdx]
      by_cases hk : p.1 = k
      · have : (k == p.1) = true := by simp [hk]
        rw [this]; simp only [hk, if_true, h2]
      · have : (k == p.1) = false := by simpa using Ne.symm hk
        rw [this]; simp only [hk, if_false]; exact ih

/-- The map's block reads as this list. -/
def MapI (h : Heap) (b : Nat) (m : KV) : Prop :=
  ∃ es clk, h[b]? = some (.map es clk) ∧ entOf es.toList m ∧ (m.map (·.1)).Nodup ∧ (es.toList.map (·.born)).Nodup ∧ ∀ e ∈ es.toList, e.born < clk
/-- A map's value reads as this list (nil: as none). -/
def MapO (h : Heap) (r : Option Nat) (m : KV) : Prop :=
  match r with
  | none => m = []
  | some b => MapI h b m
theorem MapI.kb {h h' : Heap} {b : Nat} {m : KV} {F : List Nat} (s : MapI h b m) (k : KB F h h') (hf : b ∉ F) : MapI h' b m :=
  let ⟨es, clk, hb, r⟩ := s; ⟨es, clk, k.get hb hf, r⟩
theorem MapI.keep {h h' : Heap} {b : Nat} {m : KV} (s : MapI h b m) (k : Keep h h') : MapI h' b m := s.kb k (by simp)
theorem MapI.lt {h : Heap} {b : Nat} {m : KV} (s : MapI h b m) : b < h.size := let ⟨_, _, hb, _⟩ := s; lt_of_get hb
theorem MapO.keep {h h' : Heap} {r : Option Nat} {m : KV} (s : MapO h r m) (k : Keep h h') : MapO h' r m := by
  cases r with
  | none => exact s
  | some b => exact MapI.keep s k
theorem MapI.made {h : Heap} {b : Nat} (hb : h[b]? = some (.map #[] 0)) : MapI h b [] := ⟨#[], 0, hb, rfl, .nil, .nil, fun e he => by simp at he⟩
theorem MapI.nodup {h : Heap} {b : Nat} {m : KV} (s : MapI h b m) : (m.map (·.1)).Nodup := let ⟨_, _, _, _, hn, _⟩ := s; hn

section
variable {P : Program}
theorem PWp_bind {α β : Type} {s : Sem α} {f : α → Sem β} {h : Heap} : ∀ {K : β → Prop}, PWp P s h (fun a => PWp P (f a) h K) → PWp P (s >>= f) h K := by
  show ∀ {K : β → Prop}, PWp P s h (fun a => PWp P (f a) h K) → PWp P (s.bind f) h K
  induction s with
  | pure a => intro K hs; exact hs
  | load m a k ih => intro K hs; obtain ⟨v, hv, h2⟩ := hs; exact ⟨v, hv, ih v h2⟩
  | shape r k ih => intro K hs; exact ih _ hs
  | frozen a k ih => intro K hs; exact ih _ hs
  | getObj r k ih => intro K hs; obtain ⟨o, ho, hc, h2⟩ := hs; exact ⟨o, ho, hc, ih o h2⟩
  | program k ih => intro K hs; exact ih P hs
  | mark m k ih => intro K hs; exact ih hs
  | _ => intro K hs; exact hs.elim
theorem PWp_underlying {T : TypeId} {d : TypeDesc} (hd : P.underlying T = some d) {h : Heap} {K : TypeDesc → Prop} (hK : K d) : PWp P (underlying T) h K := by
  show PWp P (match P.underlying T with | some d => pure d | none => stuck "no such type") h K
  rw [hd]; exact hK
theorem PWp_zero {T : TypeId} {i : TypeInfo} {z : Value} (hi : P.info? T = some i) (hz : i.zero = some z) {h : Heap} {K : Value → Prop} (hK : K z) : PWp P (zeroValue T) h K := by
  refine PWp_bind (s := typeInfo T) ?_
  show PWp P (match P.info? T with | some i => pure i | none => stuck "no such type") h _
  rw [hi]
  show PWp P (match i.zero with | some v => pure v | none => unsupported (.resourceLimit "a value of more than 2^22 cells")) h K
  rw [hz]; exact hK

theorem PWp_checkKey {b : Bool} {T : TypeId} (hu : P.underlying T = some (.int .i64)) {k : Int} {h : Heap} {K : Unit → Prop} (hK : K ()) : PWp P (Instr.checkKey b 10000 T (.int .i64 k)) h K := by
  rw [show (10000 : Nat) = 9999 + 1 from rfl]
  unfold Instr.checkKey
  exact PWp_bind (PWp_underlying hu hK)
theorem PWp_findKey {T : TypeId} (hu : P.underlying T = some (.int .i64)) {k : Int} {es : List MapEntry} {m : KV} (he : entOf es m) {h : Heap} {K : Option (Nat × Value) → Prop} (hK : K (kvIdx m k 0)) :
    PWp P (Instr.findKey T (.int .i64 k) es) h K := by
  unfold Instr.findKey
  refine PWp_bind (PWp_underlying hu ?_)
  rw [findNow_kv k es m 0 he]
  exact hK
theorem SWp_of_PWp {α : Type} {s : Sem α} {h : Heap} : ∀ {K : α → Heap → Prop}, PWp P s h (fun a => K a h) → SWp P s h K := by
  induction s with
  | pure a => intro K hs; exact hs
  | load m a k ih => intro K hs; obtain ⟨v, hv, h2⟩ := hs; exact ⟨v, hv, ih v h2⟩
  | shape r k ih => intro K hs; exact ih _ hs
  | frozen a k ih => intro K hs; exact ih _ hs
  | getObj r k ih => intro K hs; obtain ⟨o, ho, hc, h2⟩ := hs; exact ⟨o, ho, hc, ih o h2⟩
  | program k ih => intro K hs; exact ih P hs
  | mark m k ih => intro K hs; exact ih hs
  | _ => intro K hs; exact hs.elim

/-- m[k], and whether it is there. -/
theorem look_spec {T KT E : TypeId} {i : TypeInfo} {z : Value} (hT : P.underlying T = some (.map KT E)) (hk : P.underlying KT = some (.int .i64)) (hi : P.info? E = some i) (hz : i.zero = some z)
    {h : Heap} {r : Option Nat} {m : KV} (hm : MapO h r m) {k : Int} {ok : Bool} {K : Value → Prop} (hK : K (if ok then .tuple #[(kvGet m k).getD z, .bool (kvGet m k).isSome] else (kvGet m k).getD z)) :
    lookK P T (.map r) (.int .i64 k) ok h K := by
  unfold lookK Instr.lookup
  refine PWp_bind (PWp_underlying hT ?_)
  have fin : ∀ (es : Array MapEntry), entOf es.toList m → PWp P (do
      Instr.checkKey es.isEmpty 10000 KT (.int .i64 k)
      let (v, ok') ← match ← Instr.findKey KT (.int .i64 k) es.toList with
        | some (_, v) => pure (v, true)
        | none => do pure (← zeroValue E, false)
      pure (if ok then .tuple #[v, .bool ok'] else v)) h K := by
    intro es he
    refine PWp_bind (PWp_checkKey hk ?_)
    refine PWp_bind (PWp_findKey hk he ?_)
    have hg := kvIdx_get m k 0
    cases hx : kvIdx m k 0 with
    | none =>
      rw [hx] at hg
      simp only [Option.map_none] at hg
      rw [← hg] at hK
      refine PWp_bind (PWp_zero hi hz ?_)
      show K _
      simpa using hK
    | some p =>
      rw [hx] at hg
      simp only [Option.map_some] at hg
      rw [← hg] at hK
      show K _
      simpa using hK
  cases r with
  | none =>
    have : m = [] := hm
    subst this
    exact PWp_bind (fin #[] rfl)
  | some b =>
    obtain ⟨es, clk, hb, he, hn, hbn, hlt⟩ := hm
    refine PWp_bind ?_
    show PWp P (getObj b >>= _) h _
    refine PWp_bind ⟨_, hb, rfl, ?_⟩
    exact fin es he

theorem kvIdx_lt (m : KV) (k : Int) : ∀ (i j : Nat) (v : Value), kvIdx m k i = some (j, v) → i ≤ j ∧ j < i + m.length ∧ ∃ p, m[j - i]? = some p ∧ p.1 = k := by
  induction m with
  | nil => intro i j v h; simp [kvIdx] at h
  | cons p m ih =>
    intro i j v h
    simp only [kvIdx] at h
    split at h
    · rename_i hk
      simp at h
      obtain ⟨rfl, rfl⟩ := h
      exact ⟨Nat.le_refl _, by simp, p, by simp, hk⟩
    · obtain ⟨h1, h2, q, hq, hqk⟩ := ih _ _ _ h
      refine ⟨by omega, by simp; omega, q, ?_, hqk⟩
      rw [show j - i = (j - (i + 1)) + 1 by omega]
      simpa using hq
theorem kvSet_idx (m : KV) (k : Int) (x : Value) : ∀ (i j : Nat) (v : Value), kvIdx m k i = some (j, v) → kvSet m k x = m.set (j - i) (k, x) := by
  induction m with
  | nil => intro i j v h; simp [kvIdx] at h
  | cons p m ih =>
    intro i j v h
    simp only [kvIdx] at h
    simp only [kvSet]
    split at h
    · rename_i hk
      simp at h
      obtain ⟨rfl, rfl⟩ := h
      rw [if_pos hk]; simp
    · rename_i hk
      rw [if_neg hk, ih _ _ _ h]
      have := (kvIdx_lt m k _ _ _ h).1
      rw [show j - i = (j - (i + 1)) + 1 by omega]
      rfl
theorem kvSet_new (m : KV) (k : Int) (x : Value) : ∀ i, kvIdx m k i = none → kvSet m k x = m ++ [(k, x)] ∧ k ∉ m.map (·.1) := by
  induction m with
  | nil => intro i _; exact ⟨rfl, by simp⟩
  | cons p m ih =>
    intro i h
    simp only [kvIdx] at h
    simp only [kvSet]
    split at h
    · cases h
    · rename_i hk
      obtain ⟨h1, h2⟩ := ih _ h
      rw [if_neg hk, h1]
      exact ⟨rfl, by simp only [List.map_cons, List.mem_cons, not_or]; exact ⟨Ne.symm hk, h2⟩⟩

theorem upd_spec2 {T KT E : TypeId} (hT : P.underlying T = some (.map KT E)) (hk : P.underlying KT = some (.int .i64)) {h : Heap} {b : Nat} {m : KV} (hm : MapI h b m) {k : Int} {x : Value} {K : Heap → Prop}
    (hK : ∀ h' : Heap, MapI h' b (kvSet m k x) → KB [b] h h' → h'.size = h.size → (∀ es clk, h[b]? = some (.map es clk) → k ∈ m.map (·.1) → ∃ es', h'[b]? = some (.map es' clk) ∧ es'.toList.map (fun e => (e.key, e.born)) = es.toList.map (fun e => (e.key, e.born))) → K h') :
    updK P T (.map (some b)) (.int .i64 k) x h K := by
  obtain ⟨es, clk, hb, he, hn, hbn, hlt⟩ := hm
  have hlen : es.toList.length = m.length := by have := congrArg List.length he; simpa using this
  have kb : ∀ o : Obj, KB [b] h (h.setIfInBounds b o) := fun o => ⟨by simp, fun c _ hc => by
    rw [Array.getElem?_setIfInBounds_ne]; simp at hc; exact fun e => hc e.symm⟩
  have hbl := lt_of_get hb
  unfold updK Instr.mapUpdate
  refine SWp_bind (SWp_underlying hT ?_)
  show SWp P (getObj b >>= _) h _
  refine SWp_bind ⟨_, hb, rfl, ?_⟩
  refine SWp_bind (SWp_of_PWp (PWp_checkKey hk ?_))
  refine SWp_bind (SWp_of_PWp (PWp_findKey hk he ?_))
  cases hx : kvIdx m k 0 with
  | none =>
    obtain ⟨h1, h2⟩ := kvSet_new m k x 0 hx
    refine ⟨⟨_, hb, rfl⟩, ?_⟩
    refine hK _ ⟨es.push { key := .int .i64 k, val := x, born := clk }, clk + 1, by simp [hbl], ?_, ?_, ?_, ?_⟩ (kb _) (by simp) (fun _ _ _ hk0 => absurd hk0 h2)
    · unfold entOf at *
      rw [h1]; simp [he]
    · rw [h1, List.map_append, List.nodup_append]
      refine ⟨hn, by simp, ?_⟩
      intro a ha c hc hac
      simp at hc
      subst hac
      exact h2 (hc ▸ ha)
    · simp only [Array.toList_push, List.map_append, List.nodup_append]
      refine ⟨hbn, by simp, ?_⟩
      intro a ha c hc hac
      simp at hc
      obtain ⟨e, hem, rfl⟩ := List.mem_map.1 ha
      have := hlt e hem
      omega
    · intro e hem
      simp only [Array.toList_push, List.mem_append, List.mem_singleton] at hem
      rcases hem with hem | rfl
      · exact Nat.lt_succ_of_lt (hlt e hem)
      · exact Nat.lt_succ_self _
  | some p =>
    obtain ⟨j, v⟩ := p
    obtain ⟨_, h1, q, hq, hqk⟩ := kvIdx_lt m k 0 j v hx
    rw [Nat.sub_zero] at hq
    have hjl : j < es.toList.length := by omega
    have hje : (es.toList[j]).key = .int .i64 k := by
      have h2 := congrArg (fun l => l[j]?) he
      simp only [List.getElem?_map, hq, Option.map_some, List.getElem?_eq_getElem hjl] at h2
      simp only [Option.some.injEq, Prod.mk.injEq] at h2
      rw [h2.1, hqk]
    have hgk : ((es[j]?).map (·.key)).getD (.int .i64 k) = .int .i64 k := by
      rw [← Array.getElem?_toList, List.getElem?_eq_getElem hjl]; simpa using hje
    show SWp P (Instr.keyThatStays (((es[j]?).map (·.key)).getD (.int .i64 k)) (.int .i64 k) >>= _) h _
    rw [hgk]
    refine SWp_bind ?_
    show SWp P (if Instr.sameBits 10000 (.int .i64 k) (.int .i64 k) = true then pure (Value.int .i64 k) else _) h _
    rw [if_pos (by simp [Instr.sameBits])]
    refine ⟨⟨_, hb, rfl⟩, ?_⟩
    have hset := kvSet_idx m k x 0 j v hx
    rw [Nat.sub_zero] at hset
    have hmod : (es.modify j fun e => { e with key := Value.int .i64 k, val := x }).toList = es.toList.modify j fun e => { e with key := Value.int .i64 k, val := x } := by simp
    refine hK _ ⟨es.modify j fun e => { e with key := Value.int .i64 k, val := x }, clk, by simp [hbl], ?_, ?_, ?_, ?_⟩ (kb _) (by simp) (fun es0 clk0 h0 _ => ?_)
    · unfold entOf at *
      rw [hmod, hset]
      apply List.ext_getElem?
      intro i
      have h2 := congrArg (fun l => l[i]?) he
      simp only [List.getElem?_map] at h2
      simp only [List.getElem?_map, List.getElem?_modify, List.getElem?_set]
      by_cases hij : j = i
      · subst hij
        simp only [if_true]
        rw [List.getElem?_eq_getElem hjl]
        simp [show j < m.length by omega]
      · simp only [hij, if_false, Option.map_id_fun', id_eq]
        cases hee : es.toList[i]? with
        | none => rw [hee] at h2; simpa using h2
        | some e => rw [hee] at h2; simpa using h2
    · rw [hset]
      have : (m.set j (k, x)).map (·.1) = m.map (·.1) := by
        apply List.ext_getElem?
        intro i
        simp only [List.getElem?_map, List.getElem?_set]
        by_cases hij : j = i
        · subst hij
          have hmq := (List.getElem?_eq_some_iff.1 hq).2
          simp [show j < m.length by omega, hmq, hqk]
        · simp [hij]
      rw [this]; exact hn
    · rw [hmod]
      have : (es.toList.modify j fun e => { e with key := Value.int .i64 k, val := x }).map (·.born) = es.toList.map (·.born) := by
        apply List.ext_getElem?
        intro i
        simp only [List.getElem?_map, List.getElem?_modify]
        by_cases hij : j = i
        · subst hij; simp only [if_true]; cases es.toList[j]? <;> rfl
        · simp [hij]
      rw [this]; exact hbn
    · intro e hem
      rw [hmod] at hem
      obtain ⟨i, hi⟩ := List.mem_iff_getElem?.1 hem
      rw [List.getElem?_modify] at hi
      cases hee : es.toList[i]? with
      | none => rw [hee] at hi; simp at hi
      | some e0 =>
        rw [hee] at hi
        have h0 := hlt e0 (List.mem_of_getElem? hee)
        by_cases hij : j = i
        · simp [hij] at hi; subst hi; exact h0
        · simp [hij] at hi; subst hi; exact h0
    · rw [hb] at h0
      cases h0
      refine ⟨es.modify j fun e => { e with key := Value.int .i64 k, val := x }, by simp [hbl], ?_⟩
      rw [hmod]
      apply List.ext_getElem?
      intro i
      simp only [List.getElem?_map, List.getElem?_modify]
      by_cases hij : j = i
      · subst hij
        rw [List.getElem?_eq_getElem hjl]
        simp
        exact hje.symm
      · simp [hij]
theorem upd_spec {T KT E : TypeId} (hT : P.underlying T = some (.map KT E)) (hk : P.underlying KT = some (.int .i64)) {h : Heap} {b : Nat} {m : KV} (hm : MapI h b m) {k : Int} {x : Value} {K : Heap → Prop}
    (hK : ∀ h' : Heap, MapI h' b (kvSet m k x) → KB [b] h h' → h'.size = h.size → K h') : updK P T (.map (some b)) (.int .i64 k) x h K :=
  upd_spec2 hT hk hm fun h' h1 h2 h3 _ => hK h' h1 h2 h3
theorem kvSet_keys {m : KV} {k : Int} {x : Value} (hk : k ∈ m.map (·.1)) : (kvSet m k x).map (·.1) = m.map (·.1) := by
  induction m with
  | nil => simp at hk
  | cons p m ih =>
    simp only [kvSet]
    by_cases h : p.1 = k
    · rw [if_pos h]; simp [h]
    · rw [if_neg h]
      rw [List.map_cons, List.mem_cons] at hk
      rcases hk with hk | hk
      · exact absurd hk.symm h
      · rw [List.map_cons, List.map_cons, ih hk]

/- ## Ranging over a map -/
/-- The iterator's block 'it', over the map r that reads as m: 'left' are the keys that are still to come. -/
def IterI (h : Heap) (it : Nat) (r : Option Nat) (m : KV) (left : List Int) : Prop :=
  match r with
  | none => m = [] ∧ left = [] ∧ ∃ a b c, h[it]? = some (.mapIter none a b c)
  | some b => it ≠ b ∧ ∃ es clk seen, h[it]? = some (.mapIter (some b) clk seen clk) ∧ h[b]? = some (.map es clk) ∧ entOf es.toList m ∧ (m.map (·.1)).Nodup ∧ (es.toList.map (·.born)).Nodup ∧ (∀ e ∈ es.toList, e.born < clk) ∧
      (∀ e ∈ es.toList, ∀ k : Int, e.key = .int .i64 k → (k ∈ left ↔ seen.contains e.born = false)) ∧ left.Nodup ∧ ∀ k ∈ left, k ∈ m.map (·.1)
theorem IterI.mapO {h : Heap} {it : Nat} {r : Option Nat} {m : KV} {left : List Int} (s : IterI h it r m left) : MapO h r m := by
  cases r with
  | none => exact s.1
  | some b => obtain ⟨_, es, clk, seen, h1, h2, h3, h4, h5, h6, _⟩ := s; exact ⟨es, clk, h2, h3, h4, h5, h6⟩
theorem IterI.kb {h h' : Heap} {it : Nat} {r : Option Nat} {m : KV} {left : List Int} {F : List Nat} (s : IterI h it r m left) (k : KB F h h') (h1 : it ∉ F) (h2 : ∀ b, r = some b → b ∉ F) : IterI h' it r m left := by
  cases r with
  | none => obtain ⟨a, b, x, y, z, hz⟩ := s; exact ⟨a, b, x, y, z, k.get hz h1⟩
  | some b => obtain ⟨a, es, clk, seen, g1, g2, g3⟩ := s; exact ⟨a, es, clk, seen, k.get g1 h1, k.get g2 (h2 b rfl), g3⟩
theorem IterI.lt {h : Heap} {it : Nat} {r : Option Nat} {m : KV} {left : List Int} (s : IterI h it r m left) : it < h.size := by
  cases r with
  | none => obtain ⟨a, b, x, y, z, hz⟩ := s; exact lt_of_get hz
  | some b => obtain ⟨a, es, clk, seen, g1, g2, g3⟩ := s; exact lt_of_get g1

/-- A store at a key that is there, into the map that is ranged over. -/
theorem IterI.upd {h h' : Heap} {it b : Nat} {m : KV} {left : List Int} {k : Int} {x : Value} (s : IterI h it (some b) m left) (hm : MapI h' b (kvSet m k x)) (kb : KB [b] h h') (hk : k ∈ m.map (·.1))
    (hs : ∀ es clk, h[b]? = some (.map es clk) → k ∈ m.map (·.1) → ∃ es', h'[b]? = some (.map es' clk) ∧ es'.toList.map (fun e => (e.key, e.born)) = es.toList.map (fun e => (e.key, e.born))) : IterI h' it (some b) (kvSet m k x) left := by
  obtain ⟨hne, es, clk, seen, g1, g2, g3, g4, g5, g6, g7, g8, g9⟩ := s
  obtain ⟨es', e1, e2⟩ := hs es clk g2 hk
  obtain ⟨es2, clk2, f1, f2, f3, f4, f5⟩ := hm
  rw [e1] at f1
  cases f1
  refine ⟨hne, es', clk, seen, kb.get g1 (by simpa using hne), e1, f2, f3, f4, f5, fun e he k' hk' => ?_, g8, fun k' hk' => by rw [kvSet_keys hk]; exact g9 k' hk'⟩
  have : (e.key, e.born) ∈ es.toList.map (fun e => (e.key, e.born)) := by rw [← e2]; exact List.mem_map.2 ⟨e, he, rfl⟩
  obtain ⟨e0, he0, heq⟩ := List.mem_map.1 this
  simp only [Prod.mk.injEq] at heq
  rw [← heq.2]
  exact g7 e0 he0 k' (heq.1.trans hk')
theorem entOf_key {es : List MapEntry} {m : KV} (h : entOf es m) {e : MapEntry} (he : e ∈ es) : ∃ p ∈ m, e.key = .int .i64 p.1 ∧ e.val = p.2 := by
  have h1 : (e.key, e.val) ∈ es.map (fun e => (e.key, e.val)) := List.mem_map.2 ⟨e, he, rfl⟩
  rw [h] at h1
  obtain ⟨p, hp, h2⟩ := List.mem_map.1 h1
  simp only [Prod.mk.injEq] at h2
  exact ⟨p, hp, h2.1.symm, h2.2.symm⟩
theorem entOf_mem {es : List MapEntry} {m : KV} (h : entOf es m) {p : Int × Value} (hp : p ∈ m) : ∃ e ∈ es, e.key = .int .i64 p.1 ∧ e.val = p.2 := by
  have h1 : (Value.int .i64 p.1, p.2) ∈ m.map (fun p => (Value.int .i64 p.1, p.2)) := List.mem_map.2 ⟨p, hp, rfl⟩
  rw [← h] at h1
  obtain ⟨e, he, h2⟩ := List.mem_map.1 h1
  simp only [Prod.mk.injEq] at h2
  exact ⟨e, he, h2.1, h2.2⟩

theorem range_spec {T KT E : TypeId} (hT : P.underlying T = some (.map KT E)) {h : Heap} {r : Option Nat} {m : KV} (hm : MapO h r m) {K : Value → Heap → Prop}
    (hK : ∀ h' : Heap, IterI h' h.size r m (m.map (·.1)) → Keep h h' → h'.size = h.size + 1 → K (.pointer (some ⟨h.size, 0, none⟩)) h') : rangeK P T (.map r) h K := by
  unfold rangeK Instr.range
  refine SWp_bind (SWp_underlying hT ?_)
  cases r with
  | none => exact hK _ ⟨hm, by rw [hm]; rfl, 0, #[], 0, push_get _ _⟩ (.push _ _ _) (by simp)
  | some b =>
    obtain ⟨es, clk, hb, he, hn, hbn, hlt⟩ := hm
    have hne : h.size ≠ b := by have := lt_of_get hb; omega
    show SWp P (getObj b >>= _) h _
    refine SWp_bind ⟨_, hb, rfl, ?_⟩
    refine hK _ ⟨hne, es, clk, #[], push_get _ _, ?_, he, hn, hbn, hlt, ?_, hn, fun k hk => hk⟩ (.push _ _ _) (by simp)
    · exact (KB.push [] h _).get hb (by simp)
    · intro e hem k hk
      obtain ⟨p, hp, h1, _⟩ := entOf_key he hem
      rw [hk] at h1
      have h1 : k = p.1 := by simpa using h1
      simp only [List.mem_map]
      exact ⟨fun _ => by simp, fun _ => ⟨p, hp, h1.symm⟩⟩

/-- One step: it is over, or any of the keys that are left comes, with its value. -/
theorem next_spec {h : Heap} {it : Nat} {r : Option Nat} {m : KV} {left : List Int} (hI : IterI h it r m left) {E : Heap → Prop} {C : Value → Heap → Prop}
    (hE : left = [] → E h)
    (hC : ∀ (k : Int) (x : Value) (h' : Heap), k ∈ left → (k, x) ∈ m → IterI h' it r m (left.erase k) → KB [it] h h' → h'.size = h.size → C (.tuple #[.int .i64 k, x]) h') :
    nextM P (.pointer (some ⟨it, 0, none⟩)) h E (fun _ _ h5 => entryM P (.pointer (some ⟨it, 0, none⟩)) h5 C) := by
  unfold nextM Instr.next
  cases r with
  | none =>
    obtain ⟨rfl, rfl, a, b, c, hz⟩ := hI
    show SWp P (getObj it >>= _) h _
    refine SWp_bind ⟨_, hz, rfl, ?_⟩
    exact .inl ⟨rfl, hE rfl⟩
  | some b =>
    obtain ⟨hne, es, clk, seen, h1, h2, he, hn, hbn, hlt, hleft, hln, hlm⟩ := hI
    show SWp P (getObj it >>= _) h _
    refine SWp_bind ⟨_, h1, rfl, ?_⟩
    show SWp P (getObj b >>= _) h _
    refine SWp_bind ⟨_, h2, rfl, ?_⟩
    have hng : ¬ ((!seen.isEmpty && !es.isEmpty && es.all fun e => decide (e.born ≥ clk)) = true) := by
      intro hh
      simp only [Bool.and_eq_true, Bool.not_eq_true', Array.all_eq_true_iff_forall_mem, decide_eq_true_eq] at hh
      obtain ⟨⟨_, h3⟩, h4⟩ := hh
      cases hes : es.toList with
      | nil => have : es = #[] := by apply Array.ext'; simpa using hes
               subst this; simp at h3
      | cons e l =>
        have hem : e ∈ es.toList := by rw [hes]; simp
        have h5 := hlt e hem
        have h6 := h4 e (by simpa using hem)
        omega
    show SWp P (if (!seen.isEmpty && !es.isEmpty && es.all fun e => decide (e.born ≥ clk)) = true then _ else _) h _
    rw [if_neg hng]
    have hold : (es.filter fun e => !seen.contains e.born).filter (fun e => decide (e.born < clk)) = es.filter fun e => !seen.contains e.born := by
      rw [Array.filter_eq_self]
      intro e hem
      have := hlt e (by simpa using (Array.mem_filter.1 hem).1)
      simpa using this
    have hnew : (es.filter fun e => !seen.contains e.born).filter (fun e => decide (e.born ≥ clk)) = #[] := by
      rw [Array.filter_eq_empty_iff]
      intro e hem
      have := hlt e (by simpa using (Array.mem_filter.1 hem).1)
      simp; omega
    have hitl := lt_of_get h1
    have hbl := lt_of_get h2
    -- whichever entry is picked
    have pick : ∀ e ∈ es.toList, seen.contains e.born = false → SWp P (do
        setObj it (.mapIter (some b) clk (seen.push e.born) clk)
        pure (Value.tuple #[.bool true, e.key, e.val])) h fun v h' => (v = .tuple #[.bool false] ∧ E h') ∨ ∃ k x : Value, v = .tuple #[.bool true, k, x] ∧ entryM P (.pointer (some ⟨it, 0, none⟩)) h' C := by
      intro e hem hes
      refine ⟨⟨_, h1, rfl⟩, .inr ⟨e.key, e.val, rfl, ?_⟩⟩
      have g1 : (h.setIfInBounds it (.mapIter (some b) clk (seen.push e.born) clk))[it]? = some (.mapIter (some b) clk (seen.push e.born) clk) := by simp [hitl]
      have g2 : (h.setIfInBounds it (.mapIter (some b) clk (seen.push e.born) clk))[b]? = some (.map es clk) := by
        rw [Array.getElem?_setIfInBounds_ne hne]; exact h2
      obtain ⟨p, hp, hpk, hpv⟩ := entOf_key he hem
      unfold entryM Instr.entry
      show SWp P (getObj it >>= _) _ _
      refine SWp_bind ⟨_, g1, rfl, ?_⟩
      have hback : (seen.push e.born).back? = some e.born := by simp
      show SWp P (match (seen.push e.born).back? with | some stamp => _ | _ => _) _ _
      rw [hback]
      show SWp P (getObj b >>= _) _ _
      refine SWp_bind ⟨_, g2, rfl, ?_⟩
      show SWp P (if (clk != clk) = true then _ else _) _ _
      rw [if_neg (by simp)]
      have hfind : es.find? (fun x => x.born == e.born) = some e := by
        rw [← Array.find?_toList]
        have : ∀ l : List MapEntry, (l.map (·.born)).Nodup → e ∈ l → l.find? (fun x => x.born == e.born) = some e := by
          intro l
          induction l with
          | nil => intro _ h; cases h
          | cons y l ih =>
            intro hnd hm
            simp only [List.map_cons, List.nodup_cons] at hnd
            rcases List.mem_cons.1 hm with rfl | hm
            · simp
            · have : (y.born == e.born) = false := by
                rw [beq_eq_false_iff_ne]
                exact fun hh => hnd.1 (hh ▸ List.mem_map.2 ⟨e, hm, rfl⟩)
              rw [List.find?_cons, this]; exact ih hnd.2 hm
        exact this _ hbn hem
      show SWp P (match es.find? (fun x => x.born == e.born) with | some e => pure (Value.tuple #[e.key, e.val]) | none => unsupported (.noEntry "instr/Entry.removed")) _ _
      rw [hfind]
      show C (.tuple #[e.key, e.val]) _
      rw [hpk, hpv]
      have hkl : p.1 ∈ left := (hleft e hem p.1 hpk).2 hes
      refine hC p.1 p.2 _ hkl hp ⟨hne, es, clk, seen.push e.born, g1, g2, he, hn, hbn, hlt, ?_, hln.erase _, fun k hk => hlm k (List.mem_of_mem_erase hk)⟩ ⟨by simp, fun c _ hc => ?_⟩ (by simp)
      · intro e' hem' k hk'
        rw [hln.mem_erase_iff]
        simp only [Array.contains_push, Bool.or_eq_false_iff, beq_eq_false_iff_ne]
        rw [hleft e' hem' k hk']
        constructor
        · rintro ⟨h3, h4⟩
          refine ⟨h4, fun hbb => h3 ?_⟩
          have : e' = e := by
            have key : ∀ l : List MapEntry, (l.map (·.born)).Nodup → e ∈ l → e' ∈ l → e'.born = e.born → e' = e := by
              intro l
              induction l with
              | nil => intro _ h; cases h
              | cons y l ih =>
                intro hnd ha hb hbo
                simp only [List.map_cons, List.nodup_cons] at hnd
                rcases List.mem_cons.1 ha with rfl | ha2 <;> rcases List.mem_cons.1 hb with rfl | hb2
                · rfl
                · exact absurd (List.mem_map.2 ⟨e', hb2, hbo⟩) hnd.1
                · exact absurd (List.mem_map.2 ⟨e, ha2, hbo.symm⟩) hnd.1
                · exact ih hnd.2 ha2 hb2 hbo
            exact key _ hbn hem hem' hbb
          subst this
          rw [hpk] at hk'
          simpa using hk'.symm
        · rintro ⟨h3, h4⟩
          refine ⟨fun hkk => h4 ?_, h3⟩
          subst hkk
          -- the same key: the same entry
          have key : ∀ (l : List MapEntry) (q : KV), entOf l q → (q.map (·.1)).Nodup → e ∈ l → e' ∈ l → e'.key = e.key → e' = e := by
            intro l
            induction l with
            | nil => intro _ _ _ h; cases h
            | cons y l ih =>
              intro q hq hnd ha hb hkk
              cases q with
              | nil => simp [entOf] at hq
              | cons z q =>
                simp only [entOf, List.map_cons, List.cons.injEq, Prod.mk.injEq] at hq
                obtain ⟨⟨hy, _⟩, hq⟩ := hq
                simp only [List.map_cons, List.nodup_cons] at hnd
                rcases List.mem_cons.1 ha with rfl | ha2 <;> rcases List.mem_cons.1 hb with rfl | hb2
                · rfl
                · obtain ⟨w, hw, hwk, _⟩ := entOf_key hq hb2
                  rw [hkk, hy] at hwk
                  have : z.1 = w.1 := by simpa using hwk
                  exact absurd (List.mem_map.2 ⟨w, hw, this.symm⟩) hnd.1
                · obtain ⟨w, hw, hwk, _⟩ := entOf_key hq ha2
                  rw [← hkk, hy] at hwk
                  have : z.1 = w.1 := by simpa using hwk
                  exact absurd (List.mem_map.2 ⟨w, hw, this.symm⟩) hnd.1
                · exact ih q hq hnd.2 ha2 hb2 hkk
          rw [key _ m he hn hem hem' (by rw [hk', hpk])]
      · rw [Array.getElem?_setIfInBounds_ne]; simp at hc; exact fun hh => hc hh.symm
    generalize hL : (es.filter fun e => !seen.contains e.born) = L at hold hnew
    have hmemL : ∀ e ∈ L, e ∈ es.toList ∧ seen.contains e.born = false := by
      intro e hem
      rw [← hL] at hem
      obtain ⟨g1, g2⟩ := Array.mem_filter.1 hem
      exact ⟨by simpa using g1, by simpa using g2⟩
    show SWp P (choose (.mapNext ((if (L.filter (fun e : MapEntry => decide (e.born < clk))).isEmpty then #[none] else #[]) ++ (L.filter (fun e : MapEntry => decide (e.born < clk)) ++ L.filter (fun e : MapEntry => decide (e.born ≥ clk))).map some).size) >>= fun j =>
      match ((if (L.filter (fun e : MapEntry => decide (e.born < clk))).isEmpty then #[none] else #[]) ++ (L.filter (fun e : MapEntry => decide (e.born < clk)) ++ L.filter (fun e : MapEntry => decide (e.born ≥ clk))).map some)[j]? with
      | some (some e) => do setObj it (.mapIter (some b) clk (seen.push e.born) clk); pure (Value.tuple #[.bool true, e.key, e.val])
      | some none => pure (Value.tuple #[.bool false])
      | none => stuck "Next: no such candidate") h _
    rw [hold, hnew]
    cases hemp : L.isEmpty with
    | true =>
      have hLe : L = #[] := by simpa using hemp
      have hl0 : left = [] := by
        rw [List.eq_nil_iff_forall_not_mem]
        intro k hk
        obtain ⟨p, hp, rfl⟩ := List.mem_map.1 (hlm k hk)
        obtain ⟨e, hem, hek, _⟩ := entOf_mem he hp
        have := (hleft e hem p.1 hek).1 hk
        have hin : e ∈ L := by rw [← hL]; exact Array.mem_filter.2 ⟨by simpa using hem, by simpa using this⟩
        rw [hLe] at hin; simp at hin
      subst hLe
      refine SWp_bind ⟨fun _ => ?_, fun hf => ?_⟩
      · show SWp P (match ((if true = true then #[none] else #[]) ++ ((#[] : Array MapEntry) ++ #[]).map some)[0]? with
          | some (some e) => (do setObj it (.mapIter (some b) clk (seen.push e.born) clk); pure (Value.tuple #[.bool true, e.key, e.val]) : Sem Value)
          | some none => pure (Value.tuple #[.bool false])
          | none => stuck "Next: no such candidate") h _
        have hg : ((if true = true then #[none] else #[]) ++ ((#[] : Array MapEntry) ++ #[]).map some)[0]? = some none := by simp
        rw [hg]
        exact .inl ⟨rfl, hE hl0⟩
      · simp [Question.forced] at hf
    | false =>
      have hsz : 0 < L.size := by
        rcases Nat.eq_zero_or_pos L.size with h0 | h0
        · rw [Array.isEmpty_iff_size_eq_zero.2 h0] at hemp; cases hemp
        · exact h0
      have fin : ∀ j, j < L.size → SWp P (match ((if false = true then #[none] else #[]) ++ (L ++ #[]).map some)[j]? with
          | some (some e) => (do setObj it (.mapIter (some b) clk (seen.push e.born) clk); pure (Value.tuple #[.bool true, e.key, e.val]) : Sem Value)
          | some none => pure (Value.tuple #[.bool false])
          | none => stuck "Next: no such candidate") h fun v h' => (v = .tuple #[.bool false] ∧ E h') ∨ ∃ k x : Value, v = .tuple #[.bool true, k, x] ∧ entryM P (.pointer (some ⟨it, 0, none⟩)) h' C := by
        intro j hj
        have hg : ((if false = true then #[none] else #[]) ++ (L ++ #[]).map some)[j]? = some (some L[j]) := by simp [hj]
        rw [hg]
        have := hmemL L[j] (Array.getElem_mem hj)
        exact pick _ this.1 this.2
      refine SWp_bind ⟨fun _ => fin 0 hsz, fun hf t => fin _ ?_⟩
      have : ((if false = true then (#[none] : Array (Option MapEntry)) else #[]) ++ (L ++ #[]).map some).size = L.size := by simp
      simp only [Question.cut]
      rw [this]
      exact Nat.mod_lt _ hsz
end
end Go.Proofs.Ytjcjlhpabjjflaa
