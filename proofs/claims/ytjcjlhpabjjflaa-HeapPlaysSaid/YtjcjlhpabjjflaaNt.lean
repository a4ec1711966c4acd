/- From the rows' reading of arguments to data: any type of numbers, truth values, strings, structs, arrays and slices. -/
import Derived.Test.YtjcjlhpabjjflaaNb
import Derived.ProofKit
import Derived.Deep.Slices
set_option linter.unusedVariables false
namespace Go.Proofs.Ytjcjlhpabjjflaa
open Go Go.Proofs

/-- A row of cells: their kinds. -/
inductive Ds where
  | nil
  | i (k : IntKind) (r : Ds)
  | b (r : Ds)
  | s (r : Ds)
  | l (e r : Ds)
def contig (P : Program) : List Field → Nat → Nat → Bool
  | [], o, n => o == n
  | f :: fs, o, n => f.offset == o && contig P fs (o + P.cellsOf f.type) n
def dsAll (g : TypeId → Ds → Option Ds) : List TypeId → Ds → Option Ds
  | [], r => some r
  | t :: ts, r => (dsAll g ts r).bind (g t)
def dsOf (P : Program) : Nat → TypeId → Ds → Option Ds
  | 0, _, _ => none
  | n + 1, t, r =>
    match P.underlying t with
    | some .bool => some (.b r)
    | some (.int k) => some (.i k r)
    | some .string => some (.s r)
    | some (.slice e) => if P.cellsOf e = 0 then none else (dsOf P n e .nil).map fun d => .l d r
    | some (.struct fs) => if contig P fs.toList 0 (P.cellsOf t) then dsAll (dsOf P n) (fs.toList.map (·.type)) r else none
    | some (.array m e) => if P.cellsOf t = m * P.cellsOf e then dsAll (dsOf P n) (List.replicate m e) r else none
    | _ => none
/-- The data is of these kinds. -/
def ShU : Ds → List U → Prop
  | .nil, us => us = []
  | .i k r, us => ∃ n us', us = .i k n :: us' ∧ (Lit.int k n).wf = true ∧ ShU r us'
  | .b r, us => ∃ c us', us = .b c :: us' ∧ ShU r us'
  | .s r, us => ∃ x us', us = .s x :: us' ∧ x.size ≤ maxLen ∧ ShU r us'
  | .l e r, us => ∃ rows us', us = .l rows :: us' ∧ rows.length ≤ maxLen ∧ (∀ row ∈ rows, ShU e row) ∧ ShU r us'
theorem RdL.append {D : Fz} {vs ws : List Value} {us xs : List U} (h : RdL D vs us) (k : RdL D ws xs) : RdL D (vs ++ ws) (us ++ xs) := by
  induction h with
  | nil => exact k
  | cons a _ ih => exact .cons a ih
theorem mapM_get {α β : Type} {f : α → Option β} : ∀ {l : List α} {r : List β}, l.mapM f = some r → r.length = l.length ∧ ∀ (i : Nat) (x : α), l[i]? = some x → ∃ y, f x = some y ∧ r[i]? = some y
  | [], r, h => by simp at h; subst h; exact ⟨rfl, by simp⟩
  | x :: l, r, h => by
    rw [List.mapM_cons] at h
    cases hx : f x with
    | none => rw [hx] at h; cases h
    | some y =>
      rw [hx] at h
      cases hl : l.mapM f with
      | none => rw [hl] at h; cases h
      | some ys =>
        rw [hl] at h
        cases h
        obtain ⟨h1, h2⟩ := mapM_get hl
        refine ⟨by simp [h1], fun i z hz => ?_⟩
        cases i with
        | zero => simp at hz; subst hz; exact ⟨y, hx, rfl⟩
        | succ i => simpa using h2 i z (by simpa using hz)

section
variable {H : Type} {enc : TypeId × Value → H} {P : Program} {w : World} {sp : Nat → Bool} {held : Bool}
def allD (h : Heap) : Fz := fun b => h[b]?
/-- What reading a row of types gives. -/
theorem all_rd {R : List Value → List U → Prop} (hR : ∀ {a b us xs}, R a us → R b xs → R (a ++ b) (us ++ xs)) (hR0 : R [] []) {g : TypeId → Ds → Option Ds} {r : TypeId → List Value → Option (DataW H × List MemPlace)}
    (ih : ∀ t cs x d rest, g t rest = some d → r t cs = some x → ∃ us, R cs us ∧ us.length = cs.length ∧ ∀ us', ShU rest us' → ShU d (us ++ us')) :
    ∀ (ts : List TypeId) (css : List (List Value)) (d rest : Ds), dsAll g ts rest = some d → css.length = ts.length → (∀ (i : Nat) (t : TypeId) (cs : List Value), ts[i]? = some t → css[i]? = some cs → ∃ x, r t cs = some x) →
      ∃ us, R css.flatten us ∧ us.length = css.flatten.length ∧ ∀ us', ShU rest us' → ShU d (us ++ us')
  | [], css, d, rest, hd, hl, _ => by
    have : css = [] := List.eq_nil_of_length_eq_zero hl
    subst this
    cases hd
    exact ⟨[], hR0, rfl, fun us' h => h⟩
  | t :: ts, css, d, rest, hd, hl, hx => by
    cases css with
    | nil => simp at hl
    | cons cs css =>
      simp only [dsAll, Option.bind_eq_some_iff] at hd
      obtain ⟨d1, hd1, hd2⟩ := hd
      obtain ⟨us, h1, h2, h3⟩ := all_rd hR hR0 ih ts css d1 rest hd1 (by simpa using hl) fun i t' cs' a b => hx (i + 1) t' cs' (by simpa using a) (by simpa using b)
      obtain ⟨x, hxx⟩ := hx 0 t cs rfl rfl
      obtain ⟨vs, g1, g2, g3⟩ := ih t cs x d d1 hd2 hxx
      exact ⟨vs ++ us, by simpa using hR g1 h1, by simp [g2, h2], fun us' hu => by rw [List.append_assoc]; exact g3 _ (h3 _ hu)⟩
theorem cells_get {a : Addr} {n : Nat} {cs : List Value} (h : w.cells? 0 a n = some cs) : cs.length = n ∧ ∀ j, j < n → w.cell? (a.add j) = cs[j]? := by
  unfold World.cells? at h
  rw [if_pos (Nat.zero_le _)] at h
  obtain ⟨h1, h2⟩ := mapM_get h
  refine ⟨by simpa using h1, fun j hj => ?_⟩
  obtain ⟨y, e1, e2⟩ := h2 j j (by simp [hj])
  rw [e1, e2]
theorem drops {P : Program} {cs : List Value} : ∀ (fs : List Field) (o : Nat), contig P fs o cs.length = true → o ≤ cs.length → (fs.map fun f => (cs.drop f.offset).take (P.cellsOf f.type)).flatten = cs.drop o
  | [], o, h, _ => by simp only [contig, beq_iff_eq] at h; subst h; simp
  | f :: fs, o, h, ho => by
    simp only [contig, Bool.and_eq_true, beq_iff_eq] at h
    obtain ⟨rfl, h2⟩ := h
    have hle : f.offset + P.cellsOf f.type ≤ cs.length := by
      have : ∀ (fs : List Field) (o : Nat), contig P fs o cs.length = true → o ≤ cs.length := by
        intro fs
        induction fs with
        | nil => intro o h; simp only [contig, beq_iff_eq] at h; omega
        | cons f fs ih => intro o h; simp only [contig, Bool.and_eq_true, beq_iff_eq] at h; have := ih _ h.2; omega
      exact this _ _ h2
    rw [List.map_cons, List.flatten_cons, drops fs _ h2 hle, ← List.drop_drop, List.take_append_drop]
theorem drops_arr {cs : List Value} {k : Nat} : ∀ (m o : Nat), cs.length = (o + m) * k → ((List.range m).map fun i => (cs.drop ((o + i) * k)).take k).flatten = cs.drop (o * k)
  | 0, o, h => by simp [h]
  | m + 1, o, h => by
    rw [List.range_succ_eq_map, List.map_cons, List.flatten_cons, List.map_map]
    have h1 := drops_arr (cs := cs) (k := k) m (o + 1) (by rw [h]; congr 1; omega)
    have : ((List.range m).map ((fun i => (cs.drop ((o + i) * k)).take k) ∘ Nat.succ)) = (List.range m).map fun i => (cs.drop ((o + 1 + i) * k)).take k := List.map_congr_left fun i _ => by simp only [Function.comp, Nat.succ_eq_add_one]; rw [show o + (i + 1) = o + 1 + i by omega]
    rw [this, h1, Nat.add_zero, show (o + 1) * k = o * k + k by rw [Nat.succ_mul], ← List.drop_drop, List.take_append_drop]
set_option maxRecDepth 10000 in
theorem trod_rd : ∀ (m n : Nat) (t : TypeId) (cs : List Value) (x : DataW H × List MemPlace) (d rest : Ds), dsOf P m t rest = some d → DataW.trod enc P w 0 sp held n t cs = some x →
    ∃ us, RdL (allD w.heap) cs us ∧ us.length = cs.length ∧ ∀ us', ShU rest us' → ShU d (us ++ us')
  | 0, n, t, cs, x, d, rest, hd, hx => by cases hd
  | m + 1, 0, t, cs, x, d, rest, hd, hx => by cases hx
  | m + 1, n + 1, t, cs, x, d, rest, hd, hx => by
    have ih := trod_rd m n
    rw [DataW.trod_step] at hx
    unfold dsOf at hd
    cases hu : P.underlying t with
    | none => rw [hu] at hd; cases hd
    | some td =>
      rw [hu] at hd
      cases td with
      | bool =>
        cases hd
        unfold DataW.trodStep at hx
        rw [hu] at hx
        split at hx <;> simp_all
        exact ⟨[.b _], .cons (.bool _) .nil, rfl, fun us' h => ⟨_, us', rfl, h⟩⟩
      | int k =>
        cases hd
        unfold DataW.trodStep at hx
        rw [hu] at hx
        split at hx <;> simp_all
        rename_i k' nn e1
        obtain ⟨⟨rfl, hw⟩, -⟩ := hx
        exact ⟨[.i k' nn], .cons (.int _ _) .nil, rfl, fun us' h => ⟨nn, us', rfl, hw, h⟩⟩
      | string =>
        cases hd
        unfold DataW.trodStep at hx
        rw [hu] at hx
        split at hx <;> simp_all
        exact ⟨[.s _], .cons (.str _) .nil, rfl, fun us' h => ⟨_, us', rfl, hx.1, h⟩⟩
      | slice e =>
        simp only at hd
        split at hd
        · cases hd
        rename_i hce
        simp only [Option.map_eq_some_iff] at hd
        obtain ⟨de, hde, rfl⟩ := hd
        rw [← DataW.trod_step] at hx
        rcases Go.Deep.open_slice hu hx with ⟨rfl, -⟩ | ⟨a, len, cap, mm, n', DD, Pl, rfl, hb, hl, hm, hmm, -, hel⟩
        · exact ⟨[.l []], .cons (.nil _ _) .nil, rfl, fun us' h => ⟨[], us', rfl, by simp, by simp, h⟩⟩
        have hlm : len ≤ mm := by rw [hmm]; split <;> omega
        by_cases h0 : len = 0
        · subst h0
          exact ⟨[.l []], .cons (.nil _ _) .nil, rfl, fun us' h => ⟨[], us', rfl, by simp, by simp, h⟩⟩
        have each : ∀ i, ∃ q : List Value × List U, i < len → w.cells? 0 (a.add (i * P.cellsOf e)) (P.cellsOf e) = some q.1 ∧ RdL (allD w.heap) q.1 q.2 ∧ q.2.length = q.1.length ∧ ShU de q.2 := by
          intro i
          by_cases hi : i < len
          · obtain ⟨cs', h1, h2⟩ := hel i (by omega)
            obtain ⟨us, g1, g2, g3⟩ := trod_rd m n' e cs' _ de .nil hde h2
            exact ⟨(cs', us), fun _ => ⟨h1, g1, g2, by simpa using g3 [] rfl⟩⟩
          · exact ⟨([], []), fun h => absurd h hi⟩
        have each' : ∀ i, ∃ q : List Value × List U, i < len → w.cells? 0 (a.add (i * P.cellsOf e)) (P.cellsOf e) = some q.1 ∧ RdL (allD w.heap) q.1 q.2 ∧ q.2.length = q.1.length ∧ ShU de q.2 := each
        let Q : Nat → List Value × List U := fun i => Classical.choose (each' i)
        have hQ : ∀ i, i < len → w.cells? 0 (a.add (i * P.cellsOf e)) (P.cellsOf e) = some (Q i).1 ∧ RdL (allD w.heap) (Q i).1 (Q i).2 ∧ (Q i).2.length = (Q i).1.length ∧ ShU de (Q i).2 := fun i => Classical.choose_spec (each' i)
        obtain ⟨b, o, spot⟩ := a
        have hc0 : ∀ i j, i < len → j < P.cellsOf e → w.cell? (((⟨b, o, spot⟩ : Addr).add (i * P.cellsOf e)).add j) = (Q i).1[j]? ∧ j < (Q i).1.length := fun i j hi hj => by
          obtain ⟨h1, h2⟩ := cells_get (hQ i hi).1
          exact ⟨h2 j hj, by omega⟩
        have hsp : spot = none := by
          cases spot with
          | none => rfl
          | some z =>
            exfalso
            obtain ⟨h1, h2⟩ := hc0 0 0 (by omega) (by omega)
            rw [List.getElem?_eq_getElem h2] at h1
            have : w.cell? ⟨b, o, some z⟩ = some ((Q 0).1[0]) := by simpa [Addr.add] using h1
            unfold World.cell? at this
            split at this
            · simp at this
            · cases this
        subst hsp
        have hcell : ∀ i j, i < len → j < P.cellsOf e → hcell w.heap ⟨b, o + i * P.cellsOf e + j, none⟩ = (Q i).1[j]? := fun i j hi hj => by
          have h1 := (hc0 i j hi hj).1
          rw [add_plain, add_plain] at h1
          exact h1
        have hblk : ∃ arr T f, w.heap[b]? = some (.cells arr T f) := by
          have h1 := hcell 0 0 (by omega) (by omega)
          rw [List.getElem?_eq_getElem (hc0 0 0 (by omega) (by omega)).2] at h1
          unfold Go.Proofs.Ytjcjlhpabjjflaa.hcell at h1
          cases hbb : w.heap[b]? with
          | none => simp [hbb] at h1
          | some ob =>
            cases ob <;> simp [hbb] at h1
            exact ⟨_, _, _, rfl⟩
        obtain ⟨arr, T, f, hbk⟩ := hblk
        have hlen : ((List.range len).map fun i => (Q i).2).length = len := by simp
        have hrow : ∀ {i : Nat} {r : List U}, ((List.range len).map fun i => (Q i).2)[i]? = some r → i < len ∧ r = (Q i).2 := fun {i r} hr => by
          rw [List.getElem?_map] at hr
          cases hri : (List.range len)[i]? with
          | none => rw [hri] at hr; cases hr
          | some k =>
            rw [hri] at hr
            obtain ⟨h1, h2⟩ := List.getElem?_eq_some_iff.1 hri
            simp at h1 h2 hr
            subst h2
            exact ⟨h1, hr.symm⟩
        have hr : Rd (allD w.heap) (.slice (some ⟨b, o, none⟩) len cap) (.l ((List.range len).map fun i => (Q i).2)) := by
          have := Rd.row (D := allD w.heap) b o cap arr T f ((List.range len).map fun i => (Q i).2) (P.cellsOf e) (fun i j => (Q i).1.getD j undef) hbk (by rw [hlen]; exact hl)
            (fun r hr => by
              obtain ⟨i, hi, rfl⟩ := List.mem_map.1 hr
              have hi' : i < len := by simpa using hi
              rw [(hQ i hi').2.2.1, (cells_get (hQ i hi').1).1])
            (fun i j r u hi hj => by
              obtain ⟨h1, rfl⟩ := hrow hi
              have hj' : j < P.cellsOf e := by
                have := (List.getElem?_eq_some_iff.1 hj).1
                rwa [(hQ i h1).2.2.1, (cells_get (hQ i h1).1).1] at this
              have := hcell i j h1 hj'
              rw [hcell_of hbk] at this
              rw [this]
              simp [(hc0 i j h1 hj').2])
            (fun i j r u hi hj => by
              obtain ⟨h1, rfl⟩ := hrow hi
              obtain ⟨v, hv, hrd⟩ := (hQ i h1).2.1.get hj
              simp only [List.getD_eq_getElem?_getD, hv, Option.getD_some]; exact hrd)
          rwa [hlen] at this
        refine ⟨[.l _], .cons hr .nil, rfl, fun us' h => ⟨_, us', rfl, by rw [hlen]; omega, fun row hrow' => ?_, h⟩⟩
        obtain ⟨i, hi, rfl⟩ := List.mem_map.1 hrow'
        exact (hQ i (by simpa using hi)).2.2.2
      | struct fs =>
        simp only at hd
        split at hd
        · rename_i hct
          unfold DataW.trodStep at hx
          rw [hu] at hx
          simp only at hx
          split at hx
          · rename_i hl
            simp only [Option.map_eq_some_iff] at hx
            obtain ⟨xs, hxs, -⟩ := hx
            obtain ⟨h1, h2⟩ := mapM_get hxs
            rw [← hl] at hct
            have hfl := drops fs.toList 0 hct (Nat.zero_le _)
            rw [List.drop_zero] at hfl
            have := all_rd (R := RdL (allD w.heap)) (fun a b => a.append b) .nil (g := dsOf P m) (r := DataW.trod enc P w 0 sp held n) (fun t cs x d rest a b => ih t cs x d rest a b) (fs.toList.map (·.type)) (fs.toList.map fun f => (cs.drop f.offset).take (P.cellsOf f.type)) d rest hd (by simp) fun i t' cs' a b => by
              rw [List.getElem?_map] at a b
              cases hf : fs.toList[i]? with
              | none => rw [hf] at a; cases a
              | some f =>
                rw [hf] at a b
                cases a; cases b
                obtain ⟨y, hy, -⟩ := h2 i f hf
                exact ⟨y, hy⟩
            rw [hfl] at this
            exact this
          · cases hx
        · cases hd
      | array k e =>
        simp only at hd
        split at hd
        · rename_i hct
          unfold DataW.trodStep at hx
          rw [hu] at hx
          simp only at hx
          split at hx
          · rename_i hl
            simp only [Option.map_eq_some_iff] at hx
            obtain ⟨xs, hxs, -⟩ := hx
            obtain ⟨h1, h2⟩ := mapM_get hxs
            rw [hct] at hl
            have hfl := drops_arr (cs := cs) (k := P.cellsOf e) k 0 (by rw [hl, Nat.zero_add])
            rw [Nat.zero_mul, List.drop_zero] at hfl
            simp only [Nat.zero_add] at hfl
            have := all_rd (R := RdL (allD w.heap)) (fun a b => a.append b) .nil (g := dsOf P m) (r := DataW.trod enc P w 0 sp held n) (fun t cs x d rest a b => ih t cs x d rest a b) (List.replicate k e) ((List.range k).map fun i => (cs.drop (i * P.cellsOf e)).take (P.cellsOf e)) d rest hd (by simp) fun i t' cs' a b => by
              rw [List.getElem?_map] at b
              obtain ⟨a1, a2⟩ := List.getElem?_eq_some_iff.1 a
              simp at a1 a2
              subst a2
              rw [List.getElem?_range a1] at b
              cases b
              obtain ⟨y, hy, -⟩ := h2 i i (by simp [a1])
              exact ⟨y, hy⟩
            rw [hfl] at this
            exact this
          · cases hx
        · cases hd
      | _ => cases hd
end
theorem rows_of {α : Type} {e : α → List U} {Q : α → Prop} {d : Ds} (hc : ∀ r, ShU d r → ∃ x, r = e x ∧ Q x) {rows : List (List U)} (h : ∀ r ∈ rows, ShU d r) : ∃ l : List α, rows = l.map e ∧ ∀ x ∈ l, Q x := by
  induction rows with
  | nil => exact ⟨[], rfl, by simp⟩
  | cons r rows ih =>
    obtain ⟨l, rfl, hl⟩ := ih fun r hr => h r (by simp [hr])
    obtain ⟨x, rfl, hx⟩ := hc r (h r (by simp))
    exact ⟨x :: l, rfl, fun y hy => by rcases List.mem_cons.1 hy with rfl | hy; exact hx; exact hl y hy⟩
section
variable {H : Type} {enc : TypeId × Value → H} {P : Program} {W : World} {sp : Nat → Bool} {held : Bool}
theorem open_data {t : TypeId} {ds : Ds} {v : Value} {d : DataW H} {ps : List MemPlace} (hd : dsOf P 12 t .nil = some ds) (h : DataW.Trod enc P W 0 sp held t v d ps) : ∃ us, RdL (allD W.heap) v.cells.toList us ∧ ShU ds us := by
  obtain ⟨fuel, hf⟩ := h
  obtain ⟨us, h1, -, h3⟩ := trod_rd 12 fuel t _ _ ds .nil hd hf
  exact ⟨us, h1, by simpa using h3 [] rfl⟩
theorem open_rows {t e : TypeId} {ds : Ds} {v : Value} {d : DataW H} {ps : List MemPlace} {b0 : Nat} {r : Reach} {α : Type} {en : α → List U} {Q : α → Prop} (hu : P.underlying t = some (.slice e)) (hd : dsOf P 12 t .nil = some (.l ds .nil)) (hc : ∀ r, ShU ds r → ∃ x, r = en x ∧ Q x)
    (hval : Value.okWide P W r b0 t v) (h : DataW.Trod enc P W 0 sp held t v d ps) : ∃ (a : Option Addr) (n c : Nat) (l : List α), v = .slice a n c ∧ Rd (allD W.heap) (.slice a n c) (.l (l.map en)) ∧ ∀ x ∈ l, Q x := by
  obtain ⟨a, n, c, rfl⟩ := Go.WideShapes.okWide_slice hu hval
  obtain ⟨us, h1, rows, us', rfl, -, hr, rfl⟩ := open_data hd h
  obtain ⟨l, rfl, hl⟩ := rows_of hc hr
  cases h1 with
  | cons x _ => exact ⟨a, n, c, l, rfl, x, hl⟩
end
def in64 (x : Int) : Prop := -9223372036854775808 ≤ x ∧ x ≤ 9223372036854775807
theorem in64_of {n : Int} (h : (Lit.int .i64 n).wf = true) : in64 n := by
  have h1 : IntKind.min .i64 = -9223372036854775808 := by decide
  have h2 : IntKind.max .i64 = 9223372036854775807 := by decide
  simp only [Lit.wf, h1, h2, Bool.and_eq_true, decide_eq_true_eq] at h
  exact h
theorem St.all (h : Heap) : St (allD h) [] h := ⟨by simp [ids], by simp, fun b o hb => ⟨hb, by simp [ids]⟩⟩
theorem St.kept {h h' : Heap} {C : List Chunk} {D : Fz} (l : Le (allD h) D) (S : St D C h') : Keep h h' where
  size := by
    rcases Nat.lt_or_ge h'.size h.size with hlt | hge
    · exfalso
      have h1 := (S.fz h'.size _ (l _ _ (show allD h h'.size = some h[h'.size] by simp [allD, hlt]))).1
      have := lt_of_get h1; omega
    · exact hge
  blk b hb _ := by
    have h1 := (S.fz b _ (l _ _ (show allD h b = some h[b] by simp [allD, hb]))).1
    rw [h1]; simp [hb]
end Go.Proofs.Ytjcjlhpabjjflaa
