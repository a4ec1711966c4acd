/- The engine, part f: code and functions. -/
import Derived.Test.YtjcjlhpabjjflaaEe
namespace Go.Proofs.Ytjcjlhpabjjflaa
open Go

section
variable {P : Program}

/- ## The canonical order -/
structure Lst (ops : List Oper) (done : List Nat) (listed : Array Bool) : Prop where
  size : listed.size = ops.length
  eq : ∀ k, k < ops.length → listed.getD k true = done.contains k
  bd : ∀ k, done.contains k = true → k < ops.length

theorem Lst.getF {ops : List Oper} {done : List Nat} {listed : Array Bool} (h : Lst ops done listed) {k : Nat} (hk : k < ops.length) : listed.getD k false = done.contains k := by
  have := h.eq k hk
  have hs : k < listed.size := by rw [h.size]; exact hk
  simp [hs] at this ⊢
  exact this
theorem Lst.set {ops : List Oper} {done : List Nat} {listed : Array Bool} (h : Lst ops done listed) (i : Nat) (hi : i < ops.length) : Lst ops (i :: done) (listed.setIfInBounds i true) := by
  refine ⟨by simp [h.size], fun k hk => ?_, fun k hk => ?_⟩
  rotate_left
  · rw [List.contains_cons, Bool.or_eq_true, beq_iff_eq] at hk
    rcases hk with rfl | hk
    · exact hi
    · exact h.bd k hk
  have hs : i < listed.size := by rw [h.size]; exact hi
  by_cases hik : i = k
  · subst hik; simp [hs]
  · rw [getD_set_ne true hik, h.eq k hk]
    have : (k == i) = false := by simpa using Ne.symm hik
    simp only [List.contains_cons, this, Bool.false_or]

theorem mem_readyL {ops : List Oper} {done : List Nat} {listed : Array Bool} (h : Lst ops done listed) {i : Nat} :
    i ∈ Region.ready .any ops.toArray listed ↔ readyL ops done i = true := by
  rw [mem_ready]
  unfold readyL
  simp only [List.getElem?_toArray]
  cases ho : ops[i]? with
  | none => simp
  | some o =>
    have hlt : i < ops.length := (List.getElem?_eq_some_iff.1 ho).1
    rw [h.eq i hlt]
    simp only [Option.some.injEq, exists_eq_left', Bool.and_eq_true, Bool.not_eq_true', List.all_eq_true, Bool.or_eq_true]
    refine and_congr_right fun _ => ⟨fun hh e he => ?_, fun hh e he hb => ?_⟩
    · cases hb : Region.binds .any e with
      | false => exact .inl rfl
      | true =>
        refine .inr ?_
        have h1 := hh e (by simpa using he) hb
        rcases Nat.lt_or_ge e.on ops.length with h2 | h2
        · rw [← h.getF h2]; exact h1
        · simp [show listed.size ≤ e.on by rw [h.size]; exact h2] at h1
    · have h1 := (hh e (by simpa using he)).resolve_left (by simp [hb])
      rcases Nat.lt_or_ge e.on ops.length with h2 | h2
      · rw [h.getF h2]; exact h1
      · exact absurd (h.bd _ h1) (by omega)


theorem find_range {n : Nat} {p : Nat → Bool} {i : Nat} (h : (List.range n).find? p = some i) : i < n ∧ p i = true :=
  ⟨List.mem_range.1 (List.mem_of_find?_eq_some h), List.find?_some h⟩

theorem nextOf_ready {ops : List Oper} {done : List Nat} {i : Nat} (h : nextOf ops done = some i) : readyL ops done i = true := by
  unfold nextOf at h
  split at h
  · rename_i j hj
    have := (find_range hj).2
    simp only [Bool.and_eq_true] at this
    cases h; exact this.1
  · exact (find_range h).2

/-- What is held, as constraints. -/
def consOf (P : Program) (held : List (Nat × Oper × List Value × Value)) : List (Nat × (World → Prop)) :=
  held.map fun x => (x.1, fun w => (execOp (ev x.2.2.1) x.2.1).run P w = .ok (.value x.2.2.2) w)

theorem again_spec {ops : List Oper} {e : Nat} {h : Heap} : ∀ {held : List (Nat × Oper × List Value × Value)} {K : Prop}, again P ops e h held K →
    K ∧ ∀ c ∈ consOf P held, waits ops ops.length c.1 e = false → ∀ w : World, w.heap = h → c.2 w
  | [], K, hh => ⟨hh, fun c hc => by simp [consOf] at hc⟩
  | (i, o, t, v) :: l, K, hh => by
    simp only [again] at hh
    cases hw : waits ops ops.length i e with
    | true =>
      rw [hw] at hh
      obtain ⟨hK, hc⟩ := again_spec hh
      refine ⟨hK, fun c hcm hcw => ?_⟩
      simp only [consOf, List.map_cons, List.mem_cons] at hcm
      rcases hcm with rfl | hcm
      · rw [hw] at hcw; cases hcw
      · exact hc c hcm hcw
    | false =>
      rw [hw] at hh
      obtain ⟨hK, hc⟩ := again_spec hh.2
      refine ⟨hK, fun c hcm hcw w hhw => ?_⟩
      simp only [consOf, List.map_cons, List.mem_cons] at hcm
      rcases hcm with rfl | hcm
      · obtain ⟨v', rfl, hr⟩ := read_sound hh.1
        exact hr w hhw
      · exact hc c hcm hcw w hhw

theorem draw_sound {H : Hn} {ops : List Oper} {K : List Value → Heap → Prop} {md : List Nat} {Q : Exit → Act → World → Prop} (hsel : Region.noSelect ops.toArray = true)
    (hQ : ∀ c a w, ¬ Q (.panic c) a w) (hQo : ∀ a w, ¬ Q .outgrown a w) (hm : ∀ o ∈ ops, ∀ d, o.dst = some d → d ∈ md) :
    ∀ (n : Nat) (done : List Nat) (held : List (Nat × Oper × List Value × Value)) (listed : Array Bool) (a : Act) (w : World), vcDraw P H ops K n done held a.tmps.toList w.heap → drawB ops n done = true →
      Lst ops done listed → Closed ops listed → a.defers = [] → (∀ a' w', Up md a.tmps.toList w K a' w' → Q .normal a' w') → wpF P ops Q (consOf P held) n listed a w := by
  intro n
  induction n with
  | zero =>
    intro done held listed a w hh hB hL hcl hd hK
    refine ⟨?_, hK a w ⟨hd, .refl w, .refl _ _, hh⟩⟩
    simp only [drawB, List.all_eq_true, List.mem_range] at hB
    rw [List.eq_nil_iff_forall_not_mem]
    intro i hi
    obtain ⟨h0, o, ho, -⟩ := mem_ready.1 hi
    have hlt : i < ops.length := by
      have := (Array.getElem?_eq_some_iff.1 ho).1
      simpa using this
    rw [hL.eq i hlt, hB i hlt] at h0
    cases h0
  | succ n ih =>
    intro done held listed a w hh hB hL hcl hd hK
    simp only [vcDraw] at hh
    simp only [drawB] at hB
    cases hn : nextOf ops done with
    | none => rw [hn] at hh; exact hh.elim
    | some i =>
      rw [hn] at hh hB
      simp only at hh hB
      cases ho : ops[i]? with
      | none => rw [ho] at hh; exact hh.elim
      | some o =>
        rw [ho] at hh hB
        simp only [Bool.and_eq_true] at hh hB
        obtain ⟨hB1, hB2⟩ := hB
        have hilt : i < ops.length := (List.getElem?_eq_some_iff.1 ho).1
        have hri : i ∈ Region.ready .any ops.toArray listed := (mem_readyL hL).2 (nextOf_ready hn)
        have homem : o ∈ ops := List.mem_of_getElem? ho
        have hput : ∀ v, Agr md a.tmps.toList (a.put o.dst v).tmps.toList := fun v => by rw [put_list]; exact .put v fun d hd => hm o homem d hd
        have hL' := hL.set i hilt
        have hcl' := hcl.set hri
        have sel : ∀ (j : Nat) (o : Oper) cs b, ops[j]? = some o → o.op ≠ .select cs b := fun j o cs b hj => Region.noSelect_spec hsel j o cs b (by simpa using hj)
        -- what is shown of the rest
        have rest : ∀ (held' : List (Nat × Oper × List Value × Value)) (v : Value) (w' : World), vcDraw P H ops K n (i :: done) held' (lput a.tmps.toList o.dst v) w'.heap → Same w w' →
            wpF P ops Q (consOf P held') n (listed.setIfInBounds i true) (a.put o.dst v) w' := fun held' v w' h1 hS =>
          ih (i :: done) held' _ (a.put o.dst v) w' (by rw [put_list]; exact h1) hB2 hL' hcl' (by rw [put_defers']; exact hd) fun a' w'' hU =>
            hK a' w'' ⟨hU.1, hS.trans hU.2.1, (hput v).trans hU.2.2.1, hU.2.2.2⟩
        by_cases hq : (pureOp o || readOp o) = true
        · rw [if_pos hq] at hB1
          have hfree : ∀ j oj, ops[j]? = some oj → j ≠ i → listed.getD j true = false → (∀ e ∈ oj.after, Region.binds .any e = true → e.on ≠ i) → o.apart ops.toArray oj = true := by
            intro j oj hj hji hun hno
            have hjlt : j < ops.length := (List.getElem?_eq_some_iff.1 hj).1
            have h1 := List.all_eq_true.1 hB1 j (List.mem_range.2 hjlt)
            rw [hj] at h1
            rw [hL.eq j hjlt] at hun
            simp only [Bool.or_eq_true, beq_iff_eq, hji, false_or, hun, Bool.false_eq_true, List.any_eq_true, Bool.and_eq_true] at h1
            rcases h1 with ⟨e, he, hb, hon⟩ | h1
            · exact absurd hon (hno e (by simpa using he) hb)
            · exact h1
          rcases guarded_spec hh with ⟨hw, h1⟩ | ⟨hw, h1⟩
          · cases hp : pureOp o with
            | true =>
              simp only [hp, cond_true] at h1
              obtain ⟨v, hv, hr⟩ := pure_sound h1
              refine wpF_first (C := fun _ => True) ho sel hQ hQo (fun _ h => h) (fun _ _ _ _ _ _ => trivial) n listed a w hcl hfree hri (.inl ⟨hw, fun w' _ => by rw [eval_eq]; exact hr w'⟩) trivial (rest held v w hv (.refl w))
            | false =>
              have hro : readOp o = true := by simpa [hp] using hq
              simp only [hp, cond_false, hro, cond_true] at h1
              obtain ⟨v, hv, hr⟩ := read_sound h1
              refine wpF_first (C := fun w' => (execOp (ev a.tmps.toList) o).run P w' = .ok (.value v) w') ho sel hQ hQo (Cs' := consOf P ((i, o, a.tmps.toList, v) :: held)) (fun c hc => List.mem_cons_of_mem _ hc)
                (fun j w1 w2 hall hwt hC => hall (i, _) (List.mem_cons_self ..) hwt hC) n listed a w hcl hfree hri (.inl ⟨hw, fun w' hw' => by rw [eval_eq]; exact hw'⟩) (hr w rfl) (rest _ v w hv (.refl w))
          · exact wpF_first (C := fun _ => True) ho sel hQ hQo (fun _ h => h) (fun _ _ _ _ _ _ => trivial) n listed a w hcl hfree hri (.inr ⟨hw, rfl⟩) trivial (rest held undef w h1 (.refl w))
        · rw [if_neg hq] at hB1
          have hp : pureOp o = false := by cases h : pureOp o <;> simp [h] at hq ⊢
          have hro : readOp o = false := by cases h : readOp o <;> simp [h] at hq ⊢
          refine ⟨fun h0 => (by rw [h0] at hri; cases hri), fun j hj => ?_⟩
          have hji : j = i := by
            have hjr := (mem_readyL hL).1 hj
            have hjlt : j < ops.length := by
              have := (mem_ready.1 hj).2
              obtain ⟨oj, hoj, -⟩ := this
              have := (Array.getElem?_eq_some_iff.1 hoj).1
              simpa using this
            have h1 := List.all_eq_true.1 hB1 j (List.mem_range.2 hjlt)
            simpa [hjr] using h1
          subst hji
          unfold wpOp
          simp only [List.getElem?_toArray, ho]
          rcases guarded_spec hh with ⟨hw, h1⟩ | ⟨hw, h1⟩
          · rw [if_pos hw]
            simp only [hp, hro, cond_false] at h1
            refine .inl (gen_sound (eff_sound h1) (eval_eq a) rfl fun v w' hA hS => ?_)
            obtain ⟨hA, hC⟩ := again_spec hA
            exact ⟨fun c hc hcw _ => hC c hc hcw w' rfl, rest held v w' hA hS⟩
          · rw [if_neg (by rw [hw]; simp)]
            exact ⟨fun _ _ _ h => h, rest held undef w h1 (.refl w)⟩

/- ## Typed predicates -/
def mkI : (l : List Sh) → (List Value → Heap → Prop) → InvT l
  | [], f => fun h => f [] h
  | .i k :: l, f => fun n => mkI l fun vs h => f (.int k n :: vs) h
  | .b :: l, f => fun c => mkI l fun vs h => f (.bool c :: vs) h
  | .s :: l, f => fun s => mkI l fun vs h => f (.string s :: vs) h
  | .p :: l, f => fun a => mkI l fun vs h => f (.pointer a :: vs) h
  | .sl :: l, f => fun a n c => mkI l fun vs h => f (.slice a n c :: vs) h
  | .m :: l, f => fun r => mkI l fun vs h => f (.map r :: vs) h
  | .v :: l, f => fun v => mkI l fun vs h => f (v :: vs) h

theorem app_mkI : ∀ (l : List Sh) (f : List Value → Heap → Prop) (vs : List Value) (h : Heap), app l (mkI l f) vs h → f vs h
  | [], f, vs, h, hh => by cases vs <;> first | exact hh | exact hh.elim
  | x :: l, f, vs, h, hh => by
    cases x <;> cases vs <;> first
      | exact hh.elim
      | (rename_i v vs
         cases v <;> first
           | exact hh.elim
           | (simp only [app] at hh; obtain ⟨h3, h2⟩ := kindEq_spec hh; subst h3; exact app_mkI l _ vs h h2)
           | exact app_mkI l _ vs h hh)

theorem allTo_mkI : ∀ (l : List Sh) (f : List Value → Heap → Prop) (h : Heap), allTo l (mkI l f) h fun vs => f vs h
  | [], f, h => fun hh => hh
  | x :: l, f, h => by
    cases x
    case sl => intro a n c; exact allTo_mkI l _ h
    all_goals (intro y; exact allTo_mkI l _ h)

theorem allI_spec : ∀ (l : List Sh) (I : InvT l) (h : Heap) (C : List Value → Prop), allI l I h C → ∀ vs, app l I vs h → C vs
  | [], I, h, C, hh, vs, ha => by cases vs <;> first | exact hh ha | exact ha.elim
  | x :: l, I, h, C, hh, vs, ha => by
    cases x <;> cases vs <;> first
      | exact ha.elim
      | (rename_i v vs
         cases v <;> first
           | exact ha.elim
           | (simp only [app] at ha; obtain ⟨h3, h2⟩ := kindEq_spec ha; subst h3; exact allI_spec l _ h _ (hh _) vs h2)
           | exact allI_spec l _ h _ (hh _) vs ha
           | exact allI_spec l _ h _ (hh _ _ _) vs ha)

/- ## Frames at a loop's head -/
theorem lset_get : ∀ (l : List Value) (i : Nat), lset l i (lget l i) = l
  | [], _ => rfl
  | _ :: _, 0 => rfl
  | x :: l, i + 1 => by simp only [lset, lget]; rw [lset_get l i]
theorem setAll_self (t : List Value) : ∀ L : List (Nat × Sh), setAll t (slots L) (vals t L) = t
  | [] => rfl
  | p :: L => by simp only [slots, vals, setAll]; rw [lset_get]; exact setAll_self t L
theorem garb_len (md : List Nat) (g : Nat → Value) : ∀ (t : List Value) (k : Nat), (garb md g t k).length = t.length
  | [], _ => rfl
  | _ :: t, k => by simp [garb, garb_len md g t (k + 1)]
theorem garb_get (md : List Nat) (g : Nat → Value) : ∀ (t : List Value) (k i : Nat), i < t.length → lget (garb md g t k) i = cond (md.contains (k + i)) (g (k + i)) (lget t i)
  | [], _, _, h => by simp at h
  | v :: t, k, 0, _ => by simp [garb, lget]
  | v :: t, k, i + 1, h => by
    simp only [garb, lget]
    rw [garb_get md g t (k + 1) i (by simpa using h)]
    rw [show k + 1 + i = k + (i + 1) by omega]
theorem lget_ext : ∀ (a b : List Value), a.length = b.length → (∀ i, i < a.length → lget a i = lget b i) → a = b
  | [], [], _, _ => rfl
  | [], _ :: _, h, _ => by simp at h
  | _ :: _, [], h, _ => by simp at h
  | x :: a, y :: b, h, hh => by
    have h0 := hh 0 (by simp)
    simp only [lget] at h0
    rw [h0, lget_ext a b (by simpa using h) fun i hi => by have := hh (i + 1) (by simpa using hi); simpa [lget] using this]
theorem frameAt_self {md : List Nat} {t t' : List Value} (h : Agr md t t') (L : List (Nat × Sh)) : frameAt md t L (lget t') (vals t' L) = t' := by
  have hg : garb md (lget t') t 0 = t' := by
    refine lget_ext _ _ (by rw [garb_len, h.len]) fun i hi => ?_
    rw [garb_len] at hi
    rw [garb_get md _ t 0 i hi, Nat.zero_add]
    cases hc : md.contains i with
    | true => rfl
    | false => exact (h.same i (by simpa using hc)).symm
  unfold frameAt
  rw [hg]
  exact setAll_self t' L

/- ## Code -/
def Lift (Q : Post) (md : List Nat) (t : List Value) (w : World) : Exit → Act → World → Prop
  | .normal, a', w' => Up md t w (Q .nrm) a' w'
  | .exit id, a', w' => Up md t w (Q (.ext id)) a' w'
  | .ret, a', w' => Up md t w (Q .ret) a' w'
  | _, _, _ => False

theorem Up.mono {md md' : List Nat} {t : List Value} {w : World} {K K' : List Value → Heap → Prop} {a' : Act} {w' : World} (h : Up md t w K a' w') (hm : ∀ i ∈ md, i ∈ md') (hK : ∀ t h, K t h → K' t h) : Up md' t w K' a' w' :=
  ⟨h.1, h.2.1, h.2.2.1.mono hm, hK _ _ h.2.2.2⟩
/-- Behind a first piece. -/
theorem Up.after {md md' mD : List Nat} {t : List Value} {w w1 : World} {a1 : Act} {K K' : List Value → Heap → Prop} {a' : Act} {w' : World} (h1 : Up md t w K a1 w1) (h2 : Up md' a1.tmps.toList w1 K' a' w')
    (hm : ∀ i ∈ md, i ∈ mD) (hm' : ∀ i ∈ md', i ∈ mD) : Up mD t w K' a' w' :=
  ⟨h2.1, h1.2.1.trans h2.2.1, (h1.2.2.1.mono hm).trans (h2.2.2.1.mono hm'), h2.2.2.2⟩

theorem rep_get {n k : Nat} (d : Bool) (hk : k < n) : (Array.replicate n false).getD k d = false := by
  rw [Array.getD_eq_getD_getElem?, Array.getElem?_replicate, if_pos hk]; rfl
theorem rep_getF (n k : Nat) : (Array.replicate n false).getD k false = false := by
  rw [Array.getD_eq_getD_getElem?, Array.getElem?_replicate]; split <;> rfl

theorem vc_sound (hmix : P.follows .mixedOrders = true) {H : Hn} : ∀ (c : Code) (Q : Post) (a : Act) (w : World), vc P H c Q a.tmps.toList w.heap → a.defers = [] →
    c.wp P (Lift Q (mods c) a.tmps.toList w) a w := by
  intro c
  induction c with
  | skip => intro Q a w hh hd; exact wp_skip ⟨hd, .refl w, .refl _ _, hh⟩
  | region id ops d =>
    intro Q a w hh hd
    simp only [vc] at hh
    have hm : ∀ o ∈ ops.toList, ∀ d', o.dst = some d' → d' ∈ mods (.region id ops d) := fun o ho d' hd' => by
      simp only [mods, List.mem_append]
      exact .inl (List.mem_filterMap.2 ⟨o, ho, hd'⟩)
    cases d with
    | false =>
      have := ops_sound (P := P) (Q := Lift Q (mods (.region id ops false)) a.tmps.toList w) ops.toList a w hh hd hm (fun a' w' hU => hU)
      refine wp_region_list ?_
      simpa using this
    | true =>
      obtain ⟨hB, hh⟩ := cond_spec hh
      refine wp_region_any hmix ?_
      rw [Bool.and_eq_true] at hB
      obtain ⟨hB, hsel⟩ := hB
      have key := draw_sound (P := P) (md := mods (.region id ops true)) (Q := Lift Q (mods (.region id ops true)) a.tmps.toList w) hsel (fun _ _ _ h => h) (fun _ _ h => h) hm ops.toList.length [] [] (Array.replicate ops.toList.length false) a
        { w with drawn := w.drawn + 1 } hh hB ⟨by simp, fun k hk => by rw [rep_get true hk]; simp, fun k hk => by simp at hk⟩ (fun j oj hj hl => by rw [rep_getF] at hl; cases hl)
        hd (fun a' w' hU => ⟨hU.1, ⟨hU.2.1.tape, hU.2.1.os, hU.2.1.output, Nat.le_trans (Nat.le_succ _) hU.2.1.drawn⟩, hU.2.2.1, hU.2.2.2⟩)
      have := wpF_any _ _ _ _ key
      simpa using this
  | seq x y ihx ihy =>
    intro Q a w hh hd
    simp only [vc] at hh
    have hmx : ∀ i ∈ mods x, i ∈ mods (.seq x y) := fun i hi => by simp only [mods, List.mem_append]; exact .inl hi
    have hmy : ∀ i ∈ mods y, i ∈ mods (.seq x y) := fun i hi => by simp only [mods, List.mem_append]; exact .inr hi
    have go : ∀ (K : List Value → Heap → Prop), vc P H x (thenQ K Q) a.tmps.toList w.heap → (∀ a1 w1, Up (mods x) a.tmps.toList w K a1 w1 → vc P H y Q a1.tmps.toList w1.heap) →
        (Code.seq x y).wp P (Lift Q (mods (.seq x y)) a.tmps.toList w) a w := by
      intro K hx hK
      refine wp_seq (wp_mono (ihx _ a w hx hd) fun e a1 w1 hq => ?_)
      cases e with
      | normal =>
        refine wp_mono (ihy Q a1 w1 (hK a1 w1 hq) hq.1) fun e a2 w2 hq2 => ?_
        cases e with
        | normal => exact Up.after hq hq2 hmx hmy
        | exit id => exact Up.after hq hq2 hmx hmy
        | ret => exact Up.after hq hq2 hmx hmy
        | _ => exact hq2.elim
      | exit id => exact Up.mono hq hmx fun _ _ h => h
      | ret => exact Up.mono hq hmx fun _ _ h => h
      | _ => exact hq.elim
    cases hj : hasHint H.js (firstRegion y) with
    | false =>
      rw [hj] at hh
      exact go _ hh fun a1 w1 hU => hU.2.2.2
    | true =>
      rw [hj] at hh
      refine go _ (hh (mkI _ fun vs h' => ∀ g : Nat → Value, vc P H y Q (frameAt (mods x) a.tmps.toList (hintOf H.js (firstRegion y)) g vs) h') fun h' => ?_) fun a1 w1 hU => ?_
      · exact allTo_mkI _ (fun vs h' => ∀ g : Nat → Value, vc P H y Q (frameAt (mods x) a.tmps.toList (hintOf H.js (firstRegion y)) g vs) h') h'
      · have h1 := app_mkI _ _ _ _ hU.2.2.2 (lget a1.tmps.toList)
        rw [frameAt_self hU.2.2.1] at h1
        exact h1
  | cond c x y ihx ihy =>
    intro Q a w hh hd
    simp only [vc] at hh
    unfold bcase at hh
    split at hh
    · rename_i b hb
      refine wp_cond (t := b) (by rw [eval_eq]; exact hb) ?_
      have hmx : ∀ i ∈ mods x, i ∈ mods (.cond c x y) := fun i hi => by simp only [mods, List.mem_append]; exact .inl hi
      have hmy : ∀ i ∈ mods y, i ∈ mods (.cond c x y) := fun i hi => by simp only [mods, List.mem_append]; exact .inr hi
      cases b
      · exact wp_mono (ihy Q a w hh hd) fun e a' w' hq => by
          cases e <;> first | exact Up.mono hq hmy fun _ _ h => h | exact hq.elim
      · exact wp_mono (ihx Q a w hh hd) fun e a' w' hq => by
          cases e <;> first | exact Up.mono hq hmx fun _ _ h => h | exact hq.elim
    · exact hh.elim
  | block id c ih =>
    intro Q a w hh hd
    simp only [vc] at hh
    refine wp_block (wp_mono (ih _ a w hh hd) fun e a' w' hq => ?_)
    cases e with
    | normal => exact hq
    | exit j =>
      simp only [Exit.inBlock]
      by_cases hj : j = id
      · rw [if_pos hj]
        exact Up.mono hq (fun _ h => h) fun t h hk => by simpa [blockQ, hj] using hk
      · rw [if_neg hj]
        have hb : Nat.beq j id = false := by
          cases h : Nat.beq j id with
          | false => rfl
          | true => exact absurd (Nat.eq_of_beq_eq_true h) hj
        exact Up.mono hq (fun _ h => h) fun t h hk => by simpa [blockQ, hb] using hk
    | ret => exact hq
    | _ => exact hq.elim
  | loop c ih =>
    intro Q a w hh hd
    simp only [vc] at hh
    obtain ⟨I, m, h0, hr⟩ := hh
    refine wp_loop (fun a' w' => Up (mods c) a.tmps.toList w (fun t h => app _ I (vals t (hintOf H.hs (firstRegion c))) h) a' w')
      (fun a' w' => appM _ m (vals a'.tmps.toList (hintOf H.hs (firstRegion c))) w'.heap) ⟨hd, .refl w, .refl _ _, h0⟩ fun a1 w1 hU => ?_
    have h1 := allI_spec _ I _ _ (hr (lget a1.tmps.toList) w1.heap) _ hU.2.2.2
    rw [frameAt_self hU.2.2.1] at h1
    refine wp_mono (ih _ a1 w1 h1 hU.1) fun e a2 w2 hq => ?_
    cases e with
    | normal => exact ⟨Up.after hU (hq.mono (fun _ h => h) fun _ _ h => h.1) (fun _ h => h) fun _ h => h, hq.2.2.2.2⟩
    | exit id => exact Up.after hU hq (fun _ h => h) fun _ h => h
    | ret => exact Up.after hU hq (fun _ h => h) fun _ h => h
    | _ => exact hq.elim
  | exit id => intro Q a w hh hd; exact wp_exit ⟨hd, .refl w, .refl _ _, hh⟩
  | ret => intro Q a w hh hd; exact wp_ret ⟨hd, .refl w, .refl _ _, hh⟩
  | scope c ih =>
    intro Q a w hh hd
    refine wp_scope_straight (wp_mono (ih Q a w hh hd) fun e a' w' hq => ?_)
    cases e <;> first | exact hq | exact hq.elim
  | label l => intro Q a w hh hd; exact wp_label ⟨hd, .refl w, .refl _ _, hh⟩
  | _ => intro Q a w hh hd; exact hh.elim


/- ## Functions -/
def rvS (tmps : Array Value) : ResultVar → Sem Value
  | .tmp t => pure (tmps.getD t undef)
  | .cell a t => do loadVar t (← asAddr (tmps.getD a undef))
theorem resS_spec {t : List Value} {h : Heap} {tmps : Array Value} (ht : tmps.toList = t) : ∀ {l : List ResultVar} {K : List Value → Prop}, resS P l t h K →
    ∃ vs, K vs ∧ ∀ w : World, w.heap = h → (l.mapM (rvS tmps)).run P w = .ok vs w
  | [], K, hh => ⟨[], hh, fun w _ => by simp⟩
  | .tmp i :: l, K, hh => by
    simp only [resS] at hh
    obtain ⟨vs, hK, hr⟩ := resS_spec ht hh
    refine ⟨_, hK, fun w hw => ?_⟩
    have he : tmps.getD i undef = lget t i := by rw [← ht, lget_eq]; simp [Array.getD_eq_getD_getElem?]
    have h1 : (rvS tmps (.tmp i)).run P w = .ok (lget t i) w := by rw [← he]; rfl
    simp only [List.mapM_cons, Sem.run_bind, h1, hr w hw, Result.andThen_ok]
    rfl
  | .cell i T :: l, K, hh => by
    simp only [resS] at hh
    split at hh
    · rename_i a ha
      obtain ⟨b, o, v, rfl, h1, h2⟩ := loadK_spec hh
      obtain ⟨vs, hK, hr⟩ := resS_spec ht h1
      refine ⟨_, hK, fun w hw => ?_⟩
      have he : tmps.getD i undef = .pointer (some ⟨b, o, none⟩) := by rw [← ha, ← ht, lget_eq]; simp [Array.getD_eq_getD_getElem?]
      have h3 : (rvS tmps (.cell i T)).run P w = .ok v w := by
        show Sem.run P (do loadVar T (← asAddr (tmps.getD i undef))) w = _
        rw [he]
        simp only [asAddr, Sem.run_bind, Sem.run_pure, Result.andThen_ok, h2 w hw]
      simp only [List.mapM_cons, Sem.run_bind, h3, hr w hw, Result.andThen_ok]
      rfl
    · exact hh.elim

theorem one_spec (vs : List Value) : (if h : vs.toArray.size = 1 then vs.toArray[0] else .tuple vs.toArray) = one vs := by
  match vs with
  | [] => rfl
  | [v] => rfl
  | v :: u :: vs => rw [dif_neg (by simp)]; rfl

theorem results_run {fn : Func} {t : List Value} {h : Heap} {tmps : Array Value} (ht : tmps.toList = t) {R : Value → Heap → Prop} (hh : resS P fn.results.toList t h fun vs => R (one vs) h) :
    ∃ v, R v h ∧ ∀ w : World, w.heap = h → (results fn tmps).run P w = .ok v w := by
  obtain ⟨vs, hK, hr⟩ := resS_spec ht hh
  refine ⟨_, hK, fun w hw => ?_⟩
  have hf : results fn tmps = (fn.results.mapM (rvS tmps) >>= fun vs => pure (if h : vs.size = 1 then vs[0] else .tuple vs)) := by
    unfold results
    refine congrArg (· >>= _) (congrArg (Array.mapM · fn.results) (funext fun x => ?_))
    cases x <;> rfl
  have : (fn.results.mapM (rvS tmps)).run P w = .ok vs.toArray w := by
    rw [Array.mapM_eq_mapM_toList, Sem.run_map, hr w hw]; rfl
  rw [hf, Sem.run_bind]
  rw [this]
  show Sem.run P (pure (if h : vs.toArray.size = 1 then vs.toArray[0] else .tuple vs.toArray)) w = _
  rw [one_spec]
  rfl

theorem fun_sound {f : FuncId} {fn : Func} (hmix : P.follows .mixedOrders = true) (hf : P.funcs[f]? = some fn) (hn : (fn.name == "runtime.NumGoroutine") = false) {H : Hn} {args : List Value} {h : Heap} {R : Value → Heap → Prop}
    (hh : vcFun P H fn args h R) : Run P f args h R := by
  unfold vcFun at hh
  split at hh
  · exact hh.elim
  · rename_i c hc
    refine ⟨⟨fn, hf, hn, by simp [hc]⟩, fun w hw => ?_⟩
    subst hw
    refine calls_of_wp hf hc ?_
    have hl : (args.toArray ++ Array.replicate (fn.ntmps - args.toArray.size) undef : Array Value).toList = args ++ List.replicate (fn.ntmps - args.length) undef := by simp
    refine wp_mono (vc_sound hmix c _ { tmps := args.toArray ++ Array.replicate (fn.ntmps - args.toArray.size) undef, defers := [] } w (by rw [hl]; exact hh) rfl) fun e a' w' hq => ?_
    cases e with
    | normal =>
      obtain ⟨v, hR, hr⟩ := results_run rfl hq.2.2.2
      exact ⟨hq.1, v, hr w' rfl, v, rfl, hR, hq.2.1⟩
    | ret =>
      obtain ⟨v, hR, hr⟩ := results_run rfl hq.2.2.2
      exact ⟨hq.1, v, hr w' rfl, v, rfl, hR, hq.2.1⟩
    | exit id => exact hq.2.2.2.elim
    | _ => exact hq.elim

theorem fun_sound2 {V : Prop} {f : FuncId} {fn : Func} (hmix : P.follows .mixedOrders = true) (hf : P.funcs[f]? = some fn) (hn : (fn.name == "runtime.NumGoroutine") = false) {H : Hn} {args : List Value} {h : Heap} {R : Value → Heap → Prop}
    (hV : V = vcFun P H fn args h R) (hh : V) : Run P f args h R :=
  fun_sound hmix hf hn (hV ▸ hh)

end
end Go.Proofs.Ytjcjlhpabjjflaa
