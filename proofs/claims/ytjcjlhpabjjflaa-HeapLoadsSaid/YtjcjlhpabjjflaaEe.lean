/- The engine, part e: regions (in order, and those that draw their order). -/
import Derived.Test.YtjcjlhpabjjflaaEd
namespace Go.Proofs.Ytjcjlhpabjjflaa
open Go

section
variable {P : Program}

/- ## Frames -/
theorem lget_eq : ∀ (l : List Value) (i : Nat), lget l i = l.getD i undef
  | [], i => by simp [lget]
  | v :: l, 0 => by simp [lget]
  | v :: l, i + 1 => by simp only [lget, lget_eq l i]; simp
theorem lset_eq : ∀ (l : List Value) (i : Nat) (v : Value), lset l i v = l.set i v
  | [], i, v => by simp [lset]
  | x :: l, 0, v => by simp [lset]
  | x :: l, i + 1, v => by simp only [lset, lset_eq l i]; simp
theorem eval_eq (a : Act) : a.eval = ev a.tmps.toList := by
  funext x
  cases x with
  | tmp i => simp only [Act.eval, ev, lget_eq]; simp [Array.getD_eq_getD_getElem?]
  | _ => rfl
theorem put_list (a : Act) (d : Option Tmp) (v : Value) : (a.put d v).tmps.toList = lput a.tmps.toList d v := by
  cases d with
  | none => rfl
  | some i => simp [Act.put, lput, lset_eq]
theorem put_defers' (a : Act) (d : Option Tmp) (v : Value) : (a.put d v).defers = a.defers := by cases d <;> rfl

theorem lget_lset_ne : ∀ (l : List Value) {i j : Nat} (v : Value), i ≠ j → lget (lset l i v) j = lget l j
  | [], _, _, _, _ => rfl
  | x :: l, 0, 0, v, h => absurd rfl h
  | x :: l, 0, j + 1, v, _ => rfl
  | x :: l, i + 1, 0, v, _ => rfl
  | x :: l, i + 1, j + 1, v, h => lget_lset_ne l v (by omega)
theorem length_lset : ∀ (l : List Value) (i : Nat) (v : Value), (lset l i v).length = l.length
  | [], _, _ => rfl
  | _ :: _, 0, _ => rfl
  | _ :: l, i + 1, v => by simp [lset, length_lset l i v]
theorem lset_self : ∀ (l : List Value) (i : Nat) (c : Bool), lget l i = .bool c → lset l i (.bool c) = l
  | [], _, _, _ => rfl
  | x :: l, 0, c, h => by simp only [lget] at h; subst h; rfl
  | x :: l, i + 1, c, h => by simp only [lset]; rw [lset_self l i c h]

/-- The frames agree but for these slots. -/
structure Agr (md : List Nat) (t t' : List Value) : Prop where
  len : t'.length = t.length
  same : ∀ i, i ∉ md → lget t' i = lget t i
theorem Agr.refl (md : List Nat) (t : List Value) : Agr md t t := ⟨rfl, fun _ _ => rfl⟩
theorem Agr.trans {md : List Nat} {a b c : List Value} (h : Agr md a b) (k : Agr md b c) : Agr md a c :=
  ⟨k.len.trans h.len, fun i hi => (k.same i hi).trans (h.same i hi)⟩
theorem Agr.mono {md md' : List Nat} {a b : List Value} (h : Agr md a b) (hm : ∀ i, i ∈ md → i ∈ md') : Agr md' a b :=
  ⟨h.len, fun i hi => h.same i fun hc => hi (hm i hc)⟩
theorem Agr.put {md : List Nat} {t : List Value} {d : Option Tmp} (v : Value) (hd : ∀ i, d = some i → i ∈ md) : Agr md t (lput t d v) := by
  cases d with
  | none => exact .refl _ _
  | some i => exact ⟨length_lset _ _ _, fun j hj => lget_lset_ne _ _ fun e => hj (e ▸ hd i rfl)⟩

/- ## Guards -/
theorem yielded_spec {ops : List Oper} {a : Act} {j : Nat} : yielded ops.toArray a.tmps j = match (ops[j]?).bind (·.dst) with
    | some d => (match lget a.tmps.toList d with | .bool c => some c | _ => none)
    | none => none := by
  unfold yielded
  simp only [List.getElem?_toArray]
  cases hd : (ops[j]?).bind (·.dst) with
  | none => rfl
  | some d =>
    simp only [Option.bind_some, lget_eq]
    cases ht : a.tmps[d]? with
    | none => simp [ht, undef]
    | some v =>
      simp only [List.getD_eq_getElem?_getD, Array.getElem?_toList, ht, Option.getD_some]
      cases v <;> rfl

theorem guarded_spec {ops : List Oper} {o : Oper} {a : Act} {A B : List Value → Prop} (h : guarded ops o a.tmps.toList A B) :
    (Region.wanted o (yielded ops.toArray a.tmps) = true ∧ A a.tmps.toList) ∨ (Region.wanted o (yielded ops.toArray a.tmps) = false ∧ B a.tmps.toList) := by
  unfold guarded guardSlot at h
  unfold Region.wanted
  cases hg : o.guard with
  | none => rw [hg] at h; exact .inl ⟨rfl, h⟩
  | some jw =>
    obtain ⟨j, want⟩ := jw
    rw [hg] at h
    simp only [yielded_spec]
    simp only at h
    cases hd : (ops[j]?).bind (·.dst) with
    | none => rw [hd] at h; exact .inr ⟨by simp, h⟩
    | some d =>
      rw [hd] at h
      simp only at h ⊢
      cases hv : lget a.tmps.toList d with
      | bool c =>
        rw [hv] at h
        simp only at h ⊢
        cases c <;> cases want <;> simp only [cond_true, cond_false, lset_self _ _ _ hv] at h <;> simp [h]
      | _ => rw [hv] at h; exact .inr ⟨by simp, h⟩

/- ## An operation -/
theorem op_sound {H : Hn} {o : Oper} {h : Heap} {K : Value → Heap → Prop} {a : Act} (hh : opK P H a.tmps.toList o h K) {w : World} (hw : w.heap = h)
    {next : Act → World → Prop} {Q : Exit → Act → World → Prop} (hn : ∀ v w', K v w'.heap → Same w w' → next (a.put o.dst v) w') : o.wp P a w next Q := by
  unfold opK at hh
  cases hp : pureOp o with
  | true =>
    simp only [hp, cond_true] at hh
    obtain ⟨v, hK, hr⟩ := pure_sound hh
    unfold Oper.wp
    rw [eval_eq, hr w]
    exact hn v w (hw ▸ hK) (.refl w)
  | false =>
    simp only [hp, cond_false] at hh
    cases hq : readOp o with
    | true =>
      simp only [hq, cond_true] at hh
      obtain ⟨v, hK, hr⟩ := read_sound hh
      unfold Oper.wp
      rw [eval_eq, hr w hw]
      exact hn v w (hw ▸ hK) (.refl w)
    | false =>
      simp only [hq, cond_false] at hh
      exact gen_sound (eff_sound hh) (eval_eq a) hw hn

/-- What a piece of code is shown to come to. -/
def Up (md : List Nat) (t : List Value) (w : World) (K : List Value → Heap → Prop) (a' : Act) (w' : World) : Prop :=
  a'.defers = [] ∧ Same w w' ∧ Agr md t a'.tmps.toList ∧ K a'.tmps.toList w'.heap

theorem ops_sound {H : Hn} {ops : List Oper} {K : List Value → Heap → Prop} {md : List Nat} {Q : Exit → Act → World → Prop} : ∀ (l : List Oper) (a : Act) (w : World),
    vcOps P H ops K l a.tmps.toList w.heap → a.defers = [] → (∀ o ∈ l, ∀ d, o.dst = some d → d ∈ md) → (∀ a' w', Up md a.tmps.toList w K a' w' → Q .normal a' w') → wpList P ops.toArray Q l a w
  | [], a, w, hh, hd, _, hQ => hQ a w ⟨hd, .refl w, .refl _ _, hh⟩
  | o :: l, a, w, hh, hd, hm, hQ => by
    have hput : ∀ v, Agr md a.tmps.toList (a.put o.dst v).tmps.toList := fun v => by rw [put_list]; exact .put v fun i hi => hm o (by simp) i hi
    unfold wpList
    rcases guarded_spec hh with ⟨hw, h1⟩ | ⟨hw, h1⟩
    · rw [if_pos hw]
      refine .inl (op_sound h1 rfl fun v w' hK hS => ?_)
      refine ops_sound l (a.put o.dst v) w' (by rw [put_list]; exact hK) (by rw [put_defers']; exact hd) (fun o' ho' => hm o' (by simp [ho'])) fun a' w'' hU => ?_
      exact hQ a' w'' ⟨hU.1, hS.trans hU.2.1, (hput v).trans hU.2.2.1, hU.2.2.2⟩
    · rw [if_neg (by rw [hw]; simp)]
      refine ops_sound l (a.put o.dst undef) w (by rw [put_list]; exact h1) (by rw [put_defers']; exact hd) (fun o' ho' => hm o' (by simp [ho'])) fun a' w'' hU => ?_
      exact hQ a' w'' ⟨hU.1, hU.2.1, (hput undef).trans hU.2.2.1, hU.2.2.2⟩

/- ## Regions that draw their order -/
/-- Whatever order is picked from here on; what is held stays, unless an operation waits for it. -/
def wpF (P : Program) (ops : List Oper) (Q : Exit → Act → World → Prop) (Cs : List (Nat × (World → Prop))) : Nat → Array Bool → Act → World → Prop
  | 0, listed, a, w => Region.ready .any ops.toArray listed = [] ∧ Q .normal a w
  | n + 1, listed, a, w => (Region.ready .any ops.toArray listed = [] → Q .normal a w) ∧
    ∀ i ∈ Region.ready .any ops.toArray listed, wpOp P ops.toArray Q i (fun a' w' => (∀ c ∈ Cs, waits ops ops.length c.1 i = false → c.2 w → c.2 w') ∧ wpF P ops Q Cs n (listed.setIfInBounds i true) a' w') a w

theorem wpF_any {ops : List Oper} {Q : Exit → Act → World → Prop} {Cs : List (Nat × (World → Prop))} : ∀ (n : Nat) (listed : Array Bool) (a : Act) (w : World), wpF P ops Q Cs n listed a w → wpAny P .any ops.toArray Q n listed a w
  | 0, _, _, _, h => h
  | n + 1, _, _, _, h => ⟨h.1, fun i hi => wpOp_mono (fun a' w' hh => wpF_any n _ a' w' hh.2) (h.2 i hi)⟩

/-- All that is listed has all that it waits for listed. -/
def Closed (ops : List Oper) (listed : Array Bool) : Prop :=
  ∀ j oj, ops[j]? = some oj → listed.getD j false = true → ∀ e ∈ oj.after, Region.binds .any e = true → listed.getD e.on false = true

theorem Closed.set {ops : List Oper} {listed : Array Bool} (hc : Closed ops listed) {i : Nat} (hi : i ∈ Region.ready .any ops.toArray listed) : Closed ops (listed.setIfInBounds i true) := by
  intro j oj hj hl e he hb
  obtain ⟨_, oi, hoi, hall⟩ := mem_ready.1 hi
  by_cases hij : i = j
  · subst hij
    have : oj = oi := Option.some.inj (hj.symm.trans (by simpa using hoi))
    subst this
    exact getD_set_true (hall e he hb)
  · rw [getD_set_ne false hij] at hl
    exact getD_set_true (hc j oj hj hl e he hb)

theorem waits_listed {ops : List Oper} {listed : Array Bool} (hc : Closed ops listed) {i : Nat} : ∀ (n j : Nat) (oj : Oper), ops[j]? = some oj →
    (∀ e ∈ oj.after, Region.binds .any e = true → listed.getD e.on false = true) → waits ops n i j = true → listed.getD i false = true
  | 0, _, _, _, _, h => by simp [waits] at h
  | n + 1, j, oj, hj, hall, h => by
    simp only [waits, hj, List.any_eq_true, Bool.and_eq_true, Bool.or_eq_true, beq_iff_eq] at h
    obtain ⟨e, he, hb, h1⟩ := h
    have hl := hall e (by simpa using he) hb
    rcases h1 with h1 | h1
    · rw [← h1]; exact hl
    · cases hk : ops[e.on]? with
      | none =>
        cases n with
        | zero => simp [waits] at h1
        | succ n => simp [waits, hk] at h1
      | some ok => exact waits_listed hc n e.on ok hk (fun e' he' hb' => hc e.on ok hk hl e' he' hb') h1

def YieldC (P : Program) (ops : List Oper) (o : Oper) (v : Value) (C : World → Prop) (a : Act) : Prop :=
  (Region.wanted o (yielded ops.toArray a.tmps) = true ∧ ∀ w, C w → (execOp a.eval o).run P w = .ok (.value v) w) ∨ (Region.wanted o (yielded ops.toArray a.tmps) = false ∧ v = undef)

theorem YieldC.wpOp {ops : List Oper} {Q : Exit → Act → World → Prop} {i : Nat} {o : Oper} {v : Value} {C : World → Prop} {a : Act} (hi : ops[i]? = some o) (hy : YieldC P ops o v C a) {K : Act → World → Prop} {w : World} (hC : C w)
    (h : K (a.put o.dst v) w) : wpOp P ops.toArray Q i K a w := by
  unfold Go.wpOp
  simp only [List.getElem?_toArray, hi]
  rcases hy with ⟨hw, hv⟩ | ⟨hw, rfl⟩
  · simp only [hw, if_true, Oper.wp, hv w hC, Oper.upon]; exact .inl h
  · simp only [hw, Bool.false_eq_true, if_false]; exact h

theorem YieldC.of_same {ops : List Oper} {o : Oper} {v : Value} {C : World → Prop} {a a' : Act} (hy : YieldC P ops o v C a) (he : execOp a'.eval o = execOp a.eval o)
    (hw : Region.wanted o (yielded ops.toArray a'.tmps) = Region.wanted o (yielded ops.toArray a.tmps)) : YieldC P ops o v C a' := by
  unfold YieldC at *
  rw [he, hw]
  exact hy

/-- Operation oj, apart from oi: whether oi's value is there already makes no difference to it, and it makes none to oi. -/
theorem wpOp_putC {ops : List Oper} {Q : Exit → Act → World → Prop} {j : Nat} {oi oj : Oper} {v : Value} {C : World → Prop} (hj : ops[j]? = some oj) (hap : oi.apart ops.toArray oj = true)
    (hsi : ∀ cs b, oi.op ≠ .select cs b) (hsj : ∀ cs b, oj.op ≠ .select cs b) (hQ : ∀ c a w, ¬ Q (.panic c) a w) (hQo : ∀ a w, ¬ Q .outgrown a w) {K : Act → World → Prop} {a : Act} {w : World}
    (hy : YieldC P ops oi v C a) (h : wpOp P ops.toArray Q j K (a.put oi.dst v) w) :
    wpOp P ops.toArray Q j (fun a' w' => YieldC P ops oi v C a' ∧ K (a'.put oi.dst v) w') a w := by
  obtain ⟨h1, h2, h3⟩ := Oper.apart_spec hap
  have keep : ∀ (a : Act), YieldC P ops oi v C a → ∀ u, YieldC P ops oi v C (a.put oj.dst u) := fun a hy u =>
    hy.of_same (execOp_put oi hsi a oj.dst u h3) (wanted_put oi a oj.dst u h3)
  have keepD : ∀ d, YieldC P ops oi v C { a with defers := d :: a.defers } := fun d => hy.of_same rfl rfl
  unfold Go.wpOp at *
  simp only [List.getElem?_toArray, hj] at *
  rw [wanted_put oj a oi.dst v h1] at h
  split
  · rename_i hw
    simp only [hw, if_true] at h
    rcases h with h | ⟨_, a', w', hlets⟩
    case inr => exact absurd hlets (hQo _ _)
    refine .inl ?_
    unfold Oper.wp at *
    rw [execOp_put oj hsj a oi.dst v h1] at h
    generalize (execOp a.eval oj).run P w = r at *
    cases r with
    | ok n w' =>
      cases n <;> simp only [Oper.upon] at h ⊢
      case value u => exact ⟨keep a hy u, by rw [← Act.put_comm a v u h2]; exact h⟩
      case skip => exact ⟨keep a hy _, by rw [← Act.put_comm a v undef h2]; exact h⟩
      case defer d =>
        refine ⟨keep _ (keepD d) _, ?_⟩
        rw [← Act.put_comm _ v undef h2, ← Act.put_defers]
        exact h
      case enter f args =>
        refine Calls.mono h fun e w'' he => ?_
        cases e with
        | returned u => exact ⟨keep a hy u, by rw [← Act.put_comm a v u h2]; exact he⟩
        | panicked c => exact absurd he (hQ _ _ _)
        | outgrown => obtain ⟨a', w', hlets⟩ := he; exact absurd hlets (hQo _ _)
      case row row args => exact Rows.mono h fun u w'' he => ⟨keep a hy u, by rw [← Act.put_comm a v u h2]; exact he⟩
    | halt x w' =>
      cases x <;> simp only [Oper.upon] at h ⊢
      case panic u => exact absurd h (hQ _ _ _)
  · rename_i hw
    simp only [hw] at h
    exact ⟨keep a hy _, by rw [← Act.put_comm a v undef h2]; exact h⟩

/-- An operation that may come up now may be taken first, if it yields its value as long as C holds, and C stays as long as nothing that waits for it comes up. -/
theorem wpF_first {ops : List Oper} {Q : Exit → Act → World → Prop} {i : Nat} {oi : Oper} {v : Value} {C : World → Prop} (hi : ops[i]? = some oi)
    (hsel : ∀ (j : Nat) (o : Oper) cs b, ops[j]? = some o → o.op ≠ .select cs b) (hQ : ∀ c a w, ¬ Q (.panic c) a w) (hQo : ∀ a w, ¬ Q .outgrown a w)
    {Cs Cs' : List (Nat × (World → Prop))} (hsub : ∀ c ∈ Cs, c ∈ Cs')
    (hC : ∀ j w w', (∀ c ∈ Cs', waits ops ops.length c.1 j = false → c.2 w → c.2 w') → waits ops ops.length i j = false → C w → C w') :
    ∀ (fuel : Nat) (listed : Array Bool) (a : Act) (w : World), Closed ops listed →
      (∀ j oj, ops[j]? = some oj → j ≠ i → listed.getD j true = false → (∀ e ∈ oj.after, Region.binds .any e = true → e.on ≠ i) → oi.apart ops.toArray oj = true) →
      i ∈ Region.ready .any ops.toArray listed → YieldC P ops oi v C a → C w →
      wpF P ops Q Cs' fuel (listed.setIfInBounds i true) (a.put oi.dst v) w → wpF P ops Q Cs (fuel + 1) listed a w := by
  intro fuel
  induction fuel with
  | zero =>
    intro listed a w hcl _ hr hy hCw H
    refine ⟨fun h => (by rw [h] at hr; cases hr), fun j hj => ?_⟩
    by_cases hji : j = i
    · subst hji; exact hy.wpOp hi hCw ⟨fun _ _ _ h => h, H⟩
    · have := ready_mono hj hji
      rw [H.1] at this
      cases this
  | succ fuel ih =>
    intro listed a w hcl hfree hr hy hCw H
    refine ⟨fun h => (by rw [h] at hr; cases hr), fun j hj => ?_⟩
    by_cases hji : j = i
    · subst hji
      refine hy.wpOp hi hCw ⟨fun _ _ _ h => h, ?_⟩
      -- fewer constraints
      have mono : ∀ (n : Nat) (listed : Array Bool) (a : Act) (w : World), wpF P ops Q Cs' n listed a w → wpF P ops Q Cs n listed a w := by
        intro n
        induction n with
        | zero => intro _ _ _ h; exact h
        | succ n ihn => intro _ _ _ h; exact ⟨h.1, fun k hk => wpOp_mono (fun a' w' hh => ⟨fun c hc => hh.1 c (hsub c hc), ihn _ _ _ hh.2⟩) (h.2 k hk)⟩
      exact mono _ _ _ _ H
    · have h1 := H.2 j (ready_mono hj hji)
      obtain ⟨hjun, oj, hoj, hall⟩ := mem_ready.1 hj
      have hoj' : ops[j]? = some oj := by simpa using hoj
      have hiun := (mem_ready.1 hr).1
      have hil : listed.getD i false = false := by
        rcases Nat.lt_or_ge i listed.size with h' | h'
        · simp [h'] at hiun ⊢; exact hiun
        · simp [Array.getElem?_eq_none h'] at hiun
      have hnot : ∀ e ∈ oj.after, Region.binds .any e = true → e.on ≠ i := fun e he hb heq => by
        have h1 := hall e he hb
        rw [heq, hil] at h1
        cases h1
      have hnw : waits ops ops.length i j = false := by
        cases hw : waits ops ops.length i j with
        | false => rfl
        | true =>
          have := waits_listed hcl ops.length j oj hoj' hall hw
          rw [hil] at this; cases this
      have h2 := wpOp_putC hoj' (hfree j oj hoj' hji hjun hnot) (fun cs b => hsel i oi cs b hi) (fun cs b => hsel j oj cs b hoj') hQ hQo hy h1
      have hfree' : ∀ k ok, ops[k]? = some ok → k ≠ i → (listed.setIfInBounds j true).getD k true = false →
          (∀ e ∈ ok.after, Region.binds .any e = true → e.on ≠ i) → oi.apart ops.toArray ok = true := fun k ok hk hki hun hno => by
        refine hfree k ok hk hki ?_ hno
        by_cases hjk : j = k
        · subst hjk; exact hjun
        · rw [getD_set_ne true hjk] at hun; exact hun
      refine wpOp_mono (fun a' w' h3 => ⟨fun c hc => h3.2.1 c (hsub c hc), ih (listed.setIfInBounds j true) a' w' (hcl.set hj) hfree' (ready_mono hr (Ne.symm hji)) h3.1 (hC j w w' h3.2.1 hnw hCw) ?_⟩) h2
      rw [Array.setIfInBounds_comm _ _ hji]
      exact h3.2.2

end
end Go.Proofs.Ytjcjlhpabjjflaa
