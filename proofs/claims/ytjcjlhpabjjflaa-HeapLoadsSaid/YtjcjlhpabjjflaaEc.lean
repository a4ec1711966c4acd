/- The engine, part c: each operation's rule is sound. -/
import Derived.Test.YtjcjlhpabjjflaaEb
namespace Go.Proofs.Ytjcjlhpabjjflaa
open Go

section
variable {P : Program}

theorem XWp.sound {α : Type} {s : Sem α} : ∀ {K : α → Prop}, XWp P s K → ∃ a, K a ∧ ∀ w, s.run P w = .ok a w := by
  induction s with
  | pure a => intro K h; exact ⟨a, h, fun _ => rfl⟩
  | program k ih => intro K h; exact ih P h
  | mark m k ih => intro K h; exact ih h
  | _ => intro K h; exact h.elim

theorem PWp.sound {α : Type} {s : Sem α} {h : Heap} : ∀ {K : α → Prop}, PWp P s h K → ∃ a, K a ∧ ∀ w : World, w.heap = h → s.run P w = .ok a w := by
  induction s with
  | pure a => intro K hs; exact ⟨a, hs, fun _ _ => rfl⟩
  | load m a k ih =>
    intro K hs
    obtain ⟨v, hv, hk⟩ := hs
    obtain ⟨x, hx, hr⟩ := ih v hk
    refine ⟨x, hx, fun w hw => ?_⟩
    have hv' : w.cell? a = some v := by subst hw; exact hv
    simp only [Sem.run, hv']
    exact hr w hw
  | shape r k ih =>
    intro K hs
    obtain ⟨x, hx, hr⟩ := ih _ hs
    exact ⟨x, hx, fun w hw => by subst hw; exact hr w rfl⟩
  | frozen a k ih =>
    intro K hs
    obtain ⟨x, hx, hr⟩ := ih _ hs
    exact ⟨x, hx, fun w hw => by subst hw; exact hr w rfl⟩
  | getObj r k ih =>
    intro K hs
    obtain ⟨o, ho, hc, hk⟩ := hs
    obtain ⟨x, hx, hr⟩ := ih o hk
    refine ⟨x, hx, fun w hw => ?_⟩
    rw [← hr w hw]
    subst hw
    cases o <;> simp [isCells] at hc <;> simp [Sem.run, ho]
  | program k ih => intro K hs; exact ih P hs
  | mark m k ih => intro K hs; exact ih hs
  | _ => intro K hs; exact hs.elim

theorem onPtr_spec {a : Option Addr} {K : Nat → Nat → Prop} (h : onPtr a K) : ∃ b o, a = some ⟨b, o, none⟩ ∧ K b o := by
  unfold onPtr at h
  split at h
  · exact ⟨_, _, rfl, h⟩
  · exact h.elim
theorem onPtr_mk {b o : Nat} {K : Nat → Nat → Prop} (h : K b o) : onPtr (some ⟨b, o, none⟩) K := h

theorem cond_spec {c : Bool} {A : Prop} (h : cond c A False) : c = true ∧ A := by
  cases c
  · exact h.elim
  · exact ⟨rfl, h⟩
theorem nz_spec {n : Nat} {A : Prop} (h : nz n A) : n ≠ 0 ∧ A := by
  unfold nz at h
  cases hb : Nat.beq n 0 with
  | true => rw [hb] at h; exact h.elim
  | false => rw [hb] at h; exact ⟨fun hn => by subst hn; simp at hb, h⟩

theorem kindNo_inj {k k' : IntKind} (h : kindNo k = kindNo k') : k = k' := by
  cases k <;> cases k' <;> first | rfl | (simp [kindNo] at h)
theorem kindEq_spec {k k' : IntKind} {A : Prop} (h : kindEq k k' A) : k = k' ∧ A := by
  obtain ⟨h1, h2⟩ := cond_spec h
  exact ⟨kindNo_inj (Nat.eq_of_beq_eq_true h1), h2⟩
theorem subN_eq (a b : Nat) : subN a b = a - b := by
  unfold subN
  cases h : Nat.beq b 0 with
  | true => have := Nat.eq_of_beq_eq_true h; subst this; rfl
  | false => rfl
theorem slA_eq (a : Option Addr) (c l s : Nat) (hs : s ≠ 0) : slA a c l s = if c = l then a else a.map (·.add (l * s)) := by
  unfold slA
  cases h : Nat.beq l 0 with
  | true =>
    have := Nat.eq_of_beq_eq_true h; subst this
    cases a <;> simp [Addr.add]
  | false =>
    have hl : l ≠ 0 := fun hn => by subst hn; simp at h
    simp only [cond_false]
    split
    · rfl
    · cases a with
      | none => rfl
      | some x =>
        simp only [Option.map_some, Addr.add]
        split
        · rename_i h2
          rcases Nat.mul_eq_zero.1 h2 with h3 | h3
          · exact absurd h3 hl
          · exact absurd h3 hs
        · rfl
theorem leK_spec {lo : Option Operand} {t : List Value} {l : Int} {K : Prop} (hl : bnd t lo 0 = some l) (h : leK lo.isNone 0 l K) : 0 ≤ l ∧ K := by
  cases lo with
  | none => simp [bnd] at hl; subst hl; exact ⟨Int.le_refl 0, h⟩
  | some x => exact h

theorem addO_eq (o n : Nat) : addO o n = o + n := by
  unfold addO
  cases h : Nat.beq n 0 with
  | true => have := Nat.eq_of_beq_eq_true h; subst this; rfl
  | false => rfl
theorem add_plain (b o n : Nat) : (⟨b, o, none⟩ : Addr).add n = ⟨b, o + n, none⟩ := by
  unfold Addr.add
  split
  · rename_i h; subst h; rfl
  · rfl

/-- What an operation that leaves the world alone yields. -/
def YP (P : Program) (t : List Value) (o : Oper) (v : Value) : Prop := ∀ w, (execOp (ev t) o).run P w = .ok (.value v) w

theorem nextV_spec {K : Value → Prop} {n : Next} (h : nextV K n) : ∃ v, n = .value v ∧ K v := by
  cases n <;> simp only [nextV] at h
  exact ⟨_, rfl, h⟩

theorem pure_gen {t : List Value} {o : Oper} {K : Value → Prop} (h : XWp P (execOp (ev t) o) (nextV K)) : ∃ v, K v ∧ YP P t o v := by
  obtain ⟨n, hn, hr⟩ := XWp.sound h
  obtain ⟨v, rfl, hv⟩ := nextV_spec hn
  exact ⟨v, hv, hr⟩

theorem int_run {op : BinOp} {k : IntKind} {x y : Int} {K : Value → Prop} (T : TypeId) (hop : op ≠ .shl ∧ op ≠ .shr) (h : intK op k x y K) :
    ∃ v, K v ∧ ∀ w, (binOp op T (.int k x) (.int k y)).run P w = .ok v w := by
  cases op <;> simp only [intK] at h <;>
    first
      | exact absurd rfl hop.1
      | exact absurd rfl hop.2
      | (refine ⟨_, h, fun w => ?_⟩; simp [binOp, Op.intArith, Op.intCmp, Op.intBits]; done)
      | (refine ⟨_, h.2, fun w => ?_⟩; simp [binOp, Op.intDiv, h.1]; done)
      | (refine ⟨_, h, fun w => ?_⟩; rfl)

theorem str_run {op : BinOp} {x y : ByteArray} {K : Value → Prop} (T : TypeId) (h : strK op x y K) :
    ∃ v, K v ∧ ∀ w, (binOp op T (.string x) (.string y)).run P w = .ok v w := by
  cases op <;> simp only [strK] at h <;>
    first
      | exact h.elim
      | (refine ⟨_, h, fun w => ?_⟩; simp [binOp, Op.stringOp]; done)
      | (refine ⟨_, h.2, fun w => ?_⟩; have := h.1; have hm : IntKind.i64.max = 9223372036854775807 := (by rfl); simp only [binOp, Op.stringOp]; rw [if_neg (by rw [hm]; omega)]; rfl)

theorem eqGuard_plain {op : BinOp} {T : TypeId} {x y : Operand} {a b : Value} (ha : ∀ cs, a ≠ .agg cs) (hn : a ≠ .nilIface) (w : World) : (eqGuard op T x y a b).run P w = .ok () w := by
  unfold eqGuard
  cases op <;> first | rfl | (cases a <;> first | rfl | exact absurd rfl (ha _) | exact absurd rfl hn)

theorem nil_run {op : BinOp} {T : TypeId} {x y : Value} {z : Bool} {K : Value → Prop} (hsh : ∀ w, (Op.equal T x y).run P w = .ok z w)
    (hx : (∃ a, x = .pointer a) ∨ (∃ a n c, x = .slice a n c) ∨ (∃ a, x = .map a) ∨ (∃ a, x = .bool a) ∨ (∃ a, x = .agg a))
    (hy : (∃ a, y = .pointer a) ∨ (∃ a n c, y = .slice a n c) ∨ (∃ a, y = .map a) ∨ (∃ a, y = .bool a) ∨ (∃ a, y = .agg a)) (h : nilEq op z K) :
    ∃ v, K v ∧ ∀ w, (binOp op T x y).run P w = .ok v w := by
  cases op <;> simp only [nilEq] at h
  case eql =>
    refine ⟨_, h, fun w => ?_⟩
    rcases hx with ⟨a, rfl⟩ | ⟨a, n, c, rfl⟩ | ⟨a, rfl⟩ | ⟨a, rfl⟩ | ⟨a, rfl⟩ <;> rcases hy with ⟨b, rfl⟩ | ⟨b, n', c', rfl⟩ | ⟨b, rfl⟩ | ⟨b, rfl⟩ | ⟨b, rfl⟩ <;> simp [binOp, hsh]
  case neq =>
    refine ⟨_, h, fun w => ?_⟩
    rcases hx with ⟨a, rfl⟩ | ⟨a, n, c, rfl⟩ | ⟨a, rfl⟩ | ⟨a, rfl⟩ | ⟨a, rfl⟩ <;> rcases hy with ⟨b, rfl⟩ | ⟨b, n', c', rfl⟩ | ⟨b, rfl⟩ | ⟨b, rfl⟩ | ⟨b, rfl⟩ <;> simp [binOp, hsh]


theorem run_isAgg_plain {T : TypeId} {d : TypeDesc} (h : P.underlying T = some d) (hd : (match d with | .struct _ | .array _ _ => true | _ => false) = false) (w : World) :
    (isAgg T).run P w = .ok false w := by
  simp only [isAgg, Sem.run_bind, run_underlying h, Result.andThen_ok]
  cases d <;> simp at hd <;> rfl

theorem run_part_flat {T : TypeId} (hT : (match P.underlying T with | some .bool | some (.int _) | some .string => true | _ => false) = true) {xs : Array Value} {i : Nat} {v : Value}
    (hv : xs[i]? = some v) (w : World) : (part T xs i).run P w = .ok v w := by
  have h1 : (isAgg T).run P w = .ok false w := by
    cases hu : P.underlying T with
    | none => simp [hu] at hT
    | some d => exact run_isAgg_plain hu (by cases d <;> simp [hu] at hT <;> rfl) w
  simp only [part, Sem.run_bind, h1, Result.andThen_ok, Bool.false_eq_true, if_false, hv]
  rfl

theorem run_eqV {T : TypeId} {a b : Value} {c : Bool} (d : Nat) (hT : (match P.underlying T with | some .bool | some (.int _) | some .string => true | _ => false) = true)
    (hw : (match P.underlying T, a with | some .bool, .bool _ => true | some (.int _), .int _ _ => true | some .string, .string _ => true | _, _ => false) = true) (h : eqV a b = some c) (w : World) :
    (Op.equalIn (d + 1) T a b).run P w = .ok c w := by
  cases hu : P.underlying T with
  | none => simp [hu] at hT
  | some e =>
    cases a <;> cases b <;> simp only [eqV] at h <;> try cases h
    · cases e <;> simp [hu] at hw
      exact run_equalIn_bool' w d T _ _ hu
    · rename_i k x k' y
      cases e <;> simp [hu] at hw
      cases hk : Nat.beq (kindNo k) (kindNo k') with
      | false => rw [hk] at h; cases h
      | true =>
        rw [hk] at h
        obtain rfl := kindNo_inj (Nat.eq_of_beq_eq_true hk)
        cases h; exact run_equalIn_int w d T _ _ _ _ hu
    · cases e <;> simp [hu] at hw
      exact run_equalIn_string w d T _ _ hu

theorem run_eqFields (d : Nat) (w : World) : ∀ (fs : List Field) (i : Nat) (xs ys : Array Value) (l m : List Value) (c : Bool), flat P fs i = true → fits P fs l = true →
    (∀ j v, l[j]? = some v → xs[i + j]? = some v) → (∀ j v, m[j]? = some v → ys[i + j]? = some v) → l.length = fs.length → m.length = fs.length →
    eqL l m = some c → (Op.eqFields (d + 1) xs ys fs).run P w = .ok c w
  | [], i, xs, ys, l, m, c, _, _, _, _, hl, hm, he => by
    cases l with
    | cons a l => simp at hl
    | nil => cases m with
      | cons a l => simp at hm
      | nil => simp only [eqL, Option.some.injEq] at he; subst he; simp [Op.eqFields]
  | f :: fs, i, xs, ys, l, m, c, hf, hk, h1, h2, hl, hm, he => by
    cases l with
    | nil => simp at hl
    | cons a l => cases m with
      | nil => simp at hm
      | cons b m =>
        simp only [flat, Bool.and_eq_true, beq_iff_eq, bne_iff_ne] at hf
        simp only [fits, Bool.and_eq_true] at hk
        obtain ⟨⟨⟨ho, hn⟩, hT⟩, hr⟩ := hf
        simp only [eqL] at he
        cases hab : eqV a b with
        | none => simp [hab] at he
        | some x => cases hlm : eqL l m with
          | none => simp [hab, hlm] at he
          | some y =>
            simp only [hab, hlm, Option.some.injEq] at he
            have hx := run_eqV (P := P) d hT hk.1 hab w
            have pa := run_part_flat (P := P) hT (h1 0 a rfl) w
            have pb := run_part_flat (P := P) hT (h2 0 b rfl) w
            simp only [Nat.add_zero] at pa pb
            have ih := run_eqFields d w fs (i + 1) xs ys l m y hr hk.2 (fun j v hv => by have := h1 (j + 1) v (by simpa using hv); rw [← this]; congr 1; omega)
              (fun j v hv => by have := h2 (j + 1) v (by simpa using hv); rw [← this]; congr 1; omega) (by simpa using hl) (by simpa using hm) hlm
            simp only [Op.eqFields, if_pos hn, Sem.run_bind, ho, pa, pb, hx, Result.andThen_ok, Sem.run_ite]
            cases x
            · simp only [Bool.not_false, if_true, Sem.run_pure]; subst he; rfl
            · simp only [Bool.not_true, Bool.false_eq_true, if_false]; subst he; rw [ih]; rfl


theorem run_equal_flat {T : TypeId} {fs : Array Field} {xs ys : Array Value} {c : Bool} (hu : P.underlying T = some (.struct fs)) (hp : P.stoodInHeld T = false) (hf : flat P fs.toList 0 = true)
    (hk : fits P fs.toList xs.toList = true) (hl : xs.size = fs.size) (hm : ys.size = fs.size) (he : eqL xs.toList ys.toList = some c) (w : World) : (Op.equal T (.agg xs) (.agg ys)).run P w = .ok c w := by
  have hfo : P.fieldsOf T = fs := by simp [Program.fieldsOf, hu]
  unfold Op.equal Op.maxDepth
  rw [show (10000 : Nat) = 9998 + 1 + 1 from rfl, run_equalIn_struct w (9998 + 1) T xs ys (by rw [hfo]; exact hu) hp, hfo]
  refine run_eqFields 9998 w fs.toList 0 xs ys xs.toList ys.toList c hf hk ?_ ?_ (by simpa using hl) (by simpa using hm) he
  · intro j v hv; simpa using hv
  · intro j v hv; simpa using hv

theorem run_eqPtr (d : Nat) {T e : TypeId} (hu : P.underlying T = some (.pointer e)) (p : Option Addr) (w : World) : (Op.equalIn (d + 1) T (.pointer p) (.pointer none)).run P w = .ok p.isNone w := by
  simp only [Op.equalIn, Sem.run_bind, run_underlying hu, Result.andThen_ok]
  cases p <;> rfl
theorem run_eqSl (d : Nat) {T e : TypeId} (hu : P.underlying T = some (.slice e)) (p : Option Addr) (n c n' c' : Nat) (w : World) : (Op.equalIn (d + 1) T (.slice p n c) (.slice none n' c')).run P w = .ok p.isNone w := by
  simp only [Op.equalIn, Sem.run_bind, run_underlying hu, Result.andThen_ok]
  cases p <;> rfl
theorem run_eqMap (d : Nat) {T k e : TypeId} (hu : P.underlying T = some (.map k e)) (p : Option Nat) (w : World) : (Op.equalIn (d + 1) T (.map p) (.map none)).run P w = .ok p.isNone w := by
  simp only [Op.equalIn, Sem.run_bind, run_underlying hu, Result.andThen_ok]
  cases p <;> rfl

theorem bin_run {op : BinOp} {T : TypeId} {x y : Operand} {a b : Value} {K : Value → Prop} (h : binK P op T a b K) :
    ∃ v, K v ∧ ∀ w, (do eqGuard op T x y a b; binOp op T a b : Sem Value).run P w = .ok v w := by
  unfold binK at h
  split at h
  · rename_i k p k' q
    have hg : ∀ w, (eqGuard op T x y (.int k p) (.int k' q)).run P w = .ok () w := eqGuard_plain (by simp) (by simp)
    split at h
    · obtain ⟨h0, hK⟩ := h
      refine ⟨_, hK, fun w => ?_⟩
      simp only [Sem.run_bind, hg, Result.andThen_ok]
      simp [binOp, Op.shift, show ¬ q < 0 by omega]
    · obtain ⟨h0, hK⟩ := h
      refine ⟨_, hK, fun w => ?_⟩
      simp only [Sem.run_bind, hg, Result.andThen_ok]
      simp [binOp, Op.shift, show ¬ q < 0 by omega]
    · rename_i n1 n2
      obtain ⟨hk, h2⟩ := kindEq_spec h
      · subst hk
        obtain ⟨v, hv, hr⟩ := int_run (P := P) T ⟨n1, n2⟩ h2
        exact ⟨v, hv, fun w => by simp only [Sem.run_bind, hg, Result.andThen_ok, hr]⟩
  · obtain ⟨v, hv, hr⟩ := str_run (P := P) T h
    exact ⟨v, hv, fun w => by simp only [Sem.run_bind, eqGuard_plain (P := P) (a := .string _) (by simp) (by simp), Result.andThen_ok, hr]⟩
  · split at h
    · rename_i hu
      obtain ⟨v, hv, hr⟩ := nil_run (P := P) (T := T) (fun w => run_equalIn_bool' w 9999 T _ _ hu) (.inr (.inr (.inr (.inl ⟨_, rfl⟩)))) (.inr (.inr (.inr (.inl ⟨_, rfl⟩)))) h
      exact ⟨v, hv, fun w => by simp only [Sem.run_bind, eqGuard_plain (P := P) (a := .bool _) (by simp) (by simp), Result.andThen_ok, hr]⟩
    · exact h.elim
  · rename_i p
    split at h
    · rename_i hu
      obtain ⟨v, hv, hr⟩ := nil_run (P := P) (T := T) (x := .pointer p) (y := .pointer none) (fun w => run_eqPtr 9999 hu p w) (.inl ⟨_, rfl⟩) (.inl ⟨_, rfl⟩) h
      exact ⟨v, hv, fun w => by simp only [Sem.run_bind, eqGuard_plain (P := P) (a := .pointer _) (by simp) (by simp), Result.andThen_ok, hr]⟩
    · exact h.elim
  · rename_i p n c n' c'
    split at h
    · rename_i hu
      obtain ⟨v, hv, hr⟩ := nil_run (P := P) (T := T) (x := .slice p n c) (y := .slice none n' c') (fun w => run_eqSl 9999 hu p n c n' c' w) (.inr (.inl ⟨_, _, _, rfl⟩)) (.inr (.inl ⟨_, _, _, rfl⟩)) h
      exact ⟨v, hv, fun w => by simp only [Sem.run_bind, eqGuard_plain (P := P) (a := .slice ..) (by simp) (by simp), Result.andThen_ok, hr]⟩
    · exact h.elim
  · rename_i p
    split at h
    · rename_i hu
      obtain ⟨v, hv, hr⟩ := nil_run (P := P) (T := T) (x := .map p) (y := .map none) (fun w => run_eqMap 9999 hu p w) (.inr (.inr (.inl ⟨_, rfl⟩))) (.inr (.inr (.inl ⟨_, rfl⟩))) h
      exact ⟨v, hv, fun w => by simp only [Sem.run_bind, eqGuard_plain (P := P) (a := .map _) (by simp) (by simp), Result.andThen_ok, hr]⟩
    · exact h.elim
  · rename_i xs ys
    split at h
    · rename_i fs hu
      obtain ⟨hc, h⟩ := cond_spec h
      · obtain ⟨hc2, h⟩ := cond_spec h
        simp only [Bool.and_eq_true, Bool.not_eq_true'] at hc hc2
        obtain ⟨⟨hf, hp⟩, hq⟩ := hc
        obtain ⟨⟨hk, hl⟩, hm⟩ := hc2
        have hl : xs.size = fs.size := by simpa using Nat.eq_of_beq_eq_true hl
        have hm : ys.size = fs.size := by simpa using Nat.eq_of_beq_eq_true hm
        split at h
        · rename_i c he
          have hg : ∀ w, (eqGuard op T x y (.agg xs) (.agg ys)).run P w = .ok () w := by
            intro w
            unfold eqGuard
            cases op <;> first | rfl | (simp [hq]; done) | (simp [hq]; rfl)
          obtain ⟨v, hv, hr⟩ := nil_run (P := P) (T := T) (x := .agg xs) (y := .agg ys) (run_equal_flat hu hp hf hk hl hm he) (.inr (.inr (.inr (.inr ⟨_, rfl⟩)))) (.inr (.inr (.inr (.inr ⟨_, rfl⟩)))) h
          exact ⟨v, hv, fun w => by simp only [Sem.run_bind, hg, Result.andThen_ok, hr]⟩
        · exact h.elim
    · exact h.elim
  · exact h.elim

theorem run_sizeOf1 {T : TypeId} {i : TypeInfo} (h : P.info? T = some i) (w : World) : (sizeOf T).run P w = .ok i.size w := by
  simp [sizeOf, run_typeInfo w h]
theorem lay1_some {T : TypeId} (h : lay1 P T ≠ 0) : ∃ i, P.info? T = some i ∧ i.size = lay1 P T := by
  unfold lay1 at *
  cases hi : P.info? T with
  | none => simp [hi] at h
  | some i => exact ⟨i, rfl, by simp⟩

theorem run_indexAt {T e : TypeId} {a : Option Addr} {n c b o : Nat} {k : IntKind} {z : Int} (hu : P.underlying T = some (.slice e)) (h0 : 0 ≤ z) (h1 : z < n) (ha : a = some ⟨b, o, none⟩) (hs : lay1 P e ≠ 0) (w : World) :
    (Instr.indexAt T (.slice a n c) (.int k z)).run P w = .ok (.pointer (some ⟨b, o + z.toNat * lay1 P e, none⟩)) w := by
  subst ha
  obtain ⟨i, hi, his⟩ := lay1_some hs
  simp [Instr.indexAt, asIntOf, run_underlying hu, run_sizeOf1 hi, his, h0, h1, add_plain]
theorem run_indexAt_arr {T e : TypeId} {a : Option Addr} {n b o : Nat} {k : IntKind} {z : Int} (hu : P.underlying T = some (.array n e)) (h0 : 0 ≤ z) (h1 : z < n) (ha : a = some ⟨b, o, none⟩) (hs : lay1 P e ≠ 0) (w : World) :
    (Instr.indexAt T (.pointer a) (.int k z)).run P w = .ok (.pointer (some ⟨b, o + z.toNat * lay1 P e, none⟩)) w := by
  subst ha
  obtain ⟨i, hi, his⟩ := lay1_some hs
  simp [Instr.indexAt, asIntOf, Instr.sureAddr, run_underlying hu, run_sizeOf1 hi, his, h0, h1, add_plain]

theorem run_bound {v : Value} {k : IntKind} {i : Int} (hv : v = .int k i) {y : Nat} (h0 : 0 ≤ i) (h1 : i ≤ y) (code : BoundsCode) (w : World) : (Instr.sliceBound v y code).run P w = .ok i.toNat w := by
  subst hv
  simp [Instr.sliceBound, asIntOf, h0, h1]

theorem run_bounds {t : List Value} {lo hi : Option Operand} {n c : Nat} {l r : Int} (sl : Bool) (hl : bnd t lo 0 = some l) (hr : bnd t hi n = some r) (h0 : 0 ≤ l) (h1 : l ≤ r) (h2 : r ≤ c) (w : World) :
    (Instr.sliceBounds sl n c (lo.map (ev t)) (hi.map (ev t)) none).run P w = .ok (l.toNat, r.toNat, c) w := by
  have H : ∀ (x : Option Operand) (d : Int) (i : Int), bnd t x d = some i → (x = none ∧ i = d) ∨ ∃ o k, x = some o ∧ ev t o = .int k i := by
    intro x d i h
    cases x with
    | none => simp [bnd] at h; exact .inl ⟨rfl, h.symm⟩
    | some o =>
      simp only [bnd] at h
      split at h
      · rename_i k z hz; simp at h; subst h; exact .inr ⟨o, k, rfl, hz⟩
      · cases h
  rcases H _ _ _ hl with ⟨rfl, rfl⟩ | ⟨ol, kl, rfl, hel⟩ <;> rcases H _ _ _ hr with ⟨rfl, rfl⟩ | ⟨oh, kh, rfl, heh⟩
  · simp [Instr.sliceBounds]
  · simp [Instr.sliceBounds, run_bound (P := P) heh (show 0 ≤ r by omega) h2]
  · simp [Instr.sliceBounds, run_bound (P := P) hel h0 (show l ≤ (n : Nat) by omega)]
  · simp [Instr.sliceBounds, run_bound (P := P) heh (show 0 ≤ r by omega) h2, run_bound (P := P) hel h0 (show l ≤ (r.toNat : Nat) by omega)]

theorem splice_nil (l : List Value) (o : Nat) : splice l o [] = l := by cases l <;> cases o <;> rfl
theorem splice_cons : ∀ (l : List Value) (o : Nat) (v : Value) (vs : List Value), o < l.length → splice l o (v :: vs) = splice (l.set o v) (o + 1) vs
  | [], _, _, _, h => by simp at h
  | x :: l, 0, v, [], _ => by simp [splice, splice_nil]
  | x :: l, 0, v, u :: vs, _ => by simp [splice]
  | x :: l, o + 1, v, [], h => by
    simp only [splice, List.set_cons_succ]
    rw [splice_cons l o v [] (by simpa using h)]
    simp [splice_nil]
  | x :: l, o + 1, v, u :: vs, h => by
    simp only [splice, List.set_cons_succ]
    rw [splice_cons l o v (u :: vs) (by simpa using h)]
theorem splice_length : ∀ (l : List Value) (o : Nat) (vs : List Value), (splice l o vs).length = l.length
  | l, o, [] => by rw [splice_nil]
  | [], o, v :: vs => by simp [splice]
  | x :: l, 0, v :: vs => by simp [splice, splice_length l 0 vs]
  | x :: l, o + 1, v :: vs => by simp [splice, splice_length l o (v :: vs)]
theorem fold_splice : ∀ (vs : List Value) (l : List Value) (o k : Nat), o + k + vs.length ≤ l.length →
    (vs.zipIdx k).foldl (fun (cs : Array Value) (x : Value × Nat) => cs.setIfInBounds (o + x.2) x.1) l.toArray = (splice l (o + k) vs).toArray
  | [], l, o, k, _ => by simp [splice_nil]
  | v :: vs, l, o, k, h => by
    simp only [List.length_cons] at h
    rw [List.zipIdx_cons, List.foldl_cons, List.setIfInBounds_toArray, fold_splice vs _ o (k + 1) (by simp; omega), splice_cons _ _ _ _ (by omega)]
    rfl
theorem fill_list {place : Nat → Option (Nat × Nat)} : ∀ {ps : List (Nat × Value)} {l l' : List Value}, fillL place l ps = some l' → Instr.fill place l.toArray ps = some l'.toArray
  | [], l, l', h => by simp only [fillL, Option.some.injEq] at h; subst h; rfl
  | (i, v) :: ps, l, l', h => by
    simp only [fillL] at h
    cases hp : place i with
    | none => rw [hp] at h; cases h
    | some os =>
      obtain ⟨o, s⟩ := os
      rw [hp] at h
      simp only at h
      cases hc : (Nat.beq v.cells.toList.length s && Nat.ble (o + v.cells.toList.length) l.length) with
      | false => rw [hc] at h; cases h
      | true =>
        rw [hc] at h
        rw [Bool.and_eq_true] at hc
        have h1 : v.cells.size = s := by simpa using Nat.eq_of_beq_eq_true hc.1
        have h2 : o + v.cells.toList.length ≤ l.length := Nat.le_of_ble_eq_true hc.2
        have h3 : o + v.cells.size ≤ l.length := by simpa using h2
        unfold Instr.fill
        rw [hp]
        simp only [h1, ne_eq, not_true_eq_false, decide_false, Bool.false_or]
        rw [if_neg (by simp; omega)]
        have key := fold_splice v.cells.toList l o 0 (by simpa using h2)
        rw [← Array.foldl_toList, Array.toList_zipIdx]
        rw [key]
        exact fill_list h

theorem run_places (fs : List Field) (h : allLaid P fs = true) (w : World) :
    (fs.mapM (m := Sem) fun f => do pure (f.offset, ← sizeOf f.type)).run P w = .ok (fs.map fun f => (f.offset, lay1 P f.type)) w := by
  induction fs with
  | nil => rfl
  | cons f fs ih =>
    simp only [allLaid, Bool.and_eq_true, Bool.not_eq_true'] at h
    obtain ⟨i, hi, hs⟩ := lay1_some (P := P) (T := f.type) (fun h0 => by rw [h0] at h; simp at h)
    simp only [List.mapM_cons, Sem.run_bind, run_sizeOf1 hi, Result.andThen_ok, Sem.run_pure, ih h.2, hs]
    rfl

theorem pure_sound {t : List Value} {o : Oper} {K : Value → Prop} (h : pureK P t o K) : ∃ v, K v ∧ YP P t o v := by
  obtain ⟨dst, op, ty, pos, after, guard⟩ := o
  cases op <;> simp only [pureK] at h
  case move x => exact ⟨_, h, fun w => rfl⟩
  case assign x => exact ⟨_, h, fun w => rfl⟩
  case pick c a b =>
    unfold pickK at h
    split at h
    · rename_i c' x y hc ha hb
      refine ⟨_, h, fun w => ?_⟩
      simp only [execOp, hc, ha, hb]
      cases c' <;> rfl
    · rename_i c' hno hc
      cases c'
      · exact ⟨_, h, fun w => by simp [execOp, hno, asBool]⟩
      · exact ⟨_, h, fun w => by simp [execOp, hno, asBool]⟩
    · exact h.elim
  case nilCheck x =>
    split at h
    · rename_i a ha
      obtain ⟨b, o, rfl, hK⟩ := onPtr_spec h
      exact ⟨_, hK, fun w => by simp [execOp, ha]⟩
    · rename_i f a b ha
      exact ⟨_, h, fun w => by simp [execOp, ha]⟩
    · exact h.elim
  case binOp op' T x y yt =>
    obtain ⟨v, hv, hr⟩ := bin_run (x := x) (y := y) h
    exact ⟨v, hv, fun w => by
      have := hr w
      simp only [execOp]
      rw [Sem.run_bind, this]
      rfl⟩
  case fieldAddr s x f =>
    split at h
    · rename_i fs a hu ha
      split at h
      · rename_i fd hfd
        obtain ⟨hz, h⟩ := nz_spec h
        · obtain ⟨b, o, rfl, hK⟩ := onPtr_spec h
          obtain ⟨i, hi, his⟩ := lay1_some hz
          refine ⟨_, hK, fun w => ?_⟩
          simp [execOp, Instr.fieldAt, ha, run_underlying hu, hfd, Instr.sureAddr, fieldPlace, run_sizeOf1 hi, his, hz, add_plain, addO_eq]
      · exact h.elim
    · exact h.elim
  case indexAddr T x i =>
    split at h
    · rename_i e a n c k z hu ha hz
      obtain ⟨b, o, ho, h0, h1, hK⟩ := onPtr_spec h
      obtain ⟨hs, hK⟩ := nz_spec hK
      exact ⟨_, hK, fun w => by simp [execOp, ha, hz, run_indexAt hu h0 h1 ho hs]⟩
    · rename_i n e a k z hu ha hz
      obtain ⟨b, o, ho, h0, h1, hK⟩ := onPtr_spec h
      obtain ⟨hs, hK⟩ := nz_spec hK
      exact ⟨_, hK, fun w => by simp [execOp, ha, hz, run_indexAt_arr hu h0 h1 ho hs]⟩
    · exact h.elim
  case index T x i =>
    split at h
    · rename_i s k z hu ha hz
      obtain ⟨h0, h1, hK⟩ := h
      refine ⟨_, hK, fun w => ?_⟩
      have hlt : z.toNat < s.size := by omega
      have hg : s[z.toNat]? = some (s.data.getD z.toNat 0) := by
        rw [getElem?_pos s z.toNat hlt]
        have : s.data.size = s.size := rfl
        simp [Array.getD, this, hlt]
        rfl
      simp [execOp, Instr.index, ha, hz, asIntOf, run_underlying hu, h0, hg]
    · exact pure_gen h
  case build T ps =>
    split at h
    · rename_i fs i hu hi
      split at h
      · rename_i cs hz
        obtain ⟨hl, h⟩ := cond_spec h
        split at h
        · rename_i l hf
          refine ⟨_, h, fun w => ?_⟩
          have hzero : (zeroValue T).run P w = .ok (.agg cs) w := by simp [zeroValue, run_typeInfo w hi, hz]
          have hpl : (fs.mapM (m := Sem) fun f => do pure (f.offset, ← sizeOf f.type)).run P w = .ok ((fs.toList.map fun f => (f.offset, lay1 P f.type)).toArray) w := by
            rw [Array.mapM_eq_mapM_toList, Sem.run_map, run_places _ hl w]; rfl
          have hfn : (fun i => ((fs.toList.map fun f => (f.offset, lay1 P f.type)).toArray)[i]?) = placeOf P fs.toList := by
            funext j
            simp only [placeOf, List.getElem?_toArray, List.getElem?_map]
            cases fs.toList[j]? <;> rfl
          have hpa : (ps.map fun (x : Nat × Operand) => (x.1, ev t x.2)).toList = ps.toList.map fun p => (p.1, ev t p.2) := by simp
          have hfill := fill_list hf
          simp only [Array.toArray_toList] at hfill
          simp only [execOp, Instr.build, Sem.run_bind, hzero, Result.andThen_ok, run_underlying hu, hpl]
          show Result.andThen (Sem.run P (match Instr.fill (fun i => ((fs.toList.map fun f => (f.offset, lay1 P f.type)).toArray)[i]?) (Value.agg cs).cells (ps.map fun (x : Nat × Operand) => (x.1, ev t x.2)).toList with
            | some cells => pure (Value.agg cells) | _ => stuck "build: no such field, or a part of the wrong size") w) _ = _
          rw [hfn, hpa]
          show Result.andThen (Sem.run P (match Instr.fill (placeOf P fs.toList) cs (ps.toList.map fun p => (p.1, ev t p.2)) with
            | some cells => pure (Value.agg cells) | _ => stuck "build: no such field, or a part of the wrong size") w) _ = _
          rw [hfill]
          rfl
        · exact h.elim
      · exact h.elim
    · exact pure_gen h
  case slice T x lo hi mx =>
    split at h
    · rename_i e a n c hu ha
      split at h
      · rename_i l r hl hr
        obtain ⟨h0, h1, h2, hK⟩ := leK_spec hl h
        obtain ⟨hs, hK⟩ := nz_spec hK
        rw [slA_eq _ _ _ _ hs, subN_eq, subN_eq] at hK
        obtain ⟨i, hi', his⟩ := lay1_some hs
        refine ⟨_, hK, fun w => ?_⟩
        have hb := run_bounds (P := P) (t := t) (n := n) (c := c) true hl hr h0 h1 h2
        simp [execOp, Instr.sliceAt, Instr.slice, ha, run_underlying hu, hb, run_sizeOf1 hi', his]
      · exact h.elim
    · rename_i s hu ha
      split at h
      · rename_i l r hl hr
        obtain ⟨h0, h1, h2, hK⟩ := leK_spec hl h
        refine ⟨_, hK, fun w => ?_⟩
        have hb := run_bounds (P := P) (t := t) (n := s.size) (c := s.size) false hl hr h0 h1 h2
        simp [execOp, Instr.sliceAt, Instr.slice, ha, run_underlying hu, hb]
      · exact h.elim
    · exact h.elim
  all_goals exact pure_gen h

end
end Go.Proofs.Ytjcjlhpabjjflaa
