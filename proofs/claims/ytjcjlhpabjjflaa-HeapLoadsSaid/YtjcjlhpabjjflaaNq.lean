/- What the reference of layer 7 computes. -/
import Derived.Test.YtjcjlhpabjjflaaNb
import Derived.Test.YtjcjlhpabjjflaaPk
import Derived.Test.YtjcjlhpabjjflaaV5
set_option linter.unusedVariables false
namespace Go.Proofs.Ytjcjlhpabjjflaa
open Go Go.Proofs
attribute [local irreducible] appK copyK delK updK lookK makeK rangeK nextM entryM mapEntryK entryStK lenMapK
variable {D D' : Fz} {C : List Chunk} {h h' : Heap}

def eT (t : Tm) : List U := [.n t.1, .n t.2.1, .n t.2.2]
theorem eT_len (l : List Tm) : ∀ r ∈ l.map eT, r.length = 3 := by
  intro r hr; obtain ⟨t, -, rfl⟩ := List.mem_map.1 hr; rfl
theorem rd_T {vs : List Value} {t : Tm} : RdL D vs (eT t) ↔ vs = [.int .i64 t.1, .int .i64 t.2.1, .int .i64 t.2.2] := by
  simp only [eT, RdL.cons_iff, RdL.nil_iff, Rd.int_iff]
  constructor
  · rintro ⟨_, _, rfl, rfl, _, _, rfl, rfl, _, _, rfl, rfl, rfl⟩; rfl
  · rintro rfl; exact ⟨_, _, rfl, rfl, _, _, rfl, rfl, _, _, rfl, rfl, rfl⟩
theorem el_T {a : Option Addr} {n c : Nat} {L : List Tm} (hx : Rd D (.slice a n c) (.l (L.map eT))) (S : St D C h) {z : Int} {i : Nat} (hz : z = i) {t : Tm} (hi : L[i]? = some t) {K : Nat → Nat → Prop}
    (hK : ∀ b o, hcell h ⟨b, o + z.toNat * 3, none⟩ = some (.int .i64 t.1) → hcell h ⟨b, o + z.toNat * 3 + 1, none⟩ = some (.int .i64 t.2.1) → hcell h ⟨b, o + z.toNat * 3 + 2, none⟩ = some (.int .i64 t.2.2) → K b o) : onPtr a K :=
  hx.at (sz := 3) S hz (r := eT t) (by simp [hi]) rfl fun b o vs hv hc => by
    rw [rd_T] at hv; subst hv
    exact hK b o (hc 0 (by omega)) (hc 1 (by omega)) (hc 2 (by omega))
theorem eyT : ElTy Try.prog 59 30 3 := .of (by kernel_rfl)
theorem eT3 (t : Tm) : (eT t).length = 3 := rfl
/- ## The plain queue -/
def aheadT (a b : Tm) : Bool := decide (a.1 < b.1 ∨ a.1 = b.1 ∧ a.2.1 < b.2.1)
def findT (L : List Tm) (id : Int) : Option Nat := L.findIdx? (fun t => t.2.1 == id)
def idxT (o : Option Nat) : Int := match o with | some k => k | none => -1
def putT (L : List Tm) (t : Tm) : List Tm := L.takeWhile (aheadT · t) ++ t :: L.dropWhile (aheadT · t)

theorem ahead_spec (S : St D C h) (a b : Tm) : Run Try.prog 75 [.agg #[.int .i64 a.1, .int .i64 a.2.1, .int .i64 a.2.2], .agg #[.int .i64 b.1, .int .i64 b.2.1, .int .i64 b.2.2]] h fun v h' => v = .bool (aheadT a b) ∧ St D C h' := by
  refine V75 _ _ _ _ _ _ _ _ ?_
  unfold VC75
  (repeat (first | refine onPtr_s ?_ | refine S.new fun bb hh S => ?_ | refine S.st0 (by rfl) (by rfl) fun hh S => ?_ | refine S.sk0 (by rfl) (by rfl) fun hh S => ?_ | refine S.st1 (by rfl) (by rfl) fun hh S => ?_ | refine S.sk1 (by rfl) (by rfl) fun hh S => ?_ | refine S.st2 (by rfl) (by rfl) fun hh S => ?_ | refine S.sk2 (by rfl) (by rfl) fun hh S => ?_ | refine S.st3 (by rfl) (by rfl) fun hh S => ?_ | refine S.sk3 (by rfl) (by rfl) fun hh S => ?_ | refine ⟨_, by assumption, ?_⟩ | refine ⟨_, S.ld0.trans rfl, ?_⟩ | refine ⟨_, _, _, S.ld0.trans rfl, ?_⟩ | refine ⟨_, S.ld1.trans rfl, ?_⟩ | refine ⟨_, _, _, S.ld1.trans rfl, ?_⟩ | refine ⟨_, S.ld2.trans rfl, ?_⟩ | refine ⟨_, _, _, S.ld2.trans rfl, ?_⟩ | refine ⟨_, S.ld3.trans rfl, ?_⟩ | refine ⟨_, _, _, S.ld3.trans rfl, ?_⟩ | refine ⟨_, S.ld4.trans rfl, ?_⟩ | refine ⟨_, _, _, S.ld4.trans rfl, ?_⟩ | refine ⟨_, S.ld5.trans rfl, ?_⟩ | refine ⟨_, _, _, S.ld5.trans rfl, ?_⟩))
  refine cIf (fun h1 => ?_) fun h1 => ?_
  · exact ⟨by simp [aheadT, h1], S.drop.drop⟩
  (repeat (first | refine onPtr_s ?_ | refine S.new fun bb hh S => ?_ | refine S.st0 (by rfl) (by rfl) fun hh S => ?_ | refine S.sk0 (by rfl) (by rfl) fun hh S => ?_ | refine S.st1 (by rfl) (by rfl) fun hh S => ?_ | refine S.sk1 (by rfl) (by rfl) fun hh S => ?_ | refine S.st2 (by rfl) (by rfl) fun hh S => ?_ | refine S.sk2 (by rfl) (by rfl) fun hh S => ?_ | refine S.st3 (by rfl) (by rfl) fun hh S => ?_ | refine S.sk3 (by rfl) (by rfl) fun hh S => ?_ | refine ⟨_, by assumption, ?_⟩ | refine ⟨_, S.ld0.trans rfl, ?_⟩ | refine ⟨_, _, _, S.ld0.trans rfl, ?_⟩ | refine ⟨_, S.ld1.trans rfl, ?_⟩ | refine ⟨_, _, _, S.ld1.trans rfl, ?_⟩ | refine ⟨_, S.ld2.trans rfl, ?_⟩ | refine ⟨_, _, _, S.ld2.trans rfl, ?_⟩ | refine ⟨_, S.ld3.trans rfl, ?_⟩ | refine ⟨_, _, _, S.ld3.trans rfl, ?_⟩ | refine ⟨_, S.ld4.trans rfl, ?_⟩ | refine ⟨_, _, _, S.ld4.trans rfl, ?_⟩ | refine ⟨_, S.ld5.trans rfl, ?_⟩ | refine ⟨_, _, _, S.ld5.trans rfl, ?_⟩))
  refine cEq (fun h2 => ?_) fun h2 => ?_
  · (repeat (first | refine onPtr_s ?_ | refine S.new fun bb hh S => ?_ | refine S.st0 (by rfl) (by rfl) fun hh S => ?_ | refine S.sk0 (by rfl) (by rfl) fun hh S => ?_ | refine S.st1 (by rfl) (by rfl) fun hh S => ?_ | refine S.sk1 (by rfl) (by rfl) fun hh S => ?_ | refine S.st2 (by rfl) (by rfl) fun hh S => ?_ | refine S.sk2 (by rfl) (by rfl) fun hh S => ?_ | refine S.st3 (by rfl) (by rfl) fun hh S => ?_ | refine S.sk3 (by rfl) (by rfl) fun hh S => ?_ | refine ⟨_, by assumption, ?_⟩ | refine ⟨_, S.ld0.trans rfl, ?_⟩ | refine ⟨_, _, _, S.ld0.trans rfl, ?_⟩ | refine ⟨_, S.ld1.trans rfl, ?_⟩ | refine ⟨_, _, _, S.ld1.trans rfl, ?_⟩ | refine ⟨_, S.ld2.trans rfl, ?_⟩ | refine ⟨_, _, _, S.ld2.trans rfl, ?_⟩ | refine ⟨_, S.ld3.trans rfl, ?_⟩ | refine ⟨_, _, _, S.ld3.trans rfl, ?_⟩ | refine ⟨_, S.ld4.trans rfl, ?_⟩ | refine ⟨_, _, _, S.ld4.trans rfl, ?_⟩ | refine ⟨_, S.ld5.trans rfl, ?_⟩ | refine ⟨_, _, _, S.ld5.trans rfl, ?_⟩))
    exact ⟨by simp [aheadT, h2], S.drop.drop⟩
  · exact ⟨by simp [aheadT, h1, h2], S.drop.drop⟩

abbrev rqB (q : Nat) (a : Option Addr) (n c : Nat) (most next : Int) : Chunk := [(q, .cells #[.slice a n c, .int .i64 most, .int .i64 next] 83 (0, 0))]
section
variable {q c : Nat} {a : Option Addr} {L : List Tm} {most next : Int}
theorem find_spec (S : St D (rqB q a L.length c most next :: C) h) (hx : Rd D (.slice a L.length c) (.l (L.map eT))) (hn : L.length ≤ 1000000) (id : Int) :
    Run Try.prog 58 [.pointer (some ⟨q, 0, none⟩), .int .i64 id] h fun v h' => v = .int .i64 (idxT (findT L id)) ∧ h' = h := by
  refine V58 _ _ _ _ ?_
  unfold VC58
  refine ⟨fun z h' => h' = h ∧ ∃ i : Nat, z = i ∧ i ≤ L.length ∧ ∀ t ∈ L.take i, t.2.1 ≠ id, fun z _ => L.length - z.toNat, ⟨rfl, 0, rfl, by omega, by simp⟩, ?_⟩
  rintro - h' z ⟨rfl, i, rfl, hi, hno⟩
  (first | refine ⟨_, by assumption, ?_⟩ | refine ⟨_, S.ld0.trans rfl, ?_⟩ | refine ⟨_, _, _, S.ld0.trans rfl, ?_⟩ | refine ⟨_, S.ld1.trans rfl, ?_⟩ | refine ⟨_, _, _, S.ld1.trans rfl, ?_⟩ | refine ⟨_, S.ld2.trans rfl, ?_⟩ | refine ⟨_, _, _, S.ld2.trans rfl, ?_⟩ | refine ⟨_, S.ld3.trans rfl, ?_⟩ | refine ⟨_, _, _, S.ld3.trans rfl, ?_⟩ | refine ⟨_, S.ld4.trans rfl, ?_⟩ | refine ⟨_, _, _, S.ld4.trans rfl, ?_⟩ | refine ⟨_, S.ld5.trans rfl, ?_⟩ | refine ⟨_, _, _, S.ld5.trans rfl, ?_⟩)
  refine cIf (fun hlt => ?_) fun hge => ?_
  · (first | refine ⟨_, by assumption, ?_⟩ | refine ⟨_, S.ld0.trans rfl, ?_⟩ | refine ⟨_, _, _, S.ld0.trans rfl, ?_⟩ | refine ⟨_, S.ld1.trans rfl, ?_⟩ | refine ⟨_, _, _, S.ld1.trans rfl, ?_⟩ | refine ⟨_, S.ld2.trans rfl, ?_⟩ | refine ⟨_, _, _, S.ld2.trans rfl, ?_⟩ | refine ⟨_, S.ld3.trans rfl, ?_⟩ | refine ⟨_, _, _, S.ld3.trans rfl, ?_⟩ | refine ⟨_, S.ld4.trans rfl, ?_⟩ | refine ⟨_, _, _, S.ld4.trans rfl, ?_⟩ | refine ⟨_, S.ld5.trans rfl, ?_⟩ | refine ⟨_, _, _, S.ld5.trans rfl, ?_⟩)
    have hil : i < L.length := by omega
    refine el_T hx S rfl (List.getElem?_eq_getElem hil) fun b o c0 c1 c2 => ⟨by omega, by omega, _, c1, ?_⟩
    refine cEq (fun he => ⟨?_, rfl⟩) fun hne => ?_
    · have : findT L id = some i := by
        unfold findT
        rw [List.findIdx?_eq_some_iff_getElem]
        refine ⟨hil, by simpa using he, fun j hj => ?_⟩
        have := hno L[j] (by rw [List.mem_take_iff_getElem]; exact ⟨j, by omega, rfl⟩)
        simpa using this
      rw [this]; rfl
    · rw [w64n (by omega)]
      refine ⟨⟨rfl, i + 1, rfl, by omega, fun t ht => ?_⟩, by simp only [Int.toNat_natCast]; omega⟩
      rw [List.take_add_one, List.getElem?_eq_getElem hil] at ht
      rcases List.mem_append.1 ht with ht | ht
      · exact hno t ht
      · simp at ht; subst ht; exact hne
  · have : findT L id = none := by
      unfold findT
      rw [List.findIdx?_eq_none_iff]
      intro t ht
      have := hno t (by rw [List.take_of_length_le (by omega)]; exact ht)
      simpa using this
    exact ⟨by rw [this]; rfl, rfl⟩
theorem putT_at {L : List Tm} {t : Tm} {k : Nat} (hk : k ≤ L.length) (h1 : ∀ x ∈ L.take k, aheadT x t = true) (h2 : ∀ x, L[k]? = some x → aheadT x t = false) : putT L t = L.take k ++ t :: L.drop k := by
  have hs : L.take k ++ L.drop k = L := List.take_append_drop k L
  unfold putT
  have ht : L.takeWhile (aheadT · t) = L.take k := by
    conv => lhs; rw [← hs]
    rw [List.takeWhile_append_of_pos h1]
    cases hd : L.drop k with
    | nil => simp
    | cons x r =>
      have : L[k]? = some x := by rw [← List.head?_drop, hd]; rfl
      rw [List.takeWhile_cons_of_neg (by simp [h2 x this])]; simp
  have hd' : L.dropWhile (aheadT · t) = L.drop k := by
    conv => lhs; rw [← hs]
    rw [List.dropWhile_append_of_pos h1]
    cases hd : L.drop k with
    | nil => simp
    | cons x r =>
      have : L[k]? = some x := by rw [← List.head?_drop, hd]; rfl
      rw [List.dropWhile_cons_of_neg (by simp [h2 x this])]
  rw [ht, hd']
theorem put_spec (S : St D (rqB q a L.length c most next :: C) h) (hx : Rd D (.slice a L.length c) (.l (L.map eT))) (hn : L.length ≤ 100000) (t : Tm) :
    Run Try.prog 59 [.pointer (some ⟨q, 0, none⟩), .agg #[.int .i64 t.1, .int .i64 t.2.1, .int .i64 t.2.2]] h
      fun v h' => v = .tuple #[] ∧ ∃ D' a' c', Le D D' ∧ St D' (rqB q a' (putT L t).length c' most next :: C) h' ∧ Rd D' (.slice a' (putT L t).length c') (.l ((putT L t).map eT)) := by
  refine V59 _ _ _ _ _ _ ?_
  unfold VC59
  refine S.new fun bb hh S => ?_
  intro k hk
  have rest : ∀ (i : Nat) (h' : Heap), St D ([(bb, .cells #[.int .i64 t.1, .int .i64 t.2.1, .int .i64 t.2.2] 30 (0, 0))] :: rqB q a L.length c most next :: C) h' → i ≤ L.length → putT L t = L.take i ++ t :: L.drop i → k i h' := by
    intro i h' S hi he
    refine hk _ _ fun _ => ?_
    (first | refine ⟨_, by assumption, ?_⟩ | refine ⟨_, S.ld0.trans rfl, ?_⟩ | refine ⟨_, _, _, S.ld0.trans rfl, ?_⟩ | refine ⟨_, S.ld1.trans rfl, ?_⟩ | refine ⟨_, _, _, S.ld1.trans rfl, ?_⟩ | refine ⟨_, S.ld2.trans rfl, ?_⟩ | refine ⟨_, _, _, S.ld2.trans rfl, ?_⟩ | refine ⟨_, S.ld3.trans rfl, ?_⟩ | refine ⟨_, _, _, S.ld3.trans rfl, ?_⟩ | refine ⟨_, S.ld4.trans rfl, ?_⟩ | refine ⟨_, _, _, S.ld4.trans rfl, ?_⟩ | refine ⟨_, S.ld5.trans rfl, ?_⟩ | refine ⟨_, _, _, S.ld5.trans rfl, ?_⟩)
    have hlc := hx.len.2
    refine ⟨by omega, by omega, app_e (r := []) eyT .nil S.nil (src_take hx S eT3 hi) rfl (by simp <;> omega) (by simp <;> omega) fun a1 c1 ch1 h1 o1 S1 => ⟨_, _, _, rfl, ?_⟩⟩
    have S := S1
    (repeat (first | refine ⟨_, by assumption, ?_⟩ | refine ⟨_, S.ld0.trans rfl, ?_⟩ | refine ⟨_, _, _, S.ld0.trans rfl, ?_⟩ | refine ⟨_, S.ld1.trans rfl, ?_⟩ | refine ⟨_, _, _, S.ld1.trans rfl, ?_⟩ | refine ⟨_, S.ld2.trans rfl, ?_⟩ | refine ⟨_, _, _, S.ld2.trans rfl, ?_⟩ | refine ⟨_, S.ld3.trans rfl, ?_⟩ | refine ⟨_, _, _, S.ld3.trans rfl, ?_⟩ | refine ⟨_, S.ld4.trans rfl, ?_⟩ | refine ⟨_, _, _, S.ld4.trans rfl, ?_⟩ | refine ⟨_, S.ld5.trans rfl, ?_⟩ | refine ⟨_, _, _, S.ld5.trans rfl, ?_⟩))
    refine S.new fun b2 h2 S => ?_
    refine app_e eyT o1 S.swap (src_one S.swap eT3 (rd_T.2 rfl)) rfl rfl (by simp <;> omega) fun a3 c3 ch3 h3 o3 S3 => ⟨_, _, _, rfl, ?_⟩
    have S := S3
    (first | refine ⟨_, by assumption, ?_⟩ | refine ⟨_, S.ld0.trans rfl, ?_⟩ | refine ⟨_, _, _, S.ld0.trans rfl, ?_⟩ | refine ⟨_, S.ld1.trans rfl, ?_⟩ | refine ⟨_, _, _, S.ld1.trans rfl, ?_⟩ | refine ⟨_, S.ld2.trans rfl, ?_⟩ | refine ⟨_, _, _, S.ld2.trans rfl, ?_⟩ | refine ⟨_, S.ld3.trans rfl, ?_⟩ | refine ⟨_, _, _, S.ld3.trans rfl, ?_⟩ | refine ⟨_, S.ld4.trans rfl, ?_⟩ | refine ⟨_, _, _, S.ld4.trans rfl, ?_⟩ | refine ⟨_, S.ld5.trans rfl, ?_⟩ | refine ⟨_, _, _, S.ld5.trans rfl, ?_⟩)
    refine ⟨by omega, by omega, by omega, app_e eyT o3 S (src_drop (k := i) hx S eT3 hi) rfl (by rw [subN_eq]; simp) (by simp <;> omega) fun a4 c4 ch4 h4 o4 S4 => ⟨_, _, _, rfl, ?_⟩⟩
    obtain ⟨D', hle, S, hx'⟩ := o4.freeze S4
    refine onPtr_s ?_
    (first | refine S.st0 (by rfl) (by rfl) fun hh S => ?_ | refine S.sk0 (by rfl) (by rfl) fun hh S => ?_ | refine S.st1 (by rfl) (by rfl) fun hh S => ?_ | refine S.sk1 (by rfl) (by rfl) fun hh S => ?_ | refine S.st2 (by rfl) (by rfl) fun hh S => ?_ | refine S.sk2 (by rfl) (by rfl) fun hh S => ?_ | refine S.st3 (by rfl) (by rfl) fun hh S => ?_ | refine S.sk3 (by rfl) (by rfl) fun hh S => ?_)
    rw [List.length_map] at hx'
    have hp : [] ++ L.take i ++ [t] ++ L.drop i = putT L t := by rw [he]; simp
    simp only [hp] at hx' S
    exact ⟨rfl, D', a4, c4, hle, S.drop.drop, hx'⟩
  refine ⟨fun z h' => St D ([(bb, .cells #[.int .i64 t.1, .int .i64 t.2.1, .int .i64 t.2.2] 30 (0, 0))] :: rqB q a L.length c most next :: C) h' ∧ ∃ i : Nat, z = i ∧ i ≤ L.length ∧ ∀ x ∈ L.take i, aheadT x t = true, fun z _ => L.length - z.toNat, ⟨S, 0, rfl, by omega, by simp⟩, ?_⟩
  clear S
  rintro - h' z ⟨S, i, rfl, hi, hno⟩
  (first | refine ⟨_, by assumption, ?_⟩ | refine ⟨_, S.ld0.trans rfl, ?_⟩ | refine ⟨_, _, _, S.ld0.trans rfl, ?_⟩ | refine ⟨_, S.ld1.trans rfl, ?_⟩ | refine ⟨_, _, _, S.ld1.trans rfl, ?_⟩ | refine ⟨_, S.ld2.trans rfl, ?_⟩ | refine ⟨_, _, _, S.ld2.trans rfl, ?_⟩ | refine ⟨_, S.ld3.trans rfl, ?_⟩ | refine ⟨_, _, _, S.ld3.trans rfl, ?_⟩ | refine ⟨_, S.ld4.trans rfl, ?_⟩ | refine ⟨_, _, _, S.ld4.trans rfl, ?_⟩ | refine ⟨_, S.ld5.trans rfl, ?_⟩ | refine ⟨_, _, _, S.ld5.trans rfl, ?_⟩)
  refine cIf (fun hlt => ?_) fun hge => ?_
  · (first | refine ⟨_, by assumption, ?_⟩ | refine ⟨_, S.ld0.trans rfl, ?_⟩ | refine ⟨_, _, _, S.ld0.trans rfl, ?_⟩ | refine ⟨_, S.ld1.trans rfl, ?_⟩ | refine ⟨_, _, _, S.ld1.trans rfl, ?_⟩ | refine ⟨_, S.ld2.trans rfl, ?_⟩ | refine ⟨_, _, _, S.ld2.trans rfl, ?_⟩ | refine ⟨_, S.ld3.trans rfl, ?_⟩ | refine ⟨_, _, _, S.ld3.trans rfl, ?_⟩ | refine ⟨_, S.ld4.trans rfl, ?_⟩ | refine ⟨_, _, _, S.ld4.trans rfl, ?_⟩ | refine ⟨_, S.ld5.trans rfl, ?_⟩ | refine ⟨_, _, _, S.ld5.trans rfl, ?_⟩)
    have hil : i < L.length := by omega
    refine el_T hx S rfl (List.getElem?_eq_getElem hil) fun b o c0 c1 c2 => ⟨by omega, by omega, _, c0, _, c1, _, c2, ?_⟩
    (repeat (first | refine ⟨_, by assumption, ?_⟩ | refine ⟨_, S.ld0.trans rfl, ?_⟩ | refine ⟨_, _, _, S.ld0.trans rfl, ?_⟩ | refine ⟨_, S.ld1.trans rfl, ?_⟩ | refine ⟨_, _, _, S.ld1.trans rfl, ?_⟩ | refine ⟨_, S.ld2.trans rfl, ?_⟩ | refine ⟨_, _, _, S.ld2.trans rfl, ?_⟩ | refine ⟨_, S.ld3.trans rfl, ?_⟩ | refine ⟨_, _, _, S.ld3.trans rfl, ?_⟩ | refine ⟨_, S.ld4.trans rfl, ?_⟩ | refine ⟨_, _, _, S.ld4.trans rfl, ?_⟩ | refine ⟨_, S.ld5.trans rfl, ?_⟩ | refine ⟨_, _, _, S.ld5.trans rfl, ?_⟩))
    refine (ahead_spec S _ _).mono ?_
    rintro v h2 ⟨rfl, S⟩
    refine ⟨_, rfl, cB (fun ht => ?_) fun hf => ?_⟩
    · rw [w64n (by omega)]
      refine ⟨⟨S, i + 1, rfl, by omega, fun x hx' => ?_⟩, by simp only [Int.toNat_natCast]; omega⟩
      rw [List.take_add_one, List.getElem?_eq_getElem hil] at hx'
      rcases List.mem_append.1 hx' with hx' | hx'
      · exact hno x hx'
      · simp at hx'; subst hx'; exact ht
    · refine rest i h2 S hi (putT_at hi hno fun x hx' => ?_)
      rw [List.getElem?_eq_getElem hil] at hx'; cases hx'; exact hf
  · exact rest i h' S hi (putT_at hi hno fun x hx' => by rw [List.getElem?_eq_none (by omega)] at hx'; cases hx')
theorem take_spec (S : St D (rqB q a L.length c most next :: C) h) (hx : Rd D (.slice a L.length c) (.l (L.map eT))) (hn : L.length ≤ 100000) {k : Nat} {t : Tm} (hk : L[k]? = some t) :
    Run Try.prog 74 [.pointer (some ⟨q, 0, none⟩), .int .i64 (k : Int)] h
      fun v h' => v = .agg #[.int .i64 t.1, .int .i64 t.2.1, .int .i64 t.2.2] ∧ ∃ D' a' c', Le D D' ∧ St D' (rqB q a' (L.eraseIdx k).length c' most next :: C) h' ∧ Rd D' (.slice a' (L.eraseIdx k).length c') (.l ((L.eraseIdx k).map eT)) := by
  have hkl := (List.getElem?_eq_some_iff.1 hk).1
  have hlc := hx.len.2
  refine V74 _ _ _ _ ?_
  unfold VC74
  (repeat (first | refine onPtr_s ?_ | refine S.new fun bb hh S => ?_ | refine S.st0 (by rfl) (by rfl) fun hh S => ?_ | refine S.sk0 (by rfl) (by rfl) fun hh S => ?_ | refine S.st1 (by rfl) (by rfl) fun hh S => ?_ | refine S.sk1 (by rfl) (by rfl) fun hh S => ?_ | refine S.st2 (by rfl) (by rfl) fun hh S => ?_ | refine S.sk2 (by rfl) (by rfl) fun hh S => ?_ | refine S.st3 (by rfl) (by rfl) fun hh S => ?_ | refine S.sk3 (by rfl) (by rfl) fun hh S => ?_ | refine ⟨_, by assumption, ?_⟩ | refine ⟨_, S.ld0.trans rfl, ?_⟩ | refine ⟨_, _, _, S.ld0.trans rfl, ?_⟩ | refine ⟨_, S.ld1.trans rfl, ?_⟩ | refine ⟨_, _, _, S.ld1.trans rfl, ?_⟩ | refine ⟨_, S.ld2.trans rfl, ?_⟩ | refine ⟨_, _, _, S.ld2.trans rfl, ?_⟩ | refine ⟨_, S.ld3.trans rfl, ?_⟩ | refine ⟨_, _, _, S.ld3.trans rfl, ?_⟩ | refine ⟨_, S.ld4.trans rfl, ?_⟩ | refine ⟨_, _, _, S.ld4.trans rfl, ?_⟩ | refine ⟨_, S.ld5.trans rfl, ?_⟩ | refine ⟨_, _, _, S.ld5.trans rfl, ?_⟩))
  refine el_T hx S rfl hk fun b o c0 c1 c2 => ⟨by omega, by omega, _, c0, _, c1, _, c2, ?_⟩
  (repeat (first | refine onPtr_s ?_ | refine S.new fun bb hh S => ?_ | refine S.st0 (by rfl) (by rfl) fun hh S => ?_ | refine S.sk0 (by rfl) (by rfl) fun hh S => ?_ | refine S.st1 (by rfl) (by rfl) fun hh S => ?_ | refine S.sk1 (by rfl) (by rfl) fun hh S => ?_ | refine S.st2 (by rfl) (by rfl) fun hh S => ?_ | refine S.sk2 (by rfl) (by rfl) fun hh S => ?_ | refine S.st3 (by rfl) (by rfl) fun hh S => ?_ | refine S.sk3 (by rfl) (by rfl) fun hh S => ?_ | refine ⟨_, by assumption, ?_⟩ | refine ⟨_, S.ld0.trans rfl, ?_⟩ | refine ⟨_, _, _, S.ld0.trans rfl, ?_⟩ | refine ⟨_, S.ld1.trans rfl, ?_⟩ | refine ⟨_, _, _, S.ld1.trans rfl, ?_⟩ | refine ⟨_, S.ld2.trans rfl, ?_⟩ | refine ⟨_, _, _, S.ld2.trans rfl, ?_⟩ | refine ⟨_, S.ld3.trans rfl, ?_⟩ | refine ⟨_, _, _, S.ld3.trans rfl, ?_⟩ | refine ⟨_, S.ld4.trans rfl, ?_⟩ | refine ⟨_, _, _, S.ld4.trans rfl, ?_⟩ | refine ⟨_, S.ld5.trans rfl, ?_⟩ | refine ⟨_, _, _, S.ld5.trans rfl, ?_⟩))
  rw [w64 (x := (k : Int) + 1) (by omega) (by omega)]
  refine ⟨by omega, by omega, app_e (r := []) eyT .nil S.nil (src_take hx S eT3 (k := k) (by omega)) rfl (by simp <;> omega) (by simp <;> omega) fun a1 c1 ch1 h1 o1 S1 => ⟨_, _, _, rfl, ?_⟩⟩
  have S := S1
  (first | refine ⟨_, by assumption, ?_⟩ | refine ⟨_, S.ld0.trans rfl, ?_⟩ | refine ⟨_, _, _, S.ld0.trans rfl, ?_⟩ | refine ⟨_, S.ld1.trans rfl, ?_⟩ | refine ⟨_, _, _, S.ld1.trans rfl, ?_⟩ | refine ⟨_, S.ld2.trans rfl, ?_⟩ | refine ⟨_, _, _, S.ld2.trans rfl, ?_⟩ | refine ⟨_, S.ld3.trans rfl, ?_⟩ | refine ⟨_, _, _, S.ld3.trans rfl, ?_⟩ | refine ⟨_, S.ld4.trans rfl, ?_⟩ | refine ⟨_, _, _, S.ld4.trans rfl, ?_⟩ | refine ⟨_, S.ld5.trans rfl, ?_⟩ | refine ⟨_, _, _, S.ld5.trans rfl, ?_⟩)
  refine ⟨by omega, by omega, by omega, app_e eyT o1 S (src_drop hx S eT3 (k := k + 1) (by omega)) rfl (by rw [subN_eq]; simp <;> omega) (by simp <;> omega) fun a4 c4 ch4 h4 o4 S4 => ⟨_, _, _, rfl, ?_⟩⟩
  obtain ⟨D', hle, S, hx'⟩ := o4.freeze S4
  (repeat (first | refine onPtr_s ?_ | refine S.new fun bb hh S => ?_ | refine S.st0 (by rfl) (by rfl) fun hh S => ?_ | refine S.sk0 (by rfl) (by rfl) fun hh S => ?_ | refine S.st1 (by rfl) (by rfl) fun hh S => ?_ | refine S.sk1 (by rfl) (by rfl) fun hh S => ?_ | refine S.st2 (by rfl) (by rfl) fun hh S => ?_ | refine S.sk2 (by rfl) (by rfl) fun hh S => ?_ | refine S.st3 (by rfl) (by rfl) fun hh S => ?_ | refine S.sk3 (by rfl) (by rfl) fun hh S => ?_ | refine ⟨_, by assumption, ?_⟩ | refine ⟨_, S.ld0.trans rfl, ?_⟩ | refine ⟨_, _, _, S.ld0.trans rfl, ?_⟩ | refine ⟨_, S.ld1.trans rfl, ?_⟩ | refine ⟨_, _, _, S.ld1.trans rfl, ?_⟩ | refine ⟨_, S.ld2.trans rfl, ?_⟩ | refine ⟨_, _, _, S.ld2.trans rfl, ?_⟩ | refine ⟨_, S.ld3.trans rfl, ?_⟩ | refine ⟨_, _, _, S.ld3.trans rfl, ?_⟩ | refine ⟨_, S.ld4.trans rfl, ?_⟩ | refine ⟨_, _, _, S.ld4.trans rfl, ?_⟩ | refine ⟨_, S.ld5.trans rfl, ?_⟩ | refine ⟨_, _, _, S.ld5.trans rfl, ?_⟩))
  rw [List.length_map] at hx'
  have hp : [] ++ L.take k ++ L.drop (k + 1) = L.eraseIdx k := by rw [List.eraseIdx_eq_take_drop_succ]; rfl
  simp only [hp] at hx' S
  exact ⟨rfl, D', a4, c4, hle, S.drop.drop, hx'⟩
end

/-- The plain queue of the reference. -/
structure RQ where
  L : List Tm
  most : Int
  next : Int
/-- A block that holds it. -/
def IsR (D : Fz) (q : Nat) (x : RQ) (ch : Chunk) : Prop := ∃ a c, ch = rqB q a x.L.length c x.most x.next ∧ Rd D (.slice a x.L.length c) (.l (x.L.map eT)) ∧ x.L.length ≤ 5000
theorem IsR.mono {q : Nat} {x : RQ} {ch : Chunk} (r : IsR D q x ch) (l : Le D D') : IsR D' q x ch := let ⟨a, c, e, hx, hn⟩ := r; ⟨a, c, e, hx.mono l, hn⟩
abbrev vT (t : Tm) : Value := .agg #[.int .i64 t.1, .int .i64 t.2.1, .int .i64 t.2.2]
def RQ.insert (x : RQ) (at0 what : Int) : RQ × Int × Int :=
  if at0 < 0 then (x, 0, 1) else if (x.L.length : Int) ≥ x.most ∨ x.next = 1099511627776 then (x, 0, 4) else (⟨putT x.L (at0, x.next, what), x.most, x.next + 1⟩, x.next, 0)
def RQ.cancel (x : RQ) (id : Int) : RQ × Int := match findT x.L id with | some k => (⟨x.L.eraseIdx k, x.most, x.next⟩, 0) | none => (x, 3)
def RQ.move (x : RQ) (id at0 : Int) : RQ × Int × Int :=
  match findT x.L id with
  | none => (x, 0, 3)
  | some k => if at0 < 0 then (x, 0, 1) else if x.next = 1099511627776 then (x, 0, 4) else (⟨putT (x.L.eraseIdx k) (at0, x.next, (x.L[k]?.getD (0, 0, 0)).2.2), x.most, x.next + 1⟩, x.next, 0)
def RQ.pop (x : RQ) (now : Int) : RQ × Tm × Bool :=
  match x.L with
  | [] => (x, (0, 0, 0), false)
  | t :: L => if t.1 > now then (x, (0, 0, 0), false) else (⟨L, x.most, x.next⟩, t, true)
def RQ.get (x : RQ) (id : Int) : Tm × Bool := match findT x.L id with | some k => (x.L[k]?.getD (0, 0, 0), true) | none => ((0, 0, 0), false)
theorem putT_len (L : List Tm) (t : Tm) : (putT L t).length = L.length + 1 := by
  unfold putT
  have := congrArg List.length (List.takeWhile_append_dropWhile (p := (aheadT · t)) (l := L))
  simp only [List.length_append, List.length_cons] at *; omega
theorem findT_some {L : List Tm} {id : Int} {k : Nat} (h : findT L id = some k) : ∃ t, L[k]? = some t ∧ t.2.1 = id := by
  unfold findT at h
  rw [List.findIdx?_eq_some_iff_getElem] at h
  obtain ⟨h1, h2, -⟩ := h
  exact ⟨L[k], List.getElem?_eq_getElem h1, by simpa using h2⟩
theorem idx_none {L : List Tm} {id : Int} (h : idxT (findT L id) < 0) : findT L id = none := by
  cases hf : findT L id with
  | none => rfl
  | some k => rw [hf] at h; simp only [idxT] at h; omega
theorem idx_some {L : List Tm} {id : Int} (h : ¬ idxT (findT L id) < 0) : ∃ k t, findT L id = some k ∧ L[k]? = some t := by
  cases hf : findT L id with
  | none => rw [hf] at h; exact absurd (by decide) h
  | some k => obtain ⟨t, ht, -⟩ := findT_some hf; exact ⟨k, t, rfl, ht⟩

def QPost (q : Nat) (D : Fz) (C : List Chunk) (x' : RQ) (v' : Value) (v : Value) (h' : Heap) : Prop := v = v' ∧ ∃ D' ch', Le D D' ∧ IsR D' q x' ch' ∧ St D' (ch' :: C) h'
section
variable {q : Nat} {x : RQ} {ch : Chunk}
theorem rInsert_spec (r : IsR D q x ch) (S : St D (ch :: C) h) (hl : x.L.length ≤ 4999) (hb : 0 ≤ x.next ∧ x.next ≤ 1099511627776) (at0 what : Int) :
    Run Try.prog 51 [.pointer (some ⟨q, 0, none⟩), .int .i64 at0, .int .i64 what] h (QPost q D C (x.insert at0 what).1 (.tuple #[.int .i64 (x.insert at0 what).2.1, .int .i64 (x.insert at0 what).2.2])) := by
  have r0 := r
  obtain ⟨a, c, rfl, hx, hn⟩ := r
  refine V51 _ _ _ _ _ ?_
  unfold VC51 RQ.insert
  refine cIf (fun h1 => ?_) fun h1 => ?_
  · rw [if_pos h1]; exact ⟨rfl, D, _, .refl D, r0, S⟩
  rw [if_neg h1]
  (repeat (first | refine ⟨_, by assumption, ?_⟩ | refine ⟨_, S.ld0.trans rfl, ?_⟩ | refine ⟨_, _, _, S.ld0.trans rfl, ?_⟩ | refine ⟨_, S.ld1.trans rfl, ?_⟩ | refine ⟨_, _, _, S.ld1.trans rfl, ?_⟩ | refine ⟨_, S.ld2.trans rfl, ?_⟩ | refine ⟨_, _, _, S.ld2.trans rfl, ?_⟩ | refine ⟨_, S.ld3.trans rfl, ?_⟩ | refine ⟨_, _, _, S.ld3.trans rfl, ?_⟩ | refine ⟨_, S.ld4.trans rfl, ?_⟩ | refine ⟨_, _, _, S.ld4.trans rfl, ?_⟩ | refine ⟨_, S.ld5.trans rfl, ?_⟩ | refine ⟨_, _, _, S.ld5.trans rfl, ?_⟩))
  refine cIf (fun h2 => ?_) fun h2 => ?_
  · rw [if_pos (.inl h2)]; exact ⟨rfl, D, _, .refl D, r0, S⟩
  (repeat (first | refine ⟨_, by assumption, ?_⟩ | refine ⟨_, S.ld0.trans rfl, ?_⟩ | refine ⟨_, _, _, S.ld0.trans rfl, ?_⟩ | refine ⟨_, S.ld1.trans rfl, ?_⟩ | refine ⟨_, _, _, S.ld1.trans rfl, ?_⟩ | refine ⟨_, S.ld2.trans rfl, ?_⟩ | refine ⟨_, _, _, S.ld2.trans rfl, ?_⟩ | refine ⟨_, S.ld3.trans rfl, ?_⟩ | refine ⟨_, _, _, S.ld3.trans rfl, ?_⟩ | refine ⟨_, S.ld4.trans rfl, ?_⟩ | refine ⟨_, _, _, S.ld4.trans rfl, ?_⟩ | refine ⟨_, S.ld5.trans rfl, ?_⟩ | refine ⟨_, _, _, S.ld5.trans rfl, ?_⟩))
  refine cEq (fun h3 => ?_) fun h3 => ?_
  · rw [if_pos (.inr h3)]; exact ⟨rfl, D, _, .refl D, r0, S⟩
  rw [if_neg (by omega)]
  (repeat (first | refine ⟨_, by assumption, ?_⟩ | refine ⟨_, S.ld0.trans rfl, ?_⟩ | refine ⟨_, _, _, S.ld0.trans rfl, ?_⟩ | refine ⟨_, S.ld1.trans rfl, ?_⟩ | refine ⟨_, _, _, S.ld1.trans rfl, ?_⟩ | refine ⟨_, S.ld2.trans rfl, ?_⟩ | refine ⟨_, _, _, S.ld2.trans rfl, ?_⟩ | refine ⟨_, S.ld3.trans rfl, ?_⟩ | refine ⟨_, _, _, S.ld3.trans rfl, ?_⟩ | refine ⟨_, S.ld4.trans rfl, ?_⟩ | refine ⟨_, _, _, S.ld4.trans rfl, ?_⟩ | refine ⟨_, S.ld5.trans rfl, ?_⟩ | refine ⟨_, _, _, S.ld5.trans rfl, ?_⟩))
  refine (put_spec S hx (by omega) (at0, x.next, what)).mono ?_
  rintro v h2 ⟨rfl, D', a', c', hle, S, hx'⟩
  refine ⟨rfl, ?_⟩
  (first | refine ⟨_, by assumption, ?_⟩ | refine ⟨_, S.ld0.trans rfl, ?_⟩ | refine ⟨_, _, _, S.ld0.trans rfl, ?_⟩ | refine ⟨_, S.ld1.trans rfl, ?_⟩ | refine ⟨_, _, _, S.ld1.trans rfl, ?_⟩ | refine ⟨_, S.ld2.trans rfl, ?_⟩ | refine ⟨_, _, _, S.ld2.trans rfl, ?_⟩ | refine ⟨_, S.ld3.trans rfl, ?_⟩ | refine ⟨_, _, _, S.ld3.trans rfl, ?_⟩ | refine ⟨_, S.ld4.trans rfl, ?_⟩ | refine ⟨_, _, _, S.ld4.trans rfl, ?_⟩ | refine ⟨_, S.ld5.trans rfl, ?_⟩ | refine ⟨_, _, _, S.ld5.trans rfl, ?_⟩)
  rw [w64 (x := x.next + 1) (by omega) (by omega)]
  (repeat (first | refine onPtr_s ?_ | refine S.new fun bb hh S => ?_ | refine S.st0 (by rfl) (by rfl) fun hh S => ?_ | refine S.sk0 (by rfl) (by rfl) fun hh S => ?_ | refine S.st1 (by rfl) (by rfl) fun hh S => ?_ | refine S.sk1 (by rfl) (by rfl) fun hh S => ?_ | refine S.st2 (by rfl) (by rfl) fun hh S => ?_ | refine S.sk2 (by rfl) (by rfl) fun hh S => ?_ | refine S.st3 (by rfl) (by rfl) fun hh S => ?_ | refine S.sk3 (by rfl) (by rfl) fun hh S => ?_ | refine ⟨_, by assumption, ?_⟩ | refine ⟨_, S.ld0.trans rfl, ?_⟩ | refine ⟨_, _, _, S.ld0.trans rfl, ?_⟩ | refine ⟨_, S.ld1.trans rfl, ?_⟩ | refine ⟨_, _, _, S.ld1.trans rfl, ?_⟩ | refine ⟨_, S.ld2.trans rfl, ?_⟩ | refine ⟨_, _, _, S.ld2.trans rfl, ?_⟩ | refine ⟨_, S.ld3.trans rfl, ?_⟩ | refine ⟨_, _, _, S.ld3.trans rfl, ?_⟩ | refine ⟨_, S.ld4.trans rfl, ?_⟩ | refine ⟨_, _, _, S.ld4.trans rfl, ?_⟩ | refine ⟨_, S.ld5.trans rfl, ?_⟩ | refine ⟨_, _, _, S.ld5.trans rfl, ?_⟩))
  rw [w64 (by omega) (by omega)]
  refine ⟨by simp, D', _, hle, ⟨a', c', rfl, hx', by rw [putT_len]; omega⟩, S⟩
theorem rCancel_spec (r : IsR D q x ch) (S : St D (ch :: C) h) (id : Int) :
    Run Try.prog 52 [.pointer (some ⟨q, 0, none⟩), .int .i64 id] h (QPost q D C (x.cancel id).1 (.int .i64 (x.cancel id).2)) := by
  have r0 := r
  obtain ⟨a, c, rfl, hx, hn⟩ := r
  refine V52 _ _ _ _ ?_
  unfold VC52 RQ.cancel
  refine (find_spec S hx (by omega) id).mono ?_
  rintro v h2 ⟨rfl, rfl⟩
  refine ⟨_, rfl, cIf (fun h1 => ?_) fun h1 => ?_⟩
  · rw [idx_none h1]; exact ⟨rfl, D, _, .refl D, r0, S⟩
  obtain ⟨k, t, hk, ht⟩ := idx_some h1
  rw [hk]
  refine (take_spec S hx (by omega) ht).mono ?_
  rintro v h3 ⟨rfl, D', a', c', hle, S, hx'⟩
  exact ⟨_, _, _, rfl, rfl, D', _, hle, ⟨a', c', rfl, hx', by have := List.length_eraseIdx_le x.L k; show (x.L.eraseIdx k).length ≤ _; omega⟩, S⟩
theorem rMove_spec (r : IsR D q x ch) (S : St D (ch :: C) h) (hb : 0 ≤ x.next ∧ x.next ≤ 1099511627776) (id at0 : Int) :
    Run Try.prog 53 [.pointer (some ⟨q, 0, none⟩), .int .i64 id, .int .i64 at0] h (QPost q D C (x.move id at0).1 (.tuple #[.int .i64 (x.move id at0).2.1, .int .i64 (x.move id at0).2.2])) := by
  have r0 := r
  obtain ⟨a, c, rfl, hx, hn⟩ := r
  refine V53 _ _ _ _ _ ?_
  unfold VC53 RQ.move
  refine (find_spec S hx (by omega) id).mono ?_
  rintro v h2 ⟨rfl, rfl⟩
  refine ⟨_, rfl, cIf (fun h1 => ?_) fun h1 => ?_⟩
  · rw [idx_none h1]; exact ⟨rfl, D, _, .refl D, r0, S⟩
  obtain ⟨k, t, hk, ht⟩ := idx_some h1
  rw [hk]
  refine cIf (fun h2 => ?_) fun h2 => ?_
  · simp only [if_pos h2]; exact ⟨rfl, D, _, .refl D, r0, S⟩
  (repeat (first | refine ⟨_, by assumption, ?_⟩ | refine ⟨_, S.ld0.trans rfl, ?_⟩ | refine ⟨_, _, _, S.ld0.trans rfl, ?_⟩ | refine ⟨_, S.ld1.trans rfl, ?_⟩ | refine ⟨_, _, _, S.ld1.trans rfl, ?_⟩ | refine ⟨_, S.ld2.trans rfl, ?_⟩ | refine ⟨_, _, _, S.ld2.trans rfl, ?_⟩ | refine ⟨_, S.ld3.trans rfl, ?_⟩ | refine ⟨_, _, _, S.ld3.trans rfl, ?_⟩ | refine ⟨_, S.ld4.trans rfl, ?_⟩ | refine ⟨_, _, _, S.ld4.trans rfl, ?_⟩ | refine ⟨_, S.ld5.trans rfl, ?_⟩ | refine ⟨_, _, _, S.ld5.trans rfl, ?_⟩))
  refine cEq (fun h3 => ?_) fun h3 => ?_
  · simp only [if_neg h2, if_pos h3]; exact ⟨rfl, D, _, .refl D, r0, S⟩
  simp only [if_neg h2, if_neg h3]
  refine (take_spec S hx (by omega) ht).mono ?_
  rintro v h3 ⟨rfl, D', a', c', hle, S, hx'⟩
  have hel := List.length_eraseIdx_of_lt (List.getElem?_eq_some_iff.1 ht).1
  refine ⟨_, _, _, rfl, ?_⟩
  (repeat (first | refine onPtr_s ?_ | refine S.new fun bb hh S => ?_ | refine S.st0 (by rfl) (by rfl) fun hh S => ?_ | refine S.sk0 (by rfl) (by rfl) fun hh S => ?_ | refine S.st1 (by rfl) (by rfl) fun hh S => ?_ | refine S.sk1 (by rfl) (by rfl) fun hh S => ?_ | refine S.st2 (by rfl) (by rfl) fun hh S => ?_ | refine S.sk2 (by rfl) (by rfl) fun hh S => ?_ | refine S.st3 (by rfl) (by rfl) fun hh S => ?_ | refine S.sk3 (by rfl) (by rfl) fun hh S => ?_ | refine ⟨_, by assumption, ?_⟩ | refine ⟨_, S.ld0.trans rfl, ?_⟩ | refine ⟨_, _, _, S.ld0.trans rfl, ?_⟩ | refine ⟨_, S.ld1.trans rfl, ?_⟩ | refine ⟨_, _, _, S.ld1.trans rfl, ?_⟩ | refine ⟨_, S.ld2.trans rfl, ?_⟩ | refine ⟨_, _, _, S.ld2.trans rfl, ?_⟩ | refine ⟨_, S.ld3.trans rfl, ?_⟩ | refine ⟨_, _, _, S.ld3.trans rfl, ?_⟩ | refine ⟨_, S.ld4.trans rfl, ?_⟩ | refine ⟨_, _, _, S.ld4.trans rfl, ?_⟩ | refine ⟨_, S.ld5.trans rfl, ?_⟩ | refine ⟨_, _, _, S.ld5.trans rfl, ?_⟩))
  refine (put_spec S.drop hx' (by omega) (at0, x.next, t.2.2)).mono ?_
  rintro v h4 ⟨rfl, D2, a2, c2, hle2, S, hx2⟩
  refine ⟨rfl, ?_⟩
  (first | refine ⟨_, by assumption, ?_⟩ | refine ⟨_, S.ld0.trans rfl, ?_⟩ | refine ⟨_, _, _, S.ld0.trans rfl, ?_⟩ | refine ⟨_, S.ld1.trans rfl, ?_⟩ | refine ⟨_, _, _, S.ld1.trans rfl, ?_⟩ | refine ⟨_, S.ld2.trans rfl, ?_⟩ | refine ⟨_, _, _, S.ld2.trans rfl, ?_⟩ | refine ⟨_, S.ld3.trans rfl, ?_⟩ | refine ⟨_, _, _, S.ld3.trans rfl, ?_⟩ | refine ⟨_, S.ld4.trans rfl, ?_⟩ | refine ⟨_, _, _, S.ld4.trans rfl, ?_⟩ | refine ⟨_, S.ld5.trans rfl, ?_⟩ | refine ⟨_, _, _, S.ld5.trans rfl, ?_⟩)
  rw [w64 (x := x.next + 1) (by omega) (by omega)]
  (repeat (first | refine onPtr_s ?_ | refine S.new fun bb hh S => ?_ | refine S.st0 (by rfl) (by rfl) fun hh S => ?_ | refine S.sk0 (by rfl) (by rfl) fun hh S => ?_ | refine S.st1 (by rfl) (by rfl) fun hh S => ?_ | refine S.sk1 (by rfl) (by rfl) fun hh S => ?_ | refine S.st2 (by rfl) (by rfl) fun hh S => ?_ | refine S.sk2 (by rfl) (by rfl) fun hh S => ?_ | refine S.st3 (by rfl) (by rfl) fun hh S => ?_ | refine S.sk3 (by rfl) (by rfl) fun hh S => ?_ | refine ⟨_, by assumption, ?_⟩ | refine ⟨_, S.ld0.trans rfl, ?_⟩ | refine ⟨_, _, _, S.ld0.trans rfl, ?_⟩ | refine ⟨_, S.ld1.trans rfl, ?_⟩ | refine ⟨_, _, _, S.ld1.trans rfl, ?_⟩ | refine ⟨_, S.ld2.trans rfl, ?_⟩ | refine ⟨_, _, _, S.ld2.trans rfl, ?_⟩ | refine ⟨_, S.ld3.trans rfl, ?_⟩ | refine ⟨_, _, _, S.ld3.trans rfl, ?_⟩ | refine ⟨_, S.ld4.trans rfl, ?_⟩ | refine ⟨_, _, _, S.ld4.trans rfl, ?_⟩ | refine ⟨_, S.ld5.trans rfl, ?_⟩ | refine ⟨_, _, _, S.ld5.trans rfl, ?_⟩))
  rw [w64 (by omega) (by omega)]
  rw [ht]
  refine ⟨by simp, D2, _, hle.trans hle2, ⟨a2, c2, rfl, hx2, ?_⟩, S⟩
  show (putT _ _).length ≤ _
  rw [putT_len]; omega
theorem rPop_spec (r : IsR D q x ch) (S : St D (ch :: C) h) (now : Int) :
    Run Try.prog 54 [.pointer (some ⟨q, 0, none⟩), .int .i64 now] h (QPost q D C (x.pop now).1 (.tuple #[vT (x.pop now).2.1, .bool (x.pop now).2.2])) := by
  have r0 := r
  obtain ⟨a, c, rfl, hx, hn⟩ := r
  refine V54 _ _ _ _ ?_
  unfold VC54 RQ.pop
  (repeat (first | refine onPtr_s ?_ | refine S.new fun bb hh S => ?_ | refine S.st0 (by rfl) (by rfl) fun hh S => ?_ | refine S.sk0 (by rfl) (by rfl) fun hh S => ?_ | refine S.st1 (by rfl) (by rfl) fun hh S => ?_ | refine S.sk1 (by rfl) (by rfl) fun hh S => ?_ | refine S.st2 (by rfl) (by rfl) fun hh S => ?_ | refine S.sk2 (by rfl) (by rfl) fun hh S => ?_ | refine S.st3 (by rfl) (by rfl) fun hh S => ?_ | refine S.sk3 (by rfl) (by rfl) fun hh S => ?_ | refine ⟨_, by assumption, ?_⟩ | refine ⟨_, S.ld0.trans rfl, ?_⟩ | refine ⟨_, _, _, S.ld0.trans rfl, ?_⟩ | refine ⟨_, S.ld1.trans rfl, ?_⟩ | refine ⟨_, _, _, S.ld1.trans rfl, ?_⟩ | refine ⟨_, S.ld2.trans rfl, ?_⟩ | refine ⟨_, _, _, S.ld2.trans rfl, ?_⟩ | refine ⟨_, S.ld3.trans rfl, ?_⟩ | refine ⟨_, _, _, S.ld3.trans rfl, ?_⟩ | refine ⟨_, S.ld4.trans rfl, ?_⟩ | refine ⟨_, _, _, S.ld4.trans rfl, ?_⟩ | refine ⟨_, S.ld5.trans rfl, ?_⟩ | refine ⟨_, _, _, S.ld5.trans rfl, ?_⟩))
  refine cEq (fun h1 => ?_) fun h1 => ?_
  · (repeat (first | refine onPtr_s ?_ | refine S.new fun bb hh S => ?_ | refine S.st0 (by rfl) (by rfl) fun hh S => ?_ | refine S.sk0 (by rfl) (by rfl) fun hh S => ?_ | refine S.st1 (by rfl) (by rfl) fun hh S => ?_ | refine S.sk1 (by rfl) (by rfl) fun hh S => ?_ | refine S.st2 (by rfl) (by rfl) fun hh S => ?_ | refine S.sk2 (by rfl) (by rfl) fun hh S => ?_ | refine S.st3 (by rfl) (by rfl) fun hh S => ?_ | refine S.sk3 (by rfl) (by rfl) fun hh S => ?_ | refine ⟨_, by assumption, ?_⟩ | refine ⟨_, S.ld0.trans rfl, ?_⟩ | refine ⟨_, _, _, S.ld0.trans rfl, ?_⟩ | refine ⟨_, S.ld1.trans rfl, ?_⟩ | refine ⟨_, _, _, S.ld1.trans rfl, ?_⟩ | refine ⟨_, S.ld2.trans rfl, ?_⟩ | refine ⟨_, _, _, S.ld2.trans rfl, ?_⟩ | refine ⟨_, S.ld3.trans rfl, ?_⟩ | refine ⟨_, _, _, S.ld3.trans rfl, ?_⟩ | refine ⟨_, S.ld4.trans rfl, ?_⟩ | refine ⟨_, _, _, S.ld4.trans rfl, ?_⟩ | refine ⟨_, S.ld5.trans rfl, ?_⟩ | refine ⟨_, _, _, S.ld5.trans rfl, ?_⟩))
    have : x.L = [] := List.eq_nil_of_length_eq_zero (by omega)
    rw [this]; exact ⟨rfl, D, _, .refl D, r0, S.drop⟩
  (repeat (first | refine onPtr_s ?_ | refine S.new fun bb hh S => ?_ | refine S.st0 (by rfl) (by rfl) fun hh S => ?_ | refine S.sk0 (by rfl) (by rfl) fun hh S => ?_ | refine S.st1 (by rfl) (by rfl) fun hh S => ?_ | refine S.sk1 (by rfl) (by rfl) fun hh S => ?_ | refine S.st2 (by rfl) (by rfl) fun hh S => ?_ | refine S.sk2 (by rfl) (by rfl) fun hh S => ?_ | refine S.st3 (by rfl) (by rfl) fun hh S => ?_ | refine S.sk3 (by rfl) (by rfl) fun hh S => ?_ | refine ⟨_, by assumption, ?_⟩ | refine ⟨_, S.ld0.trans rfl, ?_⟩ | refine ⟨_, _, _, S.ld0.trans rfl, ?_⟩ | refine ⟨_, S.ld1.trans rfl, ?_⟩ | refine ⟨_, _, _, S.ld1.trans rfl, ?_⟩ | refine ⟨_, S.ld2.trans rfl, ?_⟩ | refine ⟨_, _, _, S.ld2.trans rfl, ?_⟩ | refine ⟨_, S.ld3.trans rfl, ?_⟩ | refine ⟨_, _, _, S.ld3.trans rfl, ?_⟩ | refine ⟨_, S.ld4.trans rfl, ?_⟩ | refine ⟨_, _, _, S.ld4.trans rfl, ?_⟩ | refine ⟨_, S.ld5.trans rfl, ?_⟩ | refine ⟨_, _, _, S.ld5.trans rfl, ?_⟩))
  cases hL : x.L with
  | nil => rw [hL] at h1; simp at h1
  | cons t L =>
    have ht : x.L[0]? = some t := by rw [hL]; rfl
    have hlL : x.L.length = L.length + 1 := by rw [hL]; rfl
    refine el_T hx S (z := 0) (i := 0) rfl ht fun b o c0 c1 c2 => ⟨by omega, by simp <;> omega, _, c0, ?_⟩
    refine cIf (fun h2 => ?_) fun h2 => ?_
    · (repeat (first | refine onPtr_s ?_ | refine S.new fun bb hh S => ?_ | refine S.st0 (by rfl) (by rfl) fun hh S => ?_ | refine S.sk0 (by rfl) (by rfl) fun hh S => ?_ | refine S.st1 (by rfl) (by rfl) fun hh S => ?_ | refine S.sk1 (by rfl) (by rfl) fun hh S => ?_ | refine S.st2 (by rfl) (by rfl) fun hh S => ?_ | refine S.sk2 (by rfl) (by rfl) fun hh S => ?_ | refine S.st3 (by rfl) (by rfl) fun hh S => ?_ | refine S.sk3 (by rfl) (by rfl) fun hh S => ?_ | refine ⟨_, by assumption, ?_⟩ | refine ⟨_, S.ld0.trans rfl, ?_⟩ | refine ⟨_, _, _, S.ld0.trans rfl, ?_⟩ | refine ⟨_, S.ld1.trans rfl, ?_⟩ | refine ⟨_, _, _, S.ld1.trans rfl, ?_⟩ | refine ⟨_, S.ld2.trans rfl, ?_⟩ | refine ⟨_, _, _, S.ld2.trans rfl, ?_⟩ | refine ⟨_, S.ld3.trans rfl, ?_⟩ | refine ⟨_, _, _, S.ld3.trans rfl, ?_⟩ | refine ⟨_, S.ld4.trans rfl, ?_⟩ | refine ⟨_, _, _, S.ld4.trans rfl, ?_⟩ | refine ⟨_, S.ld5.trans rfl, ?_⟩ | refine ⟨_, _, _, S.ld5.trans rfl, ?_⟩))
      simp only [if_pos h2]
      exact ⟨rfl, D, _, .refl D, r0, S.drop⟩
    simp only [if_neg h2]
    refine (take_spec (S.swap) hx (by omega) ht).mono ?_
    rintro v h3 ⟨rfl, D', a', c', hle, S, hx'⟩
    refine ⟨_, _, _, rfl, ?_⟩
    (repeat (first | refine onPtr_s ?_ | refine S.new fun bb hh S => ?_ | refine S.st0 (by rfl) (by rfl) fun hh S => ?_ | refine S.sk0 (by rfl) (by rfl) fun hh S => ?_ | refine S.st1 (by rfl) (by rfl) fun hh S => ?_ | refine S.sk1 (by rfl) (by rfl) fun hh S => ?_ | refine S.st2 (by rfl) (by rfl) fun hh S => ?_ | refine S.sk2 (by rfl) (by rfl) fun hh S => ?_ | refine S.st3 (by rfl) (by rfl) fun hh S => ?_ | refine S.sk3 (by rfl) (by rfl) fun hh S => ?_ | refine ⟨_, by assumption, ?_⟩ | refine ⟨_, S.ld0.trans rfl, ?_⟩ | refine ⟨_, _, _, S.ld0.trans rfl, ?_⟩ | refine ⟨_, S.ld1.trans rfl, ?_⟩ | refine ⟨_, _, _, S.ld1.trans rfl, ?_⟩ | refine ⟨_, S.ld2.trans rfl, ?_⟩ | refine ⟨_, _, _, S.ld2.trans rfl, ?_⟩ | refine ⟨_, S.ld3.trans rfl, ?_⟩ | refine ⟨_, _, _, S.ld3.trans rfl, ?_⟩ | refine ⟨_, S.ld4.trans rfl, ?_⟩ | refine ⟨_, _, _, S.ld4.trans rfl, ?_⟩ | refine ⟨_, S.ld5.trans rfl, ?_⟩ | refine ⟨_, _, _, S.ld5.trans rfl, ?_⟩))
    simp only [hL, List.eraseIdx_cons_zero] at hx' S
    refine ⟨rfl, D', _, hle, ⟨a', c', rfl, hx', ?_⟩, S.swap.drop⟩
    rw [hL] at hn; simp at hn ⊢; omega
theorem rGet_spec (r : IsR D q x ch) (S : St D (ch :: C) h) (id : Int) :
    Run Try.prog 55 [.pointer (some ⟨q, 0, none⟩), .int .i64 id] h fun v h' => v = .tuple #[vT (x.get id).1, .bool (x.get id).2] ∧ St D (ch :: C) h' := by
  obtain ⟨a, c, rfl, hx, hn⟩ := r
  refine V55 _ _ _ _ ?_
  unfold VC55 RQ.get
  (repeat (first | refine onPtr_s ?_ | refine S.new fun bb hh S => ?_ | refine S.st0 (by rfl) (by rfl) fun hh S => ?_ | refine S.sk0 (by rfl) (by rfl) fun hh S => ?_ | refine S.st1 (by rfl) (by rfl) fun hh S => ?_ | refine S.sk1 (by rfl) (by rfl) fun hh S => ?_ | refine S.st2 (by rfl) (by rfl) fun hh S => ?_ | refine S.sk2 (by rfl) (by rfl) fun hh S => ?_ | refine S.st3 (by rfl) (by rfl) fun hh S => ?_ | refine S.sk3 (by rfl) (by rfl) fun hh S => ?_ | refine ⟨_, by assumption, ?_⟩ | refine ⟨_, S.ld0.trans rfl, ?_⟩ | refine ⟨_, _, _, S.ld0.trans rfl, ?_⟩ | refine ⟨_, S.ld1.trans rfl, ?_⟩ | refine ⟨_, _, _, S.ld1.trans rfl, ?_⟩ | refine ⟨_, S.ld2.trans rfl, ?_⟩ | refine ⟨_, _, _, S.ld2.trans rfl, ?_⟩ | refine ⟨_, S.ld3.trans rfl, ?_⟩ | refine ⟨_, _, _, S.ld3.trans rfl, ?_⟩ | refine ⟨_, S.ld4.trans rfl, ?_⟩ | refine ⟨_, _, _, S.ld4.trans rfl, ?_⟩ | refine ⟨_, S.ld5.trans rfl, ?_⟩ | refine ⟨_, _, _, S.ld5.trans rfl, ?_⟩))
  refine (find_spec S.swap hx (by omega) id).mono ?_
  rintro v h2 ⟨rfl, rfl⟩
  refine ⟨_, rfl, cIf (fun h1 => ?_) fun h1 => ?_⟩
  · rw [idx_none h1]
    (repeat (first | refine onPtr_s ?_ | refine S.new fun bb hh S => ?_ | refine S.st0 (by rfl) (by rfl) fun hh S => ?_ | refine S.sk0 (by rfl) (by rfl) fun hh S => ?_ | refine S.st1 (by rfl) (by rfl) fun hh S => ?_ | refine S.sk1 (by rfl) (by rfl) fun hh S => ?_ | refine S.st2 (by rfl) (by rfl) fun hh S => ?_ | refine S.sk2 (by rfl) (by rfl) fun hh S => ?_ | refine S.st3 (by rfl) (by rfl) fun hh S => ?_ | refine S.sk3 (by rfl) (by rfl) fun hh S => ?_ | refine ⟨_, by assumption, ?_⟩ | refine ⟨_, S.ld0.trans rfl, ?_⟩ | refine ⟨_, _, _, S.ld0.trans rfl, ?_⟩ | refine ⟨_, S.ld1.trans rfl, ?_⟩ | refine ⟨_, _, _, S.ld1.trans rfl, ?_⟩ | refine ⟨_, S.ld2.trans rfl, ?_⟩ | refine ⟨_, _, _, S.ld2.trans rfl, ?_⟩ | refine ⟨_, S.ld3.trans rfl, ?_⟩ | refine ⟨_, _, _, S.ld3.trans rfl, ?_⟩ | refine ⟨_, S.ld4.trans rfl, ?_⟩ | refine ⟨_, _, _, S.ld4.trans rfl, ?_⟩ | refine ⟨_, S.ld5.trans rfl, ?_⟩ | refine ⟨_, _, _, S.ld5.trans rfl, ?_⟩))
    exact ⟨rfl, S.drop⟩
  obtain ⟨k, t, hk, ht⟩ := idx_some h1
  have hkl := (List.getElem?_eq_some_iff.1 ht).1
  rw [hk]
  (repeat (first | refine onPtr_s ?_ | refine S.new fun bb hh S => ?_ | refine S.st0 (by rfl) (by rfl) fun hh S => ?_ | refine S.sk0 (by rfl) (by rfl) fun hh S => ?_ | refine S.st1 (by rfl) (by rfl) fun hh S => ?_ | refine S.sk1 (by rfl) (by rfl) fun hh S => ?_ | refine S.st2 (by rfl) (by rfl) fun hh S => ?_ | refine S.sk2 (by rfl) (by rfl) fun hh S => ?_ | refine S.st3 (by rfl) (by rfl) fun hh S => ?_ | refine S.sk3 (by rfl) (by rfl) fun hh S => ?_ | refine ⟨_, by assumption, ?_⟩ | refine ⟨_, S.ld0.trans rfl, ?_⟩ | refine ⟨_, _, _, S.ld0.trans rfl, ?_⟩ | refine ⟨_, S.ld1.trans rfl, ?_⟩ | refine ⟨_, _, _, S.ld1.trans rfl, ?_⟩ | refine ⟨_, S.ld2.trans rfl, ?_⟩ | refine ⟨_, _, _, S.ld2.trans rfl, ?_⟩ | refine ⟨_, S.ld3.trans rfl, ?_⟩ | refine ⟨_, _, _, S.ld3.trans rfl, ?_⟩ | refine ⟨_, S.ld4.trans rfl, ?_⟩ | refine ⟨_, _, _, S.ld4.trans rfl, ?_⟩ | refine ⟨_, S.ld5.trans rfl, ?_⟩ | refine ⟨_, _, _, S.ld5.trans rfl, ?_⟩))
  refine el_T hx S rfl ht fun b o c0 c1 c2 => ⟨by simp only [idxT]; omega, by simp only [idxT]; omega, _, c0, _, c1, _, c2, ?_⟩
  (repeat (first | refine onPtr_s ?_ | refine S.new fun bb hh S => ?_ | refine S.st0 (by rfl) (by rfl) fun hh S => ?_ | refine S.sk0 (by rfl) (by rfl) fun hh S => ?_ | refine S.st1 (by rfl) (by rfl) fun hh S => ?_ | refine S.sk1 (by rfl) (by rfl) fun hh S => ?_ | refine S.st2 (by rfl) (by rfl) fun hh S => ?_ | refine S.sk2 (by rfl) (by rfl) fun hh S => ?_ | refine S.st3 (by rfl) (by rfl) fun hh S => ?_ | refine S.sk3 (by rfl) (by rfl) fun hh S => ?_ | refine ⟨_, by assumption, ?_⟩ | refine ⟨_, S.ld0.trans rfl, ?_⟩ | refine ⟨_, _, _, S.ld0.trans rfl, ?_⟩ | refine ⟨_, S.ld1.trans rfl, ?_⟩ | refine ⟨_, _, _, S.ld1.trans rfl, ?_⟩ | refine ⟨_, S.ld2.trans rfl, ?_⟩ | refine ⟨_, _, _, S.ld2.trans rfl, ?_⟩ | refine ⟨_, S.ld3.trans rfl, ?_⟩ | refine ⟨_, _, _, S.ld3.trans rfl, ?_⟩ | refine ⟨_, S.ld4.trans rfl, ?_⟩ | refine ⟨_, _, _, S.ld4.trans rfl, ?_⟩ | refine ⟨_, S.ld5.trans rfl, ?_⟩ | refine ⟨_, _, _, S.ld5.trans rfl, ?_⟩))
  exact ⟨by simp [ht], S.drop⟩
end
end Go.Proofs.Ytjcjlhpabjjflaa
