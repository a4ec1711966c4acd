/- The law HeapSorts over the heap. -/
import Derived.Test.YtjcjlhpabjjflaaNr
set_option linter.unusedVariables false
namespace Go.Proofs.Ytjcjlhpabjjflaa
open Go Go.Proofs
attribute [local irreducible] appK copyK delK updK lookK makeK rangeK nextM entryM mapEntryK entryStK lenMapK
variable {D D' : Fz} {C : List Chunk} {h h' : Heap}

def eI (x : Int) : List U := [.n x]
theorem el_I {a : Option Addr} {n c : Nat} {L : List Int} (hx : Rd D (.slice a n c) (.l (L.map eI))) (S : St D C h) {z : Int} {i : Nat} (hz : z = i) {t : Int} (hi : L[i]? = some t) {K : Nat → Nat → Prop}
    (hK : ∀ b o, hcell h ⟨b, o + z.toNat * 1, none⟩ = some (.int .i64 t) → K b o) : onPtr a K :=
  hx.at (sz := 1) S hz (r := eI t) (by simp [hi]) rfl fun b o vs hv hc => by
    simp only [eI, RdL.cons_iff, RdL.nil_iff, Rd.int_iff] at hv
    obtain ⟨_, _, rfl, rfl, rfl⟩ := hv
    exact hK b o (hc 0 (by omega))
def and63 (x : Int) : Int := IntKind.wrap .i64 (BitVec.toNat (BitVec.ofInt 64 x &&& BitVec.ofInt 64 9223372036854775807) : Int)
theorem and63_bd (x : Int) : 0 ≤ and63 x ∧ and63 x ≤ 9223372036854775807 := by
  unfold and63
  have h1 : (BitVec.ofInt 64 x &&& BitVec.ofInt 64 9223372036854775807).toNat ≤ 9223372036854775807 := by
    rw [BitVec.toNat_and]
    have : (BitVec.ofInt 64 9223372036854775807).toNat = 9223372036854775807 := by decide
    rw [this]; exact Nat.and_le_right
  rw [w64 (by omega) (by omega)]
  omega

theorem heapSorts_run (S : St D C h) {a : Option Addr} {n c : Nat} {l : List Int} (hx : Rd D (.slice a n c) (.l (l.map eI))) :
    Run Try.prog 3 [.slice a n c] h fun v h' => v = .bool true ∧ St D C h' := by
  have hn : n = l.length := by simpa using hx.len.1
  refine V3 _ _ _ _ _ ?_
  unfold VC3
  refine (pNew_spec S 60).mono ?_
  rintro v h1 hc
  rw [if_neg (by omega)] at hc
  obtain ⟨q, ch, rfl, r, S1⟩ := hc
  refine ⟨_, _, rfl, cNe (fun h => absurd rfl h) fun _ => ?_⟩
  obtain ⟨N, hN, hN1, hN2⟩ : ∃ N : Nat, (if (60 : Int) < (n : Int) then 60 else (n : Int)) = (N : Int) ∧ N ≤ 60 ∧ N ≤ n := by
    by_cases h6 : (60 : Int) < n
    · exact ⟨60, by rw [if_pos h6]; rfl, by omega, by omega⟩
    · exact ⟨n, by rw [if_neg h6], by omega, by omega⟩
  rw [hN]
  show cond false _ _
  let tm : Nat → Tm := fun k => (and63 (l.getD k 0), (k : Int) + 1, (k : Int))
  refine ⟨fun z h' => ∃ (i : Nat) (x : RQ) (ch : Chunk), z = i ∧ i ≤ N ∧ x.Ok ∧ x.L.Perm ((List.range i).map tm) ∧ x.most = 60 ∧ x.next = i + 1 ∧ IsQ q x.L x.most x.next ch ∧ St D (ch :: C) h', fun z _ => N - z.toNat,
    ⟨0, ⟨[], 60, 1⟩, ch, rfl, by omega, ⟨.nil, by simp, by decide, by decide, by decide⟩, .refl _, rfl, rfl, r, S1⟩, ?_⟩
  rintro - h2 z ⟨i, x, ch2, rfl, hi, hok, hp, hmo, hne, r2, S2⟩
  have hlen : x.L.length = i := by rw [hp.length_eq]; simp
  refine cIf (fun hlt => ?_) fun hge => ?_
  · have hil : i < l.length := by omega
    refine el_I hx S2 rfl (List.getElem?_eq_getElem hil) fun b o c0 => ⟨by omega, by omega, _, c0, ?_⟩
    have hb := and63_bd l[i]
    refine (pInsert_spec hok r2 S2 (and63 l[i]) i).mono ?_
    rintro v h3 ⟨rfl, ch3, r3, S3⟩
    have hins : x.insert (and63 l[i]) i = (⟨putT x.L (and63 l[i], x.next, i), x.most, x.next + 1⟩, x.next, 0) := by
      unfold RQ.insert
      rw [if_neg (by omega), if_neg (by omega)]
    have hok3 := hok.insert (and63 l[i]) i
    rw [hins] at r3 hok3 ⊢
    refine ⟨_, _, rfl, cNe (fun h => absurd rfl h) fun _ => ?_⟩
    rw [w64n (by omega)]
    refine cNe (fun h => absurd (by rw [hne]; rfl) h) fun _ => ?_
    refine ⟨⟨i + 1, _, ch3, rfl, by omega, hok3, ?_, hmo, by show x.next + 1 = _; rw [hne]; rfl, r3, S3⟩, by simp only [Int.toNat_natCast]; omega⟩
    rw [List.range_succ, List.map_append]
    refine (putT_perm _ _).trans ((hp.cons _).trans ?_)
    have : (and63 l[i], x.next, (i : Int)) = tm i := by simp only [tm, hne]; rw [List.getD_eq_getElem?_getD, List.getElem?_eq_getElem hil]; rfl
    rw [this]
    exact (List.perm_append_comm (l₁ := [tm i])).trans (.refl _)
  have hiN : i = N := by omega
  subst hiN
  refine S2.new fun m3 hh S => ?_
  (first | refine S.st0 (by rfl) (by rfl) fun hh S => ?_ | refine S.sk0 (by rfl) (by rfl) fun hh S => ?_ | refine S.st1 (by rfl) (by rfl) fun hh S => ?_ | refine S.sk1 (by rfl) (by rfl) fun hh S => ?_ | refine S.st2 (by rfl) (by rfl) fun hh S => ?_ | refine S.sk2 (by rfl) (by rfl) fun hh S => ?_ | refine S.st3 (by rfl) (by rfl) fun hh S => ?_ | refine S.sk3 (by rfl) (by rfl) fun hh S => ?_)
  refine ⟨fun z h' => ∃ (j : Nat) (x : RQ) (ch : Chunk) (w : Tm), z = j ∧ j ≤ i ∧ x.Ok ∧ x.L.length = i - j ∧ (∀ t ∈ x.L, ∃ k, k < i ∧ t = tm k) ∧ (∀ t ∈ x.L, w.1 < t.1 ∨ w.1 = t.1 ∧ w.2.1 < t.2.1) ∧ IsQ q x.L x.most x.next ch ∧
      St D ([(m3, .cells #[.int .i64 w.1, .int .i64 w.2.1, .int .i64 w.2.2] 30 (0, 0))] :: ch :: C) h', fun z _ => i - z.toNat,
    ⟨0, x, ch2, (-1, 0, 0), rfl, by omega, hok, by omega, fun t ht => ?_, fun t ht => ?_, r2, S⟩, ?_⟩
  · obtain ⟨k, hk, rfl⟩ := List.mem_map.1 (hp.mem_iff.1 ht)
    exact ⟨k, by simpa using hk, rfl⟩
  · have := hok.low t ht
    left; show (-1 : Int) < t.1; omega
  clear S S2 r2 hp hlen hne hmo hok hge hi x S1 r
  rintro - h6 z ⟨j, x, ch6, w, rfl, hj, hok, hlen, htm, hgt, r, S⟩
  refine cIf (fun hlt => ?_) fun hge => ?_
  · refine (pPop_spec hok r S.swap _).mono ?_
    rintro v h7 ⟨rfl, ch7, r7, S⟩
    have hok7 := hok.pop 9223372036854775807
    cases hL : x.L with
    | nil => rw [hL] at hlen; simp at hlen; omega
    | cons t L =>
      obtain ⟨k, hk, rfl⟩ := htm t (by rw [hL]; simp)
      have hkl : k < l.length := by omega
      have hb := and63_bd (l.getD k 0)
      have hpop : x.pop 9223372036854775807 = (⟨L, x.most, x.next⟩, tm k, true) := by
        unfold RQ.pop
        rw [hL]
        simp only [if_neg (show ¬ (tm k).1 > 9223372036854775807 by show ¬ and63 _ > _; omega)]
      rw [hpop] at r7 hok7 ⊢
      have hg := hgt (tm k) (by rw [hL]; simp)
      have hg1 : w.1 < and63 (l.getD k 0) ∨ w.1 = and63 (l.getD k 0) ∧ w.2.1 < (k : Int) + 1 := hg
      refine ⟨_, _, _, _, rfl, ?_⟩
      (repeat (first | refine onPtr_s ?_ | refine S.new fun bb hh S => ?_ | refine S.st0 (by rfl) (by rfl) fun hh S => ?_ | refine S.sk0 (by rfl) (by rfl) fun hh S => ?_ | refine S.st1 (by rfl) (by rfl) fun hh S => ?_ | refine S.sk1 (by rfl) (by rfl) fun hh S => ?_ | refine S.st2 (by rfl) (by rfl) fun hh S => ?_ | refine S.sk2 (by rfl) (by rfl) fun hh S => ?_ | refine S.st3 (by rfl) (by rfl) fun hh S => ?_ | refine S.sk3 (by rfl) (by rfl) fun hh S => ?_ | refine ⟨_, by assumption, ?_⟩ | refine ⟨_, S.ld0.trans rfl, ?_⟩ | refine ⟨_, _, _, S.ld0.trans rfl, ?_⟩ | refine ⟨_, S.ld1.trans rfl, ?_⟩ | refine ⟨_, _, _, S.ld1.trans rfl, ?_⟩ | refine ⟨_, S.ld2.trans rfl, ?_⟩ | refine ⟨_, _, _, S.ld2.trans rfl, ?_⟩ | refine ⟨_, S.ld3.trans rfl, ?_⟩ | refine ⟨_, _, _, S.ld3.trans rfl, ?_⟩ | refine ⟨_, S.ld4.trans rfl, ?_⟩ | refine ⟨_, _, _, S.ld4.trans rfl, ?_⟩ | refine ⟨_, S.ld5.trans rfl, ?_⟩ | refine ⟨_, _, _, S.ld5.trans rfl, ?_⟩))
      intro k3 hk3
      refine cNot (cB (fun _ => ?_) fun h => absurd h (by simp))
      (repeat (first | refine onPtr_s ?_ | refine S.new fun bb hh S => ?_ | refine S.st0 (by rfl) (by rfl) fun hh S => ?_ | refine S.sk0 (by rfl) (by rfl) fun hh S => ?_ | refine S.st1 (by rfl) (by rfl) fun hh S => ?_ | refine S.sk1 (by rfl) (by rfl) fun hh S => ?_ | refine S.st2 (by rfl) (by rfl) fun hh S => ?_ | refine S.sk2 (by rfl) (by rfl) fun hh S => ?_ | refine S.st3 (by rfl) (by rfl) fun hh S => ?_ | refine S.sk3 (by rfl) (by rfl) fun hh S => ?_ | refine ⟨_, by assumption, ?_⟩ | refine ⟨_, S.ld0.trans rfl, ?_⟩ | refine ⟨_, _, _, S.ld0.trans rfl, ?_⟩ | refine ⟨_, S.ld1.trans rfl, ?_⟩ | refine ⟨_, _, _, S.ld1.trans rfl, ?_⟩ | refine ⟨_, S.ld2.trans rfl, ?_⟩ | refine ⟨_, _, _, S.ld2.trans rfl, ?_⟩ | refine ⟨_, S.ld3.trans rfl, ?_⟩ | refine ⟨_, _, _, S.ld3.trans rfl, ?_⟩ | refine ⟨_, S.ld4.trans rfl, ?_⟩ | refine ⟨_, _, _, S.ld4.trans rfl, ?_⟩ | refine ⟨_, S.ld5.trans rfl, ?_⟩ | refine ⟨_, _, _, S.ld5.trans rfl, ?_⟩))
      refine cIf (fun hh => by change and63 _ < _ at hh; omega) fun _ => ?_
      (repeat (first | refine onPtr_s ?_ | refine S.new fun bb hh S => ?_ | refine S.st0 (by rfl) (by rfl) fun hh S => ?_ | refine S.sk0 (by rfl) (by rfl) fun hh S => ?_ | refine S.st1 (by rfl) (by rfl) fun hh S => ?_ | refine S.sk1 (by rfl) (by rfl) fun hh S => ?_ | refine S.st2 (by rfl) (by rfl) fun hh S => ?_ | refine S.sk2 (by rfl) (by rfl) fun hh S => ?_ | refine S.st3 (by rfl) (by rfl) fun hh S => ?_ | refine S.sk3 (by rfl) (by rfl) fun hh S => ?_ | refine ⟨_, by assumption, ?_⟩ | refine ⟨_, S.ld0.trans rfl, ?_⟩ | refine ⟨_, _, _, S.ld0.trans rfl, ?_⟩ | refine ⟨_, S.ld1.trans rfl, ?_⟩ | refine ⟨_, _, _, S.ld1.trans rfl, ?_⟩ | refine ⟨_, S.ld2.trans rfl, ?_⟩ | refine ⟨_, _, _, S.ld2.trans rfl, ?_⟩ | refine ⟨_, S.ld3.trans rfl, ?_⟩ | refine ⟨_, _, _, S.ld3.trans rfl, ?_⟩ | refine ⟨_, S.ld4.trans rfl, ?_⟩ | refine ⟨_, _, _, S.ld4.trans rfl, ?_⟩ | refine ⟨_, S.ld5.trans rfl, ?_⟩ | refine ⟨_, _, _, S.ld5.trans rfl, ?_⟩))
      have fin : ∀ {h9 : Heap}, St D (ch7 :: [(m3, .cells #[.int .i64 (tm k).1, .int .i64 (tm k).2.1, .int .i64 (tm k).2.2] 30 (0, 0))] :: C) h9 → ∃ (j' : Nat) (x' : RQ) (ch : Chunk) (w : Tm), (((j + 1 : Nat) : Int)) = j' ∧ j' ≤ i ∧ x'.Ok ∧ x'.L.length = i - j' ∧ (∀ t ∈ x'.L, ∃ k, k < i ∧ t = tm k) ∧ (∀ t ∈ x'.L, w.1 < t.1 ∨ w.1 = t.1 ∧ w.2.1 < t.2.1) ∧ IsQ q x'.L x'.most x'.next ch ∧
          St D ([(m3, .cells #[.int .i64 w.1, .int .i64 w.2.1, .int .i64 w.2.2] 30 (0, 0))] :: ch :: C) h9 := fun S9 => by
        refine ⟨j + 1, _, ch7, tm k, rfl, by omega, hok7, ?_, fun t ht => htm t (by rw [hL]; exact List.mem_cons_of_mem _ ht), fun t ht => ?_, r7, S9.swap⟩
        · rw [hL] at hlen; simp at hlen; show L.length = _; omega
        · have := hok.sort
          rw [hL] at this
          have := (List.pairwise_cons.1 this).1 t ht
          rw [aheadT_iff] at this; exact this
      have hgl : l.getD k 0 = l[k] := by rw [List.getD_eq_getElem?_getD, List.getElem?_eq_getElem hkl]; rfl
      have hw1 : ∀ x : Int, x = (k : Int) → IntKind.wrap .i64 (x + 1) = (k : Int) + 1 := fun x e => by subst e; exact w64 (by omega) (by omega)
      refine cEq (fun he => ?_) fun hne => ?_
      · (repeat (first | refine onPtr_s ?_ | refine S.new fun bb hh S => ?_ | refine S.st0 (by rfl) (by rfl) fun hh S => ?_ | refine S.sk0 (by rfl) (by rfl) fun hh S => ?_ | refine S.st1 (by rfl) (by rfl) fun hh S => ?_ | refine S.sk1 (by rfl) (by rfl) fun hh S => ?_ | refine S.st2 (by rfl) (by rfl) fun hh S => ?_ | refine S.sk2 (by rfl) (by rfl) fun hh S => ?_ | refine S.st3 (by rfl) (by rfl) fun hh S => ?_ | refine S.sk3 (by rfl) (by rfl) fun hh S => ?_ | refine ⟨_, by assumption, ?_⟩ | refine ⟨_, S.ld0.trans rfl, ?_⟩ | refine ⟨_, _, _, S.ld0.trans rfl, ?_⟩ | refine ⟨_, S.ld1.trans rfl, ?_⟩ | refine ⟨_, _, _, S.ld1.trans rfl, ?_⟩ | refine ⟨_, S.ld2.trans rfl, ?_⟩ | refine ⟨_, _, _, S.ld2.trans rfl, ?_⟩ | refine ⟨_, S.ld3.trans rfl, ?_⟩ | refine ⟨_, _, _, S.ld3.trans rfl, ?_⟩ | refine ⟨_, S.ld4.trans rfl, ?_⟩ | refine ⟨_, _, _, S.ld4.trans rfl, ?_⟩ | refine ⟨_, S.ld5.trans rfl, ?_⟩ | refine ⟨_, _, _, S.ld5.trans rfl, ?_⟩))
        refine cIf (fun hh => by change and63 _ = _ at he; change (k : Int) + 1 ≤ _ at hh; omega) fun _ => ?_
        (repeat (first | refine onPtr_s ?_ | refine S.new fun bb hh S => ?_ | refine S.st0 (by rfl) (by rfl) fun hh S => ?_ | refine S.sk0 (by rfl) (by rfl) fun hh S => ?_ | refine S.st1 (by rfl) (by rfl) fun hh S => ?_ | refine S.sk1 (by rfl) (by rfl) fun hh S => ?_ | refine S.st2 (by rfl) (by rfl) fun hh S => ?_ | refine S.sk2 (by rfl) (by rfl) fun hh S => ?_ | refine S.st3 (by rfl) (by rfl) fun hh S => ?_ | refine S.sk3 (by rfl) (by rfl) fun hh S => ?_ | refine ⟨_, by assumption, ?_⟩ | refine ⟨_, S.ld0.trans rfl, ?_⟩ | refine ⟨_, _, _, S.ld0.trans rfl, ?_⟩ | refine ⟨_, S.ld1.trans rfl, ?_⟩ | refine ⟨_, _, _, S.ld1.trans rfl, ?_⟩ | refine ⟨_, S.ld2.trans rfl, ?_⟩ | refine ⟨_, _, _, S.ld2.trans rfl, ?_⟩ | refine ⟨_, S.ld3.trans rfl, ?_⟩ | refine ⟨_, _, _, S.ld3.trans rfl, ?_⟩ | refine ⟨_, S.ld4.trans rfl, ?_⟩ | refine ⟨_, _, _, S.ld4.trans rfl, ?_⟩ | refine ⟨_, S.ld5.trans rfl, ?_⟩ | refine ⟨_, _, _, S.ld5.trans rfl, ?_⟩))
        refine cIf (fun hh => by change (k : Int) ≥ _ at hh; omega) fun _ => ?_
        (repeat (first | refine onPtr_s ?_ | refine S.new fun bb hh S => ?_ | refine S.st0 (by rfl) (by rfl) fun hh S => ?_ | refine S.sk0 (by rfl) (by rfl) fun hh S => ?_ | refine S.st1 (by rfl) (by rfl) fun hh S => ?_ | refine S.sk1 (by rfl) (by rfl) fun hh S => ?_ | refine S.st2 (by rfl) (by rfl) fun hh S => ?_ | refine S.sk2 (by rfl) (by rfl) fun hh S => ?_ | refine S.st3 (by rfl) (by rfl) fun hh S => ?_ | refine S.sk3 (by rfl) (by rfl) fun hh S => ?_ | refine ⟨_, by assumption, ?_⟩ | refine ⟨_, S.ld0.trans rfl, ?_⟩ | refine ⟨_, _, _, S.ld0.trans rfl, ?_⟩ | refine ⟨_, S.ld1.trans rfl, ?_⟩ | refine ⟨_, _, _, S.ld1.trans rfl, ?_⟩ | refine ⟨_, S.ld2.trans rfl, ?_⟩ | refine ⟨_, _, _, S.ld2.trans rfl, ?_⟩ | refine ⟨_, S.ld3.trans rfl, ?_⟩ | refine ⟨_, _, _, S.ld3.trans rfl, ?_⟩ | refine ⟨_, S.ld4.trans rfl, ?_⟩ | refine ⟨_, _, _, S.ld4.trans rfl, ?_⟩ | refine ⟨_, S.ld5.trans rfl, ?_⟩ | refine ⟨_, _, _, S.ld5.trans rfl, ?_⟩))
        refine el_I hx S (z := (tm k).2.2) (i := k) rfl (List.getElem?_eq_getElem hkl) fun b o c0 => ⟨by show 0 ≤ (k : Int); omega, by show (k : Int) < _; omega, _, c0, ?_⟩
        refine cNe (fun h => absurd (show and63 (l.getD k 0) = and63 l[k] by rw [hgl]) h) fun _ => ?_
        (repeat (first | refine onPtr_s ?_ | refine S.new fun bb hh S => ?_ | refine S.st0 (by rfl) (by rfl) fun hh S => ?_ | refine S.sk0 (by rfl) (by rfl) fun hh S => ?_ | refine S.st1 (by rfl) (by rfl) fun hh S => ?_ | refine S.sk1 (by rfl) (by rfl) fun hh S => ?_ | refine S.st2 (by rfl) (by rfl) fun hh S => ?_ | refine S.sk2 (by rfl) (by rfl) fun hh S => ?_ | refine S.st3 (by rfl) (by rfl) fun hh S => ?_ | refine S.sk3 (by rfl) (by rfl) fun hh S => ?_ | refine ⟨_, by assumption, ?_⟩ | refine ⟨_, S.ld0.trans rfl, ?_⟩ | refine ⟨_, _, _, S.ld0.trans rfl, ?_⟩ | refine ⟨_, S.ld1.trans rfl, ?_⟩ | refine ⟨_, _, _, S.ld1.trans rfl, ?_⟩ | refine ⟨_, S.ld2.trans rfl, ?_⟩ | refine ⟨_, _, _, S.ld2.trans rfl, ?_⟩ | refine ⟨_, S.ld3.trans rfl, ?_⟩ | refine ⟨_, _, _, S.ld3.trans rfl, ?_⟩ | refine ⟨_, S.ld4.trans rfl, ?_⟩ | refine ⟨_, _, _, S.ld4.trans rfl, ?_⟩ | refine ⟨_, S.ld5.trans rfl, ?_⟩ | refine ⟨_, _, _, S.ld5.trans rfl, ?_⟩))
        rw [show ((tm k).2.1 != IntKind.wrap .i64 ((tm k).2.2 + 1)) = false by rw [hw1 _ rfl]; simp [tm]]
        refine hk3 _ _ fun _ => ?_
        (repeat (first | refine onPtr_s ?_ | refine S.new fun bb hh S => ?_ | refine S.st0 (by rfl) (by rfl) fun hh S => ?_ | refine S.sk0 (by rfl) (by rfl) fun hh S => ?_ | refine S.st1 (by rfl) (by rfl) fun hh S => ?_ | refine S.sk1 (by rfl) (by rfl) fun hh S => ?_ | refine S.st2 (by rfl) (by rfl) fun hh S => ?_ | refine S.sk2 (by rfl) (by rfl) fun hh S => ?_ | refine S.st3 (by rfl) (by rfl) fun hh S => ?_ | refine S.sk3 (by rfl) (by rfl) fun hh S => ?_ | refine ⟨_, by assumption, ?_⟩ | refine ⟨_, S.ld0.trans rfl, ?_⟩ | refine ⟨_, _, _, S.ld0.trans rfl, ?_⟩ | refine ⟨_, S.ld1.trans rfl, ?_⟩ | refine ⟨_, _, _, S.ld1.trans rfl, ?_⟩ | refine ⟨_, S.ld2.trans rfl, ?_⟩ | refine ⟨_, _, _, S.ld2.trans rfl, ?_⟩ | refine ⟨_, S.ld3.trans rfl, ?_⟩ | refine ⟨_, _, _, S.ld3.trans rfl, ?_⟩ | refine ⟨_, S.ld4.trans rfl, ?_⟩ | refine ⟨_, _, _, S.ld4.trans rfl, ?_⟩ | refine ⟨_, S.ld5.trans rfl, ?_⟩ | refine ⟨_, _, _, S.ld5.trans rfl, ?_⟩))
        rw [w64n (by omega)]
        exact ⟨fin S.drop, by simp only [Int.toNat_natCast]; omega⟩
      · (repeat (first | refine onPtr_s ?_ | refine S.new fun bb hh S => ?_ | refine S.st0 (by rfl) (by rfl) fun hh S => ?_ | refine S.sk0 (by rfl) (by rfl) fun hh S => ?_ | refine S.st1 (by rfl) (by rfl) fun hh S => ?_ | refine S.sk1 (by rfl) (by rfl) fun hh S => ?_ | refine S.st2 (by rfl) (by rfl) fun hh S => ?_ | refine S.sk2 (by rfl) (by rfl) fun hh S => ?_ | refine S.st3 (by rfl) (by rfl) fun hh S => ?_ | refine S.sk3 (by rfl) (by rfl) fun hh S => ?_ | refine ⟨_, by assumption, ?_⟩ | refine ⟨_, S.ld0.trans rfl, ?_⟩ | refine ⟨_, _, _, S.ld0.trans rfl, ?_⟩ | refine ⟨_, S.ld1.trans rfl, ?_⟩ | refine ⟨_, _, _, S.ld1.trans rfl, ?_⟩ | refine ⟨_, S.ld2.trans rfl, ?_⟩ | refine ⟨_, _, _, S.ld2.trans rfl, ?_⟩ | refine ⟨_, S.ld3.trans rfl, ?_⟩ | refine ⟨_, _, _, S.ld3.trans rfl, ?_⟩ | refine ⟨_, S.ld4.trans rfl, ?_⟩ | refine ⟨_, _, _, S.ld4.trans rfl, ?_⟩ | refine ⟨_, S.ld5.trans rfl, ?_⟩ | refine ⟨_, _, _, S.ld5.trans rfl, ?_⟩))
        refine cIf (fun hh => by change (k : Int) ≥ _ at hh; omega) fun _ => ?_
        (repeat (first | refine onPtr_s ?_ | refine S.new fun bb hh S => ?_ | refine S.st0 (by rfl) (by rfl) fun hh S => ?_ | refine S.sk0 (by rfl) (by rfl) fun hh S => ?_ | refine S.st1 (by rfl) (by rfl) fun hh S => ?_ | refine S.sk1 (by rfl) (by rfl) fun hh S => ?_ | refine S.st2 (by rfl) (by rfl) fun hh S => ?_ | refine S.sk2 (by rfl) (by rfl) fun hh S => ?_ | refine S.st3 (by rfl) (by rfl) fun hh S => ?_ | refine S.sk3 (by rfl) (by rfl) fun hh S => ?_ | refine ⟨_, by assumption, ?_⟩ | refine ⟨_, S.ld0.trans rfl, ?_⟩ | refine ⟨_, _, _, S.ld0.trans rfl, ?_⟩ | refine ⟨_, S.ld1.trans rfl, ?_⟩ | refine ⟨_, _, _, S.ld1.trans rfl, ?_⟩ | refine ⟨_, S.ld2.trans rfl, ?_⟩ | refine ⟨_, _, _, S.ld2.trans rfl, ?_⟩ | refine ⟨_, S.ld3.trans rfl, ?_⟩ | refine ⟨_, _, _, S.ld3.trans rfl, ?_⟩ | refine ⟨_, S.ld4.trans rfl, ?_⟩ | refine ⟨_, _, _, S.ld4.trans rfl, ?_⟩ | refine ⟨_, S.ld5.trans rfl, ?_⟩ | refine ⟨_, _, _, S.ld5.trans rfl, ?_⟩))
        refine el_I hx S (z := (tm k).2.2) (i := k) rfl (List.getElem?_eq_getElem hkl) fun b o c0 => ⟨by show 0 ≤ (k : Int); omega, by show (k : Int) < _; omega, _, c0, ?_⟩
        refine cNe (fun h => absurd (show and63 (l.getD k 0) = and63 l[k] by rw [hgl]) h) fun _ => ?_
        (repeat (first | refine onPtr_s ?_ | refine S.new fun bb hh S => ?_ | refine S.st0 (by rfl) (by rfl) fun hh S => ?_ | refine S.sk0 (by rfl) (by rfl) fun hh S => ?_ | refine S.st1 (by rfl) (by rfl) fun hh S => ?_ | refine S.sk1 (by rfl) (by rfl) fun hh S => ?_ | refine S.st2 (by rfl) (by rfl) fun hh S => ?_ | refine S.sk2 (by rfl) (by rfl) fun hh S => ?_ | refine S.st3 (by rfl) (by rfl) fun hh S => ?_ | refine S.sk3 (by rfl) (by rfl) fun hh S => ?_ | refine ⟨_, by assumption, ?_⟩ | refine ⟨_, S.ld0.trans rfl, ?_⟩ | refine ⟨_, _, _, S.ld0.trans rfl, ?_⟩ | refine ⟨_, S.ld1.trans rfl, ?_⟩ | refine ⟨_, _, _, S.ld1.trans rfl, ?_⟩ | refine ⟨_, S.ld2.trans rfl, ?_⟩ | refine ⟨_, _, _, S.ld2.trans rfl, ?_⟩ | refine ⟨_, S.ld3.trans rfl, ?_⟩ | refine ⟨_, _, _, S.ld3.trans rfl, ?_⟩ | refine ⟨_, S.ld4.trans rfl, ?_⟩ | refine ⟨_, _, _, S.ld4.trans rfl, ?_⟩ | refine ⟨_, S.ld5.trans rfl, ?_⟩ | refine ⟨_, _, _, S.ld5.trans rfl, ?_⟩))
        rw [show ((tm k).2.1 != IntKind.wrap .i64 ((tm k).2.2 + 1)) = false by rw [hw1 _ rfl]; simp [tm]]
        refine hk3 _ _ fun _ => ?_
        (repeat (first | refine onPtr_s ?_ | refine S.new fun bb hh S => ?_ | refine S.st0 (by rfl) (by rfl) fun hh S => ?_ | refine S.sk0 (by rfl) (by rfl) fun hh S => ?_ | refine S.st1 (by rfl) (by rfl) fun hh S => ?_ | refine S.sk1 (by rfl) (by rfl) fun hh S => ?_ | refine S.st2 (by rfl) (by rfl) fun hh S => ?_ | refine S.sk2 (by rfl) (by rfl) fun hh S => ?_ | refine S.st3 (by rfl) (by rfl) fun hh S => ?_ | refine S.sk3 (by rfl) (by rfl) fun hh S => ?_ | refine ⟨_, by assumption, ?_⟩ | refine ⟨_, S.ld0.trans rfl, ?_⟩ | refine ⟨_, _, _, S.ld0.trans rfl, ?_⟩ | refine ⟨_, S.ld1.trans rfl, ?_⟩ | refine ⟨_, _, _, S.ld1.trans rfl, ?_⟩ | refine ⟨_, S.ld2.trans rfl, ?_⟩ | refine ⟨_, _, _, S.ld2.trans rfl, ?_⟩ | refine ⟨_, S.ld3.trans rfl, ?_⟩ | refine ⟨_, _, _, S.ld3.trans rfl, ?_⟩ | refine ⟨_, S.ld4.trans rfl, ?_⟩ | refine ⟨_, _, _, S.ld4.trans rfl, ?_⟩ | refine ⟨_, S.ld5.trans rfl, ?_⟩ | refine ⟨_, _, _, S.ld5.trans rfl, ?_⟩))
        rw [w64n (by omega)]
        exact ⟨fin S.drop, by simp only [Int.toNat_natCast]; omega⟩
  · have hL : x.L = [] := List.eq_nil_of_length_eq_zero (by omega)
    refine (pPop_spec hok r S.swap _).mono ?_
    rintro v h7 ⟨rfl, ch7, r7, S⟩
    have hpop : x.pop 9223372036854775807 = (x, (0, 0, 0), false) := by unfold RQ.pop; rw [hL]
    rw [hpop] at r7 ⊢
    refine ⟨_, _, _, _, rfl, ?_⟩
    (repeat (first | refine onPtr_s ?_ | refine S.new fun bb hh S => ?_ | refine S.st0 (by rfl) (by rfl) fun hh S => ?_ | refine S.sk0 (by rfl) (by rfl) fun hh S => ?_ | refine S.st1 (by rfl) (by rfl) fun hh S => ?_ | refine S.sk1 (by rfl) (by rfl) fun hh S => ?_ | refine S.st2 (by rfl) (by rfl) fun hh S => ?_ | refine S.sk2 (by rfl) (by rfl) fun hh S => ?_ | refine S.st3 (by rfl) (by rfl) fun hh S => ?_ | refine S.sk3 (by rfl) (by rfl) fun hh S => ?_ | refine ⟨_, by assumption, ?_⟩ | refine ⟨_, S.ld0.trans rfl, ?_⟩ | refine ⟨_, _, _, S.ld0.trans rfl, ?_⟩ | refine ⟨_, S.ld1.trans rfl, ?_⟩ | refine ⟨_, _, _, S.ld1.trans rfl, ?_⟩ | refine ⟨_, S.ld2.trans rfl, ?_⟩ | refine ⟨_, _, _, S.ld2.trans rfl, ?_⟩ | refine ⟨_, S.ld3.trans rfl, ?_⟩ | refine ⟨_, _, _, S.ld3.trans rfl, ?_⟩ | refine ⟨_, S.ld4.trans rfl, ?_⟩ | refine ⟨_, _, _, S.ld4.trans rfl, ?_⟩ | refine ⟨_, S.ld5.trans rfl, ?_⟩ | refine ⟨_, _, _, S.ld5.trans rfl, ?_⟩))
    refine cNot (cB (fun h => absurd h (by simp)) fun _ => ?_)
    refine (pLen_spec r7 (S.pick 1 rfl)).mono ?_
    rintro v h8 ⟨rfl, S⟩
    refine ⟨_, rfl, cEq (fun _ => ?_) fun h => absurd (by rw [hL]; rfl) h⟩
    refine (awake7S S).mono ?_
    rintro v h9 ⟨rfl, S⟩
    exact ⟨_, rfl, rfl, S.drop.drop.drop⟩
end Go.Proofs.Ytjcjlhpabjjflaa
