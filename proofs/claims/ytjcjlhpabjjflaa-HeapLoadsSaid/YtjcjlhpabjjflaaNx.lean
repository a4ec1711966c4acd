/- The laws HeapPlays and HeapLoads over the heap. -/
import Derived.Test.YtjcjlhpabjjflaaNw
set_option linter.unusedVariables false
namespace Go.Proofs.Ytjcjlhpabjjflaa
open Go Go.Proofs
attribute [local irreducible] appK copyK delK updK lookK makeK rangeK nextM entryM mapEntryK entryStK lenMapK YRun
variable {D D' : Fz} {C : List Chunk} {h h' : Heap}

/-- Both queues, with one content. -/
def Both (D : Fz) (q p : Nat) (C : List Chunk) (h : Heap) : Prop := ∃ (x : RQ) (cq cr : Chunk) (D' : Fz), Le D D' ∧ x.Ok ∧ IsQ q x.L x.most x.next cq ∧ IsR D' p x cr ∧ St D' (cq :: cr :: C) h
section
variable {q p : Nat} {x : RQ} {cq cr : Chunk}
theorem do_spec (k : x.Ok) (r : IsQ q x.L x.most x.next cq) (r2 : IsR D p x cr) (S : St D (cq :: cr :: C) h) (t : Tm) :
    Run Try.prog 33 [.pointer (some ⟨q, 0, none⟩), .pointer (some ⟨p, 0, none⟩), .agg #[.int .i64 t.1, .int .i64 t.2.1, .int .i64 t.2.2]] h fun v h' => v = .bool true ∧ Both D q p C h' := by
  have h1 := k.len; have h2 := k.most; have h3 := k.next
  refine V33 _ _ _ _ _ _ _ ?_
  unfold VC33
  refine S.new fun m1 h1 S => ?_
  have S := S.arr [1, 2, 0] rfl
  (first | refine ⟨_, by assumption, ?_⟩ | refine ⟨_, S.ld0.trans rfl, ?_⟩ | refine ⟨_, _, _, S.ld0.trans rfl, ?_⟩ | refine ⟨_, S.ld1.trans rfl, ?_⟩ | refine ⟨_, _, _, S.ld1.trans rfl, ?_⟩ | refine ⟨_, S.ld2.trans rfl, ?_⟩ | refine ⟨_, _, _, S.ld2.trans rfl, ?_⟩ | refine ⟨_, S.ld3.trans rfl, ?_⟩ | refine ⟨_, _, _, S.ld3.trans rfl, ?_⟩ | refine ⟨_, S.ld4.trans rfl, ?_⟩ | refine ⟨_, _, _, S.ld4.trans rfl, ?_⟩ | refine ⟨_, S.ld5.trans rfl, ?_⟩ | refine ⟨_, _, _, S.ld5.trans rfl, ?_⟩)
  refine cEq (fun e1 => ?_) fun e1 => ?_
  · (repeat (first | refine ⟨_, by assumption, ?_⟩ | refine ⟨_, S.ld0.trans rfl, ?_⟩ | refine ⟨_, _, _, S.ld0.trans rfl, ?_⟩ | refine ⟨_, S.ld1.trans rfl, ?_⟩ | refine ⟨_, _, _, S.ld1.trans rfl, ?_⟩ | refine ⟨_, S.ld2.trans rfl, ?_⟩ | refine ⟨_, _, _, S.ld2.trans rfl, ?_⟩ | refine ⟨_, S.ld3.trans rfl, ?_⟩ | refine ⟨_, _, _, S.ld3.trans rfl, ?_⟩ | refine ⟨_, S.ld4.trans rfl, ?_⟩ | refine ⟨_, _, _, S.ld4.trans rfl, ?_⟩ | refine ⟨_, S.ld5.trans rfl, ?_⟩ | refine ⟨_, _, _, S.ld5.trans rfl, ?_⟩))
    refine (pInsert_spec k r S _ _).mono ?_
    rintro v h2 ⟨rfl, cq', r', S⟩
    refine ⟨_, _, rfl, ?_⟩
    (repeat (first | refine ⟨_, by assumption, ?_⟩ | refine ⟨_, S.ld0.trans rfl, ?_⟩ | refine ⟨_, _, _, S.ld0.trans rfl, ?_⟩ | refine ⟨_, S.ld1.trans rfl, ?_⟩ | refine ⟨_, _, _, S.ld1.trans rfl, ?_⟩ | refine ⟨_, S.ld2.trans rfl, ?_⟩ | refine ⟨_, _, _, S.ld2.trans rfl, ?_⟩ | refine ⟨_, S.ld3.trans rfl, ?_⟩ | refine ⟨_, _, _, S.ld3.trans rfl, ?_⟩ | refine ⟨_, S.ld4.trans rfl, ?_⟩ | refine ⟨_, _, _, S.ld4.trans rfl, ?_⟩ | refine ⟨_, S.ld5.trans rfl, ?_⟩ | refine ⟨_, _, _, S.ld5.trans rfl, ?_⟩))
    refine (rInsert_spec r2 (S.arr [1, 0, 2] rfl) (by omega) ⟨by omega, by omega⟩ _ _).mono ?_
    rintro v h3 ⟨rfl, D2, cr', l2, r2', S⟩
    refine ⟨_, _, rfl, cEq (fun _ => ⟨by simp, _, cq', cr', D2, l2, k.insert _ _, r', r2', (S.arr [2, 1, 0] rfl).drop⟩) fun h => absurd rfl h⟩
  refine cEq (fun e2 => ?_) fun e2 => ?_
  · (repeat (first | refine ⟨_, by assumption, ?_⟩ | refine ⟨_, S.ld0.trans rfl, ?_⟩ | refine ⟨_, _, _, S.ld0.trans rfl, ?_⟩ | refine ⟨_, S.ld1.trans rfl, ?_⟩ | refine ⟨_, _, _, S.ld1.trans rfl, ?_⟩ | refine ⟨_, S.ld2.trans rfl, ?_⟩ | refine ⟨_, _, _, S.ld2.trans rfl, ?_⟩ | refine ⟨_, S.ld3.trans rfl, ?_⟩ | refine ⟨_, _, _, S.ld3.trans rfl, ?_⟩ | refine ⟨_, S.ld4.trans rfl, ?_⟩ | refine ⟨_, _, _, S.ld4.trans rfl, ?_⟩ | refine ⟨_, S.ld5.trans rfl, ?_⟩ | refine ⟨_, _, _, S.ld5.trans rfl, ?_⟩))
    refine (pCancel_spec k r S _).mono ?_
    rintro v h2 ⟨rfl, cq', r', S⟩
    refine ⟨_, rfl, ⟨_, S.ld2.trans rfl, rfl⟩, ?_⟩
    refine (rCancel_spec r2 (S.arr [1, 0, 2] rfl) _).mono ?_
    rintro v h3 ⟨rfl, D2, cr', l2, r2', S⟩
    exact ⟨_, rfl, by simp, _, cq', cr', D2, l2, k.cancel _, r', r2', (S.arr [2, 1, 0] rfl).drop⟩
  refine cEq (fun e3 => ?_) fun e3 => ?_
  · (repeat (first | refine ⟨_, by assumption, ?_⟩ | refine ⟨_, S.ld0.trans rfl, ?_⟩ | refine ⟨_, _, _, S.ld0.trans rfl, ?_⟩ | refine ⟨_, S.ld1.trans rfl, ?_⟩ | refine ⟨_, _, _, S.ld1.trans rfl, ?_⟩ | refine ⟨_, S.ld2.trans rfl, ?_⟩ | refine ⟨_, _, _, S.ld2.trans rfl, ?_⟩ | refine ⟨_, S.ld3.trans rfl, ?_⟩ | refine ⟨_, _, _, S.ld3.trans rfl, ?_⟩ | refine ⟨_, S.ld4.trans rfl, ?_⟩ | refine ⟨_, _, _, S.ld4.trans rfl, ?_⟩ | refine ⟨_, S.ld5.trans rfl, ?_⟩ | refine ⟨_, _, _, S.ld5.trans rfl, ?_⟩))
    refine (pMove_spec k r S _ _).mono ?_
    rintro v h2 ⟨rfl, cq', r', S⟩
    refine ⟨_, _, rfl, ?_⟩
    (repeat (first | refine ⟨_, by assumption, ?_⟩ | refine ⟨_, S.ld0.trans rfl, ?_⟩ | refine ⟨_, _, _, S.ld0.trans rfl, ?_⟩ | refine ⟨_, S.ld1.trans rfl, ?_⟩ | refine ⟨_, _, _, S.ld1.trans rfl, ?_⟩ | refine ⟨_, S.ld2.trans rfl, ?_⟩ | refine ⟨_, _, _, S.ld2.trans rfl, ?_⟩ | refine ⟨_, S.ld3.trans rfl, ?_⟩ | refine ⟨_, _, _, S.ld3.trans rfl, ?_⟩ | refine ⟨_, S.ld4.trans rfl, ?_⟩ | refine ⟨_, _, _, S.ld4.trans rfl, ?_⟩ | refine ⟨_, S.ld5.trans rfl, ?_⟩ | refine ⟨_, _, _, S.ld5.trans rfl, ?_⟩))
    refine (rMove_spec r2 (S.arr [1, 0, 2] rfl) ⟨by omega, by omega⟩ _ _).mono ?_
    rintro v h3 ⟨rfl, D2, cr', l2, r2', S⟩
    refine ⟨_, _, rfl, cEq (fun _ => ⟨by simp, _, cq', cr', D2, l2, k.move _ _, r', r2', (S.arr [2, 1, 0] rfl).drop⟩) fun h => absurd rfl h⟩
  refine cEq (fun e4 => ?_) fun e4 => ?_
  · (repeat (first | refine ⟨_, by assumption, ?_⟩ | refine ⟨_, S.ld0.trans rfl, ?_⟩ | refine ⟨_, _, _, S.ld0.trans rfl, ?_⟩ | refine ⟨_, S.ld1.trans rfl, ?_⟩ | refine ⟨_, _, _, S.ld1.trans rfl, ?_⟩ | refine ⟨_, S.ld2.trans rfl, ?_⟩ | refine ⟨_, _, _, S.ld2.trans rfl, ?_⟩ | refine ⟨_, S.ld3.trans rfl, ?_⟩ | refine ⟨_, _, _, S.ld3.trans rfl, ?_⟩ | refine ⟨_, S.ld4.trans rfl, ?_⟩ | refine ⟨_, _, _, S.ld4.trans rfl, ?_⟩ | refine ⟨_, S.ld5.trans rfl, ?_⟩ | refine ⟨_, _, _, S.ld5.trans rfl, ?_⟩))
    refine (pPop_spec k r S _).mono ?_
    rintro v h2 ⟨rfl, cq', r', S⟩
    refine ⟨_, _, _, _, rfl, ?_⟩
    refine S.new fun m2 h3 S => ?_
    (first | refine S.st0 (by rfl) (by rfl) fun hh S => ?_ | refine S.sk0 (by rfl) (by rfl) fun hh S => ?_ | refine S.st1 (by rfl) (by rfl) fun hh S => ?_ | refine S.sk1 (by rfl) (by rfl) fun hh S => ?_ | refine S.st2 (by rfl) (by rfl) fun hh S => ?_ | refine S.sk2 (by rfl) (by rfl) fun hh S => ?_ | refine S.st3 (by rfl) (by rfl) fun hh S => ?_ | refine S.sk3 (by rfl) (by rfl) fun hh S => ?_)
    have S := S.arr [1, 2, 3, 0] rfl
    (repeat (first | refine ⟨_, by assumption, ?_⟩ | refine ⟨_, S.ld0.trans rfl, ?_⟩ | refine ⟨_, _, _, S.ld0.trans rfl, ?_⟩ | refine ⟨_, S.ld1.trans rfl, ?_⟩ | refine ⟨_, _, _, S.ld1.trans rfl, ?_⟩ | refine ⟨_, S.ld2.trans rfl, ?_⟩ | refine ⟨_, _, _, S.ld2.trans rfl, ?_⟩ | refine ⟨_, S.ld3.trans rfl, ?_⟩ | refine ⟨_, _, _, S.ld3.trans rfl, ?_⟩ | refine ⟨_, S.ld4.trans rfl, ?_⟩ | refine ⟨_, _, _, S.ld4.trans rfl, ?_⟩ | refine ⟨_, S.ld5.trans rfl, ?_⟩ | refine ⟨_, _, _, S.ld5.trans rfl, ?_⟩))
    refine (rPop_spec r2 (S.arr [1, 0, 2, 3] rfl) _).mono ?_
    rintro v h4 ⟨rfl, D2, cr', l2, r2', S⟩
    refine ⟨_, _, _, _, rfl, ?_⟩
    refine S.new fun m3 h5 S => ?_
    (first | refine S.st0 (by rfl) (by rfl) fun hh S => ?_ | refine S.sk0 (by rfl) (by rfl) fun hh S => ?_ | refine S.st1 (by rfl) (by rfl) fun hh S => ?_ | refine S.sk1 (by rfl) (by rfl) fun hh S => ?_ | refine S.st2 (by rfl) (by rfl) fun hh S => ?_ | refine S.sk2 (by rfl) (by rfl) fun hh S => ?_ | refine S.st3 (by rfl) (by rfl) fun hh S => ?_ | refine S.sk3 (by rfl) (by rfl) fun hh S => ?_)
    have S := S.arr [2, 1, 3, 4, 0] rfl
    (repeat (first | refine ⟨_, by assumption, ?_⟩ | refine ⟨_, S.ld0.trans rfl, ?_⟩ | refine ⟨_, _, _, S.ld0.trans rfl, ?_⟩ | refine ⟨_, S.ld1.trans rfl, ?_⟩ | refine ⟨_, _, _, S.ld1.trans rfl, ?_⟩ | refine ⟨_, S.ld2.trans rfl, ?_⟩ | refine ⟨_, _, _, S.ld2.trans rfl, ?_⟩ | refine ⟨_, S.ld3.trans rfl, ?_⟩ | refine ⟨_, _, _, S.ld3.trans rfl, ?_⟩ | refine ⟨_, S.ld4.trans rfl, ?_⟩ | refine ⟨_, _, _, S.ld4.trans rfl, ?_⟩ | refine ⟨_, S.ld5.trans rfl, ?_⟩ | refine ⟨_, _, _, S.ld5.trans rfl, ?_⟩))
    refine cB (fun _ => ⟨by simp, _, cq', cr', D2, l2, k.pop _, r', r2', (S.arr [2, 3, 4, 0, 1] rfl).drop.drop.drop⟩) fun h => absurd h (by simp)
  · (repeat (first | refine ⟨_, by assumption, ?_⟩ | refine ⟨_, S.ld0.trans rfl, ?_⟩ | refine ⟨_, _, _, S.ld0.trans rfl, ?_⟩ | refine ⟨_, S.ld1.trans rfl, ?_⟩ | refine ⟨_, _, _, S.ld1.trans rfl, ?_⟩ | refine ⟨_, S.ld2.trans rfl, ?_⟩ | refine ⟨_, _, _, S.ld2.trans rfl, ?_⟩ | refine ⟨_, S.ld3.trans rfl, ?_⟩ | refine ⟨_, _, _, S.ld3.trans rfl, ?_⟩ | refine ⟨_, S.ld4.trans rfl, ?_⟩ | refine ⟨_, _, _, S.ld4.trans rfl, ?_⟩ | refine ⟨_, S.ld5.trans rfl, ?_⟩ | refine ⟨_, _, _, S.ld5.trans rfl, ?_⟩))
    refine (pGet_spec r S _).mono ?_
    rintro v h2 ⟨rfl, S⟩
    refine ⟨_, _, _, _, rfl, ?_⟩
    refine S.new fun m2 h3 S => ?_
    (first | refine S.st0 (by rfl) (by rfl) fun hh S => ?_ | refine S.sk0 (by rfl) (by rfl) fun hh S => ?_ | refine S.st1 (by rfl) (by rfl) fun hh S => ?_ | refine S.sk1 (by rfl) (by rfl) fun hh S => ?_ | refine S.st2 (by rfl) (by rfl) fun hh S => ?_ | refine S.sk2 (by rfl) (by rfl) fun hh S => ?_ | refine S.st3 (by rfl) (by rfl) fun hh S => ?_ | refine S.sk3 (by rfl) (by rfl) fun hh S => ?_)
    have S := S.arr [1, 2, 3, 0] rfl
    (repeat (first | refine ⟨_, by assumption, ?_⟩ | refine ⟨_, S.ld0.trans rfl, ?_⟩ | refine ⟨_, _, _, S.ld0.trans rfl, ?_⟩ | refine ⟨_, S.ld1.trans rfl, ?_⟩ | refine ⟨_, _, _, S.ld1.trans rfl, ?_⟩ | refine ⟨_, S.ld2.trans rfl, ?_⟩ | refine ⟨_, _, _, S.ld2.trans rfl, ?_⟩ | refine ⟨_, S.ld3.trans rfl, ?_⟩ | refine ⟨_, _, _, S.ld3.trans rfl, ?_⟩ | refine ⟨_, S.ld4.trans rfl, ?_⟩ | refine ⟨_, _, _, S.ld4.trans rfl, ?_⟩ | refine ⟨_, S.ld5.trans rfl, ?_⟩ | refine ⟨_, _, _, S.ld5.trans rfl, ?_⟩))
    refine (rGet_spec r2 (S.arr [1, 0, 2, 3] rfl) _).mono ?_
    rintro v h4 ⟨rfl, S⟩
    refine ⟨_, _, _, _, rfl, ?_⟩
    refine S.new fun m3 h5 S => ?_
    (first | refine S.st0 (by rfl) (by rfl) fun hh S => ?_ | refine S.sk0 (by rfl) (by rfl) fun hh S => ?_ | refine S.st1 (by rfl) (by rfl) fun hh S => ?_ | refine S.sk1 (by rfl) (by rfl) fun hh S => ?_ | refine S.st2 (by rfl) (by rfl) fun hh S => ?_ | refine S.sk2 (by rfl) (by rfl) fun hh S => ?_ | refine S.st3 (by rfl) (by rfl) fun hh S => ?_ | refine S.sk3 (by rfl) (by rfl) fun hh S => ?_)
    have S := S.arr [2, 1, 3, 4, 0] rfl
    (repeat (first | refine ⟨_, by assumption, ?_⟩ | refine ⟨_, S.ld0.trans rfl, ?_⟩ | refine ⟨_, _, _, S.ld0.trans rfl, ?_⟩ | refine ⟨_, S.ld1.trans rfl, ?_⟩ | refine ⟨_, _, _, S.ld1.trans rfl, ?_⟩ | refine ⟨_, S.ld2.trans rfl, ?_⟩ | refine ⟨_, _, _, S.ld2.trans rfl, ?_⟩ | refine ⟨_, S.ld3.trans rfl, ?_⟩ | refine ⟨_, _, _, S.ld3.trans rfl, ?_⟩ | refine ⟨_, S.ld4.trans rfl, ?_⟩ | refine ⟨_, _, _, S.ld4.trans rfl, ?_⟩ | refine ⟨_, S.ld5.trans rfl, ?_⟩ | refine ⟨_, _, _, S.ld5.trans rfl, ?_⟩))
    refine cB (fun _ => ⟨by simp, x, cq, cr, D, .refl D, k, r, r2, (S.arr [2, 3, 4, 0, 1] rfl).drop.drop.drop⟩) fun h => absurd h (by simp)
theorem same7_spec (k : x.Ok) (r : IsQ q x.L x.most x.next cq) (r2 : IsR D p x cr) (S : St D (cq :: cr :: C) h) :
    Run Try.prog 34 [.pointer (some ⟨q, 0, none⟩), .pointer (some ⟨p, 0, none⟩)] h fun v h' => v = .bool true ∧ ∃ D', Le D D' ∧ St D' (cq :: cr :: C) h' := by
  have h1 := k.len; have h2 := k.most
  obtain ⟨a, c, rfl, hx, hl⟩ := r2
  refine V34 _ _ _ _ ?_
  unfold VC34
  refine (pFirst_spec k r S).mono ?_
  rintro v h1 ⟨rfl, S⟩
  refine ⟨_, _, _, _, rfl, ?_⟩
  refine S.new fun m1 h2 S => ?_
  (first | refine S.st0 (by rfl) (by rfl) fun hh S => ?_ | refine S.sk0 (by rfl) (by rfl) fun hh S => ?_ | refine S.st1 (by rfl) (by rfl) fun hh S => ?_ | refine S.sk1 (by rfl) (by rfl) fun hh S => ?_ | refine S.st2 (by rfl) (by rfl) fun hh S => ?_ | refine S.sk2 (by rfl) (by rfl) fun hh S => ?_ | refine S.st3 (by rfl) (by rfl) fun hh S => ?_ | refine S.sk3 (by rfl) (by rfl) fun hh S => ?_)
  have S := S.arr [1, 2, 0] rfl
  intro k1 hk1
  have fin : k1 hh := hk1 hh fun _ => by
    (first | refine ⟨_, by assumption, ?_⟩ | refine ⟨_, S.ld0.trans rfl, ?_⟩ | refine ⟨_, _, _, S.ld0.trans rfl, ?_⟩ | refine ⟨_, S.ld1.trans rfl, ?_⟩ | refine ⟨_, _, _, S.ld1.trans rfl, ?_⟩ | refine ⟨_, S.ld2.trans rfl, ?_⟩ | refine ⟨_, _, _, S.ld2.trans rfl, ?_⟩ | refine ⟨_, S.ld3.trans rfl, ?_⟩ | refine ⟨_, _, _, S.ld3.trans rfl, ?_⟩ | refine ⟨_, S.ld4.trans rfl, ?_⟩ | refine ⟨_, _, _, S.ld4.trans rfl, ?_⟩ | refine ⟨_, S.ld5.trans rfl, ?_⟩ | refine ⟨_, _, _, S.ld5.trans rfl, ?_⟩)
    refine (pList_spec k r S).mono ?_
    rintro v h3 ⟨D2, a2, c2, l2, rfl, hx2, S⟩
    refine ⟨_, _, _, rfl, ⟨_, _, _, S.ld1.trans rfl, rfl⟩, ?_⟩
    refine (tSame_spec S hx2 (hx.mono l2) (by omega)).mono ?_
    rintro v h4 ⟨rfl, rfl⟩
    refine ⟨_, rfl, cB (fun _ => ?_) fun h => absurd h (by simp)⟩
    (first | refine ⟨_, by assumption, ?_⟩ | refine ⟨_, S.ld0.trans rfl, ?_⟩ | refine ⟨_, _, _, S.ld0.trans rfl, ?_⟩ | refine ⟨_, S.ld1.trans rfl, ?_⟩ | refine ⟨_, _, _, S.ld1.trans rfl, ?_⟩ | refine ⟨_, S.ld2.trans rfl, ?_⟩ | refine ⟨_, _, _, S.ld2.trans rfl, ?_⟩ | refine ⟨_, S.ld3.trans rfl, ?_⟩ | refine ⟨_, _, _, S.ld3.trans rfl, ?_⟩ | refine ⟨_, S.ld4.trans rfl, ?_⟩ | refine ⟨_, _, _, S.ld4.trans rfl, ?_⟩ | refine ⟨_, S.ld5.trans rfl, ?_⟩ | refine ⟨_, _, _, S.ld5.trans rfl, ?_⟩)
    refine (pLen_spec r S).mono ?_
    rintro v h5 ⟨rfl, S⟩
    refine ⟨_, rfl, rfl, ⟨_, _, _, S.ld1.trans rfl, rfl⟩, cEq (fun _ => ?_) fun h => absurd rfl h⟩
    (first | refine ⟨_, by assumption, ?_⟩ | refine ⟨_, S.ld0.trans rfl, ?_⟩ | refine ⟨_, _, _, S.ld0.trans rfl, ?_⟩ | refine ⟨_, S.ld1.trans rfl, ?_⟩ | refine ⟨_, _, _, S.ld1.trans rfl, ?_⟩ | refine ⟨_, S.ld2.trans rfl, ?_⟩ | refine ⟨_, _, _, S.ld2.trans rfl, ?_⟩ | refine ⟨_, S.ld3.trans rfl, ?_⟩ | refine ⟨_, _, _, S.ld3.trans rfl, ?_⟩ | refine ⟨_, S.ld4.trans rfl, ?_⟩ | refine ⟨_, _, _, S.ld4.trans rfl, ?_⟩ | refine ⟨_, S.ld5.trans rfl, ?_⟩ | refine ⟨_, _, _, S.ld5.trans rfl, ?_⟩)
    refine (pNext_spec r S).mono ?_
    rintro v h6 ⟨rfl, S⟩
    refine ⟨_, rfl, ⟨_, S.ld1.trans rfl, rfl⟩, ?_⟩
    exact ⟨by simp, D2, l2, (S.arr [2, 0, 1] rfl).drop⟩
  (first | refine ⟨_, by assumption, ?_⟩ | refine ⟨_, S.ld0.trans rfl, ?_⟩ | refine ⟨_, _, _, S.ld0.trans rfl, ?_⟩ | refine ⟨_, S.ld1.trans rfl, ?_⟩ | refine ⟨_, _, _, S.ld1.trans rfl, ?_⟩ | refine ⟨_, S.ld2.trans rfl, ?_⟩ | refine ⟨_, _, _, S.ld2.trans rfl, ?_⟩ | refine ⟨_, S.ld3.trans rfl, ?_⟩ | refine ⟨_, _, _, S.ld3.trans rfl, ?_⟩ | refine ⟨_, S.ld4.trans rfl, ?_⟩ | refine ⟨_, _, _, S.ld4.trans rfl, ?_⟩ | refine ⟨_, S.ld5.trans rfl, ?_⟩ | refine ⟨_, _, _, S.ld5.trans rfl, ?_⟩)
  unfold RQ.first at *
  cases hL : x.L with
  | nil =>
    simp only [hL] at S ⊢
    refine cNot (cB (fun _ => ?_) fun h => absurd h (by simp))
    refine cB (fun h => absurd h (by simp)) fun _ => fin
  | cons t0 L0 =>
    have ht : x.L[0]? = some t0 := by rw [hL]; rfl
    simp only [hL] at S ⊢
    refine cNot (cB (fun _ => ?_) fun h => absurd h (by simp))
    refine cB (fun _ => ?_) fun h => absurd h (by simp)
    (repeat (first | refine ⟨_, by assumption, ?_⟩ | refine ⟨_, S.ld0.trans rfl, ?_⟩ | refine ⟨_, _, _, S.ld0.trans rfl, ?_⟩ | refine ⟨_, S.ld1.trans rfl, ?_⟩ | refine ⟨_, _, _, S.ld1.trans rfl, ?_⟩ | refine ⟨_, S.ld2.trans rfl, ?_⟩ | refine ⟨_, _, _, S.ld2.trans rfl, ?_⟩ | refine ⟨_, S.ld3.trans rfl, ?_⟩ | refine ⟨_, _, _, S.ld3.trans rfl, ?_⟩ | refine ⟨_, S.ld4.trans rfl, ?_⟩ | refine ⟨_, _, _, S.ld4.trans rfl, ?_⟩ | refine ⟨_, S.ld5.trans rfl, ?_⟩ | refine ⟨_, _, _, S.ld5.trans rfl, ?_⟩))
    refine el_T hx S (z := 0) (i := 0) rfl ht fun b o c0 c1 c2 => ⟨by omega, by simp, _, c0, _, c1, _, c2, ?_⟩
    exact cNot (cB (fun _ => fin) fun h => absurd h (by simp))
end

theorem loads_none {l : List Tm} {most next : Int} {q? : Option RQ} (e : RQ.load most l next = q?) : True := trivial
theorem heapPlays_run (S : St D C h) (most : Int) {a : Option Addr} {n c : Nat} {l : List Tm} (hx : Rd D (.slice a n c) (.l (l.map eT))) :
    Run Try.prog 8 [.int .i64 most, .slice a n c] h fun v h' => v = .bool true ∧ ∃ D', Le D D' ∧ St D' C h' := by
  have hn : n = l.length := by simpa using hx.len.1
  refine V8 _ _ _ _ _ _ ?_
  unfold VC8
  refine cIf (fun _ => ?_) fun hle => ?_
  · refine (awake7S S).mono ?_
    rintro v h1 ⟨rfl, S⟩
    exact ⟨_, rfl, rfl, D, .refl D, S⟩
  refine (pNew2_spec S most).mono ?_
  intro v h1 hR
  cases hL : RQ.load most [] 1 with
  | none =>
    rw [hL] at hR
    obtain ⟨rfl, D1, l1, S⟩ := hR
    refine ⟨_, _, rfl, (rNew_spec S most).mono ?_⟩
    intro v h2 hR
    rw [hL] at hR
    obtain ⟨rfl, D2, l2, S⟩ := hR
    refine ⟨_, _, rfl, cNe (fun h => absurd rfl h) fun _ => cNot (cB (fun _ => ?_) fun h => absurd h (by simp))⟩
    refine ⟨fun z h' => z = 0 ∧ St D2 C h', fun _ _ => 0, ⟨rfl, S⟩, ?_⟩
    rintro - h3 z ⟨rfl, S⟩
    have fin : Run Try.prog 15 [] h3 fun v h' => ∃ b : Bool, v = .bool b ∧ (Value.bool b = .bool true ∧ ∃ D', Le D D' ∧ St D' C h') := (awake7S S).mono fun v h4 ⟨e, S⟩ => ⟨true, e, rfl, D2, l1.trans l2, S⟩
    exact cIf (fun _ => fin) fun _ => fin
  | some x =>
    rw [hL] at hR
    obtain ⟨q, cq, D1, rfl, l1, r, S⟩ := hR
    refine ⟨_, _, rfl, (rNew_spec S most).mono ?_⟩
    intro v h2 hR
    rw [hL] at hR
    obtain ⟨p, cr, D2, rfl, l2, r2, S⟩ := hR
    refine ⟨_, _, rfl, cNe (fun h => absurd rfl h) fun _ => cNot (cB (fun _ => ?_) fun h => absurd h (by simp))⟩
    refine ⟨fun z h' => ∃ i : Nat, z = i ∧ i ≤ n ∧ Both D q p C h', fun z _ => n - z.toNat, ⟨0, rfl, by omega, x, cq, cr, D2, l1.trans l2, load_ok hL, r, r2, S.swap⟩, ?_⟩
    rintro - h3 z ⟨i, rfl, hi, x, cq, cr, D3, l3, k, r, r2, S⟩
    refine cIf (fun hlt => ?_) fun hge => ?_
    · have hil : i < l.length := by omega
      show onPtr a _
      refine el_T (hx.mono l3) S rfl (List.getElem?_eq_getElem hil) fun b o c0 c1 c2 => ⟨by omega, by omega, _, c0, _, c1, _, c2, ?_⟩
      refine (do_spec k r r2 S l[i]).mono ?_
      rintro v h4 ⟨rfl, x, cq, cr, D4, l4, k, r, r2, S⟩
      refine ⟨_, rfl, cNot (cB (fun _ => ?_) fun h => absurd h (by simp))⟩
      refine (same7_spec k r r2 S).mono ?_
      rintro v h5 ⟨rfl, D5, l5, S⟩
      refine ⟨_, rfl, cNot (cB (fun _ => ?_) fun h => absurd h (by simp))⟩
      rw [w64n (by omega)]
      exact ⟨⟨i + 1, rfl, by omega, x, cq, cr, D5, (l3.trans l4).trans l5, k, r, r2.mono l5, S⟩, by simp only [Int.toNat_natCast]; omega⟩
    · refine (awake7S S).mono ?_
      rintro v h4 ⟨rfl, S⟩
      exact ⟨_, rfl, rfl, D3, l3, S.drop.drop⟩
theorem heapLoads_run (S : St D C h) (n0 n1 : Int) {a : Option Addr} {n c : Nat} {l : List Tm} (hx : Rd D (.slice a n c) (.l (l.map eT))) {a' : Option Addr} {n' c' : Nat} {acts : List Tm} (hy : Rd D (.slice a' n' c') (.l (acts.map eT))) :
    Run Try.prog 9 [.agg #[.int .i64 n0, .int .i64 n1], .slice a n c, .slice a' n' c'] h fun v h' => v = .bool true ∧ ∃ D', Le D D' ∧ St D' C h' := by
  have hn : n = l.length := by simpa using hx.len.1
  have hn' : n' = acts.length := by simpa using hy.len.1
  refine V9 _ _ _ _ _ _ _ _ _ _ ?_
  unfold VC9
  refine S.new fun m1 h1 S => ?_
  refine cIf (fun _ => ?_) fun hle => ?_
  · refine (awake7S S).mono ?_
    rintro v h1 ⟨rfl, S⟩
    exact ⟨_, rfl, rfl, D, .refl D, S.drop⟩
  refine cIf (fun _ => ?_) fun hle' => ?_
  · refine (awake7S S).mono ?_
    rintro v h1 ⟨rfl, S⟩
    exact ⟨_, rfl, rfl, D, .refl D, S.drop⟩
  refine ⟨by decide, by decide, ?_⟩
  (first | refine ⟨_, by assumption, ?_⟩ | refine ⟨_, S.ld0.trans rfl, ?_⟩ | refine ⟨_, _, _, S.ld0.trans rfl, ?_⟩ | refine ⟨_, S.ld1.trans rfl, ?_⟩ | refine ⟨_, _, _, S.ld1.trans rfl, ?_⟩ | refine ⟨_, S.ld2.trans rfl, ?_⟩ | refine ⟨_, _, _, S.ld2.trans rfl, ?_⟩ | refine ⟨_, S.ld3.trans rfl, ?_⟩ | refine ⟨_, _, _, S.ld3.trans rfl, ?_⟩ | refine ⟨_, S.ld4.trans rfl, ?_⟩ | refine ⟨_, _, _, S.ld4.trans rfl, ?_⟩ | refine ⟨_, S.ld5.trans rfl, ?_⟩ | refine ⟨_, _, _, S.ld5.trans rfl, ?_⟩)
  refine ⟨by decide, by decide, ?_⟩
  (first | refine ⟨_, by assumption, ?_⟩ | refine ⟨_, S.ld0.trans rfl, ?_⟩ | refine ⟨_, _, _, S.ld0.trans rfl, ?_⟩ | refine ⟨_, S.ld1.trans rfl, ?_⟩ | refine ⟨_, _, _, S.ld1.trans rfl, ?_⟩ | refine ⟨_, S.ld2.trans rfl, ?_⟩ | refine ⟨_, _, _, S.ld2.trans rfl, ?_⟩ | refine ⟨_, S.ld3.trans rfl, ?_⟩ | refine ⟨_, _, _, S.ld3.trans rfl, ?_⟩ | refine ⟨_, S.ld4.trans rfl, ?_⟩ | refine ⟨_, _, _, S.ld4.trans rfl, ?_⟩ | refine ⟨_, S.ld5.trans rfl, ?_⟩ | refine ⟨_, _, _, S.ld5.trans rfl, ?_⟩)
  refine (pLoad_spec S hx n0 n1).mono ?_
  intro v h2 hR
  cases hL : RQ.load n0 l n1 with
  | none =>
    rw [hL] at hR
    obtain ⟨rfl, D1, l1, S⟩ := hR
    refine ⟨_, _, rfl, by decide, by decide, ?_⟩
    (first | refine ⟨_, by assumption, ?_⟩ | refine ⟨_, S.ld0.trans rfl, ?_⟩ | refine ⟨_, _, _, S.ld0.trans rfl, ?_⟩ | refine ⟨_, S.ld1.trans rfl, ?_⟩ | refine ⟨_, _, _, S.ld1.trans rfl, ?_⟩ | refine ⟨_, S.ld2.trans rfl, ?_⟩ | refine ⟨_, _, _, S.ld2.trans rfl, ?_⟩ | refine ⟨_, S.ld3.trans rfl, ?_⟩ | refine ⟨_, _, _, S.ld3.trans rfl, ?_⟩ | refine ⟨_, S.ld4.trans rfl, ?_⟩ | refine ⟨_, _, _, S.ld4.trans rfl, ?_⟩ | refine ⟨_, S.ld5.trans rfl, ?_⟩ | refine ⟨_, _, _, S.ld5.trans rfl, ?_⟩)
    refine ⟨by decide, by decide, ?_⟩
    (first | refine ⟨_, by assumption, ?_⟩ | refine ⟨_, S.ld0.trans rfl, ?_⟩ | refine ⟨_, _, _, S.ld0.trans rfl, ?_⟩ | refine ⟨_, S.ld1.trans rfl, ?_⟩ | refine ⟨_, _, _, S.ld1.trans rfl, ?_⟩ | refine ⟨_, S.ld2.trans rfl, ?_⟩ | refine ⟨_, _, _, S.ld2.trans rfl, ?_⟩ | refine ⟨_, S.ld3.trans rfl, ?_⟩ | refine ⟨_, _, _, S.ld3.trans rfl, ?_⟩ | refine ⟨_, S.ld4.trans rfl, ?_⟩ | refine ⟨_, _, _, S.ld4.trans rfl, ?_⟩ | refine ⟨_, S.ld5.trans rfl, ?_⟩ | refine ⟨_, _, _, S.ld5.trans rfl, ?_⟩)
    refine (rLoad_spec S (hx.mono l1) n0 n1).mono ?_
    intro v h3 hR
    rw [hL] at hR
    obtain ⟨rfl, D2, l2, S⟩ := hR
    refine ⟨_, _, rfl, cNe (fun h => absurd rfl h) fun _ => cNot (cB (fun _ => ?_) fun h => absurd h (by simp))⟩
    refine ⟨fun z h' => z = 0 ∧ St D2 ([(m1, .cells #[.int .i64 n0, .int .i64 n1] 58 (0, 0))] :: C) h', fun _ _ => 0, ⟨rfl, S⟩, ?_⟩
    rintro - h3 z ⟨rfl, S⟩
    have fin : Run Try.prog 15 [] h3 fun v h' => ∃ b : Bool, v = .bool b ∧ (Value.bool b = .bool true ∧ ∃ D', Le D D' ∧ St D' C h') := (awake7S S).mono fun v h4 ⟨e, S⟩ => ⟨true, e, rfl, D2, l1.trans l2, S.drop⟩
    exact cIf (fun _ => cEq (fun h => absurd h (by decide)) fun _ => cNe (fun _ => fin) fun h => absurd h (by decide)) fun _ => cNe (fun _ => fin) fun h => absurd h (by decide)
  | some x =>
    rw [hL] at hR
    obtain ⟨q, cq, D1, rfl, l1, r, S⟩ := hR
    refine ⟨_, _, rfl, by decide, by decide, ?_⟩
    (first | refine ⟨_, by assumption, ?_⟩ | refine ⟨_, S.ld0.trans rfl, ?_⟩ | refine ⟨_, _, _, S.ld0.trans rfl, ?_⟩ | refine ⟨_, S.ld1.trans rfl, ?_⟩ | refine ⟨_, _, _, S.ld1.trans rfl, ?_⟩ | refine ⟨_, S.ld2.trans rfl, ?_⟩ | refine ⟨_, _, _, S.ld2.trans rfl, ?_⟩ | refine ⟨_, S.ld3.trans rfl, ?_⟩ | refine ⟨_, _, _, S.ld3.trans rfl, ?_⟩ | refine ⟨_, S.ld4.trans rfl, ?_⟩ | refine ⟨_, _, _, S.ld4.trans rfl, ?_⟩ | refine ⟨_, S.ld5.trans rfl, ?_⟩ | refine ⟨_, _, _, S.ld5.trans rfl, ?_⟩)
    refine ⟨by decide, by decide, ?_⟩
    (first | refine ⟨_, by assumption, ?_⟩ | refine ⟨_, S.ld0.trans rfl, ?_⟩ | refine ⟨_, _, _, S.ld0.trans rfl, ?_⟩ | refine ⟨_, S.ld1.trans rfl, ?_⟩ | refine ⟨_, _, _, S.ld1.trans rfl, ?_⟩ | refine ⟨_, S.ld2.trans rfl, ?_⟩ | refine ⟨_, _, _, S.ld2.trans rfl, ?_⟩ | refine ⟨_, S.ld3.trans rfl, ?_⟩ | refine ⟨_, _, _, S.ld3.trans rfl, ?_⟩ | refine ⟨_, S.ld4.trans rfl, ?_⟩ | refine ⟨_, _, _, S.ld4.trans rfl, ?_⟩ | refine ⟨_, S.ld5.trans rfl, ?_⟩ | refine ⟨_, _, _, S.ld5.trans rfl, ?_⟩)
    refine (rLoad_spec S (hx.mono l1) n0 n1).mono ?_
    intro v h3 hR
    rw [hL] at hR
    obtain ⟨p, cr, D2, rfl, l2, r2, S⟩ := hR
    refine ⟨_, _, rfl, cNe (fun h => absurd rfl h) fun _ => cNot (cB (fun _ => ?_) fun h => absurd h (by simp))⟩
    refine ⟨fun z h' => ∃ i : Nat, z = i ∧ i ≤ n' ∧ Both D q p ([(m1, .cells #[.int .i64 n0, .int .i64 n1] 58 (0, 0))] :: C) h', fun z _ => n' - z.toNat, ⟨0, rfl, by omega, x, cq, cr, D2, l1.trans l2, load_ok hL, r, r2, S.swap⟩, ?_⟩
    rintro - h3 z ⟨i, rfl, hi, x, cq, cr, D3, l3, k, r, r2, S⟩
    have fin : Run Try.prog 34 [.pointer (some ⟨q, 0, none⟩), .pointer (some ⟨p, 0, none⟩)] h3 fun v h' => ∃ b : Bool, v = .bool b ∧ cond b (Run Try.prog 15 [] h' fun v h' => ∃ b : Bool, v = .bool b ∧ (Value.bool b = .bool true ∧ ∃ D', Le D D' ∧ St D' C h')) (Value.bool false = .bool true ∧ ∃ D', Le D D' ∧ St D' C h') := by
      refine (same7_spec k r r2 S).mono ?_
      rintro v h5 ⟨rfl, D5, l5, S⟩
      refine ⟨true, rfl, cB (fun _ => ?_) fun h => nomatch h⟩
      exact (awake7S S).mono fun v h4 ⟨e, S⟩ => ⟨true, e, rfl, D5, l3.trans l5, S.drop.drop.drop⟩
    refine cIf (fun hlt => ?_) fun hge => ?_
    · have hil : i < acts.length := by omega
      refine cEq (fun _ => ?_) fun h => absurd rfl h
      refine (same7_spec k r r2 S).mono ?_
      rintro v h5 ⟨rfl, D5, l5, S⟩
      refine ⟨_, rfl, cNot (cB (fun _ => ?_) fun h => absurd h (by simp))⟩
      refine el_T (hy.mono (l3.trans l5)) S rfl (List.getElem?_eq_getElem hil) fun b o c0 c1 c2 => ⟨by omega, by omega, _, c0, _, c1, _, c2, ?_⟩
      refine (do_spec k r (r2.mono l5) S acts[i]).mono ?_
      rintro v h4 ⟨rfl, x, cq, cr, D4, l4, k, r, r2, S⟩
      refine ⟨_, rfl, cNot (cB (fun _ => ?_) fun h => absurd h (by simp))⟩
      rw [w64n (by omega)]
      exact ⟨⟨i + 1, rfl, by omega, x, cq, cr, D4, (l3.trans l5).trans l4, k, r, r2, S⟩, by simp only [Int.toNat_natCast]; omega⟩
    · exact cNe (fun h => absurd rfl h) fun _ => fin
end Go.Proofs.Ytjcjlhpabjjflaa
