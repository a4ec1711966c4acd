/- The engine, part j: delete from a map with integer keys. -/
import Derived.Test.YtjcjlhpabjjflaaEh
set_option linter.unusedVariables false
namespace Go.Proofs.Ytjcjlhpabjjflaa
open Go

theorem erase_map {α β : Type} (f : α → β) : ∀ (l : List α) (i : Nat), (l.eraseIdx i).map f = (l.map f).eraseIdx i
  | [], i => by simp
  | x :: l, 0 => rfl
  | x :: l, i + 1 => by simp only [List.eraseIdx_cons_succ, List.map_cons, erase_map f l i]
theorem kvDel_idx (m : KV) (k : Int) : ∀ (i j : Nat) (v : Value), kvIdx m k i = some (j, v) → kvDel m k = m.eraseIdx (j - i) := by
  induction m with
  | nil => intro i j v h; simp [kvIdx] at h
  | cons p m ih =>
    intro i j v h
    simp only [kvIdx] at h
    simp only [kvDel]
    by_cases hp : p.1 = k
    · rw [if_pos hp] at h ⊢
      cases h
      simp
    · rw [if_neg hp] at h ⊢
      have h1 := (kvIdx_lt m k (i + 1) j v h).1
      rw [ih (i + 1) j v h, show j - i = (j - (i + 1)) + 1 by omega, List.eraseIdx_cons_succ]
theorem kvDel_none (m : KV) (k : Int) : ∀ (i : Nat), kvIdx m k i = none → kvDel m k = m := by
  induction m with
  | nil => intro i h; rfl
  | cons p m ih =>
    intro i h
    simp only [kvIdx] at h
    simp only [kvDel]
    by_cases hp : p.1 = k
    · rw [if_pos hp] at h; cases h
    · rw [if_neg hp] at h ⊢
      rw [ih (i + 1) h]
variable {P : Program}
theorem del_spec {T KT E R : TypeId} (hT : P.underlying T = some (.map KT E)) (hk : P.underlying KT = some (.int .i64)) {h : Heap} {b : Nat} {m : KV} (hm : MapI h b m) {k : Int} {K : Value → Heap → Prop}
    (hK : ∀ h' : Heap, MapI h' b (kvDel m k) → KB [b] h h' → h'.size = h.size → K (.tuple #[]) h') : delK P #[T, KT] R (.map (some b)) (.int .i64 k) h K := by
  obtain ⟨es, clk, hb, he, hn, hbn, hlt⟩ := hm
  have kb : ∀ o : Obj, KB [b] h (h.setIfInBounds b o) := fun o => ⟨by simp, fun c _ hc => by
    rw [Array.getElem?_setIfInBounds_ne]; simp at hc; exact fun e => hc e.symm⟩
  have hbl := lt_of_get hb
  unfold delK Builtin.delete_
  show SWp P (underlying T >>= _) h K
  refine SWp_bind (SWp_underlying hT ?_)
  show SWp P (getObj b >>= _) h K
  refine SWp_bind ⟨_, hb, rfl, ?_⟩
  refine SWp_bind (SWp_of_PWp (PWp_checkKey hk ?_))
  refine SWp_bind (SWp_of_PWp (PWp_findKey hk he ?_))
  cases hx : kvIdx m k 0 with
  | none =>
    rw [kvDel_none m k 0 hx] at hK
    refine ⟨⟨_, hb, rfl⟩, ?_⟩
    exact hK _ ⟨es, clk, by simp [hbl], he, hn, hbn, hlt⟩ (kb _) (by simp)
  | some p =>
    obtain ⟨j, v⟩ := p
    have hd := kvDel_idx m k 0 j v hx
    rw [Nat.sub_zero] at hd
    rw [hd] at hK
    obtain ⟨_, h1, -⟩ := kvIdx_lt m k 0 j v hx
    have hlen : es.toList.length = m.length := by have := congrArg List.length he; simpa using this
    have hjl : j < es.size := by simpa using (show j < es.toList.length by omega)
    have htl : (es.eraseIdxIfInBounds j).toList = es.toList.eraseIdx j := by
      unfold Array.eraseIdxIfInBounds
      rw [dif_pos hjl]; simp
    refine ⟨⟨_, hb, rfl⟩, ?_⟩
    refine hK _ ⟨es.eraseIdxIfInBounds j, clk, by simp [hbl], ?_, ?_, ?_, ?_⟩ (kb _) (by simp)
    · unfold entOf at *
      rw [htl, erase_map, he, erase_map]
    · rw [erase_map]
      exact hn.sublist (List.eraseIdx_sublist _ _)
    · rw [htl, erase_map]
      exact hbn.sublist (List.eraseIdx_sublist _ _)
    · intro e hem
      rw [htl] at hem
      exact hlt e (List.mem_of_mem_eraseIdx hem)
end Go.Proofs.Ytjcjlhpabjjflaa
