/- What the reference of layer 8 computes: Norm. -/
import Derived.Test.YtjcjlhpabjjflaaEh
import Derived.Test.YtjcjlhpabjjflaaPa
import Derived.Test.YtjcjlhpabjjflaaV0
set_option linter.unusedVariables false
namespace Go.Proofs.Ytjcjlhpabjjflaa
open Go
attribute [local irreducible] appK copyK delK updK lookK makeK rangeK nextM entryM mapEntryK entryStK lenMapK

def encS (x : Stk) : List Value := [.int .i64 x.1, .int .i64 x.2]
theorem encS_len (x : Stk) : (encS x).length = 2 := rfl
abbrev Sl (h : Heap) (a : Option Addr) (n c : Nat) (l : List Stk) : Prop := SlOf encS 2 h a n c l
theorem Sl.el {h : Heap} {a : Option Addr} {n c : Nat} {l : List Stk} (s : Sl h a n c l) {i : Nat} (hi : i < l.length) {K : Nat → Nat → Prop}
    (hK : ∀ b o, hcell h ⟨b, o + Int.toNat (i : Int) * 2, none⟩ = some (.int .i64 l[i].1) → hcell h ⟨b, o + Int.toNat (i : Int) * 2 + 1, none⟩ = some (.int .i64 l[i].2) → K b o) : onPtr a K :=
  SlOf.el s rfl hi fun b o hc => hK b o (hc 0 _ rfl) (hc 1 _ rfl)
theorem tyS : Try.prog.underlying 36 = some (.slice 74) := by kernel_rfl
theorem inS : ∃ i, Try.prog.info? 74 = some i ∧ i.size = 2 ∧ i.bytes = 16 ∧ i.zero = some (.agg #[.int .i64 0, .int .i64 0]) := by
  have h : (Try.prog.info? 74).map (fun i => (i.size, i.bytes, i.zero)) = some (2, 16, some (.agg #[.int .i64 0, .int .i64 0])) := by kernel_rfl
  cases hi : Try.prog.info? 74 with
  | none => rw [hi] at h; cases h
  | some i => rw [hi] at h; simp only [Option.map_some, Option.some.injEq, Prod.mk.injEq] at h; exact ⟨i, rfl, h⟩

def NormR (h : Heap) (l : List Stk) (v : Value) (h' : Heap) : Prop :=
  ∃ (a : Option Addr) (n c : Nat) (r : List Stk) (e : Int), v = .tuple #[.slice a n c, .int .i64 e] ∧ Sl h' a n c r ∧ Keep h h' ∧ NormP l e r

theorem app1 {B b : Nat} {h : Heap} {a : Option Addr} {n c : Nat} {r : List Stk} {x : Stk} {K : Value → Heap → Prop} (hown : OwnS B 74 2 h a n c (r.flatMap encS)) (hB : B ≤ h.size) (hn : n ≤ 1000000)
    (hx : h[b]? = some (.cells #[.int .i64 x.1, .int .i64 x.2] 74 (0, 0)))
    (hK : ∀ (a' : Option Addr) (c' : Nat) (h' : Heap), OwnS B 74 2 h' a' (n + 1) c' ((r ++ [x]).flatMap encS) → KB (ownB a) h h' → (∀ b o, a' = some ⟨b, o, none⟩ → b ∈ ownB a ∨ h.size ≤ b) → K (.slice a' (n + 1) c') h') :
    appK Try.prog #[36, 36] 36 (.slice a n c) (.slice (some ⟨b, 0, none⟩) 1 1) h K := by
  obtain ⟨i, hi, hsz, hby, hz⟩ := inS
  refine app_own (P := Try.prog) (T := 36) (E := 74) (b2 := b) (o2 := 0) (new := encS x) (m := 1) (K := K) tyS hi hz (by rw [hsz]; rfl) (by rw [hby]; decide) (by rw [hsz]; exact hown) hB (fun j v hv => ?_) (by rw [hsz]; rfl) (fun v hv => ?_) (by rw [hby]; omega) ?_
  · rw [hcell_of hx, Nat.zero_add]; simpa [encS] using hv
  · simp [encS] at hv; rcases hv with rfl | rfl <;> rfl
  · intro a' c' h' h1 h2 h3
    rw [hsz] at h1
    exact hK a' c' h' (by simpa using h1) h2 h3
theorem OwnS.ge {B : Nat} {e : TypeId} {sz : Nat} {h : Heap} {a : Option Addr} {n c : Nat} {cs : List Value} (s : OwnS B e sz h a n c cs) : ∀ b ∈ ownB a, B ≤ b := by
  rcases s with ⟨rfl, -⟩ | ⟨b, l, rfl, h1, -⟩
  · intro b hb; simp [ownB] at hb
  · intro b' hb; simp [ownB] at hb; omega

theorem refNorm_spec {h : Heap} {a : Option Addr} {n c : Nat} {l : List Stk} (s : Sl h a n c l) (hr : rng l) (hn : n ≤ 1000) : Run Try.prog 18 [.slice a n c] h (NormR h l) := by
  have hln : l.length = n := s.1
  refine V18 _ _ _ _ _ ?_
  unfold VC18
  refine ⟨fun x h1 => h1 = h ∧ ∃ i : Nat, x = i ∧ i ≤ n ∧ good (l.take i), fun x _ => n - x.toNat, ⟨rfl, 0, rfl, by omega, by intro s hs; simp at hs⟩, ?_⟩
  rintro - h1 x ⟨rfl, i, rfl, hi, hg⟩
  refine cIf (fun hx => ?_) (fun hx => ?_)
  · have hil : i < l.length := by omega
    refine s.el hil fun b o c0 c1 => ⟨by omega, by omega, _, c0, ?_⟩
    refine cIf (fun hb => ?_) (fun hb => ?_)
    · exact ⟨none, 0, 0, [], 1, rfl, .nil _ _ _ _ _, .refl _ _, (errN_bad fun hgl => by have := good_mem hgl hil; omega).symm, by simp, fun _ => rfl⟩
    refine s.el hil fun b o c0 c1 => ⟨by omega, by omega, _, c1, ?_⟩
    refine cIf (fun hb2 => ?_) (fun hb2 => ?_)
    · exact ⟨none, 0, 0, [], 1, rfl, .nil _ _ _ _ _, .refl _ _, (errN_bad fun hgl => by have := good_mem hgl hil; omega).symm, by simp, fun _ => rfl⟩
    rw [w64n (by omega)]
    refine ⟨⟨rfl, i + 1, rfl, by omega, ?_⟩, by simp only [Int.toNat_natCast]; omega⟩
    rw [take_snoc hil]
    exact good_append.2 ⟨hg, fun u hu => by simp at hu; subst hu; omega⟩
  have hin : i = l.length := by omega
  subst hin
  rw [List.take_length] at hg
  clear hx hi
  refine ⟨fun p m m' x h2 => ∃ r, Keep h1 h2 ∧ OwnS h1.size 74 2 h2 p m m' (r.flatMap encS) ∧ r.length = m ∧ RefN l r x, fun _ _ _ x _ => (l.filter (fun s => decide (x < s.1))).length, ⟨[], .refl _ _, .nil _ _ _ _, rfl, .start hg⟩, ?_⟩
  rintro - h2 p m m' x ⟨r, k2, own, hrm, inv⟩
  have hlen := inv.len
  refine ⟨fun y z h3 => h3 = h2 ∧ ∃ j : Nat, z = j ∧ j ≤ n ∧ LeastT (l.take j) x y, fun _ z _ => n - z.toNat, ⟨rfl, 0, rfl, by omega, .start x⟩, ?_⟩
  rintro - h3 y z ⟨rfl, j, rfl, hj, hy⟩
  have s2 := s.keep k2
  have hpos := inv.pos
  refine cIf (fun hx => ?_) (fun hx => ?_)
  · have hil : j < l.length := by omega
    refine Sl.el s2 hil fun b o c0 c1 => ⟨by omega, by omega, _, c0, ?_⟩
    have hnext : ∀ y', LeastT (l.take (j + 1)) x y' → (h3 = h3 ∧ ∃ j' : Nat, (((j + 1 : Nat) : Int)) = j' ∧ j' ≤ n ∧ LeastT (l.take j') x y') ∧ n - Int.toNat ((j + 1 : Nat) : Int) < n - Int.toNat (j : Int) :=
      fun y' hy' => ⟨⟨rfl, j + 1, rfl, by omega, hy'⟩, by simp only [Int.toNat_natCast]; omega⟩
    rw [take_snoc hil] at hnext
    rw [w64n (by omega)]
    refine cIf (fun hb => ?_) (fun hb => ?_)
    · refine cEq (fun h0 => ?_) (fun h0 => ?_)
      · subst h0
        refine Sl.el s2 hil fun b o c0 c1 => ⟨by omega, by omega, _, c0, ?_⟩
        exact hnext _ (hy.first hpos hb)
      · refine Sl.el s2 hil fun b o c0 c1 => ⟨by omega, by omega, _, c0, ?_⟩
        refine cIf (fun hb2 => ?_) (fun hb2 => ?_)
        · refine Sl.el s2 hil fun b o c0 c1 => ⟨by omega, by omega, _, c0, ?_⟩
          exact hnext _ (hy.less h0 hb hb2)
        · exact hnext _ (hy.more h0 (by omega))
    · exact hnext _ (hy.low (by omega))
  have hjn : j = l.length := by omega
  subst hjn
  rw [List.take_length] at hy
  refine cEq (fun h0 => ?_) (fun h0 => ?_)
  · subst h0
    obtain ⟨h1', h2'⟩ := inv.stop hy
    exact ⟨p, m, m', r, 0, rfl, own.slOf encS_len hrm, k2, (errN_ok hg h2').symm, fun _ => h1', fun h => absurd rfl h⟩
  clear hx hj
  refine ⟨fun t z h4 => h4 = h3 ∧ ∃ j : Nat, z = j ∧ j ≤ n ∧ t = tot (l.take j) y ∧ t ≤ MaxQ, fun _ z _ => n - z.toNat, ⟨rfl, 0, rfl, by omega, rfl, by decide⟩, ?_⟩
  rintro - h4 t z ⟨rfl, j, rfl, hj, rfl, ht⟩
  have ht0 := tot_nonneg (good_take hg j) y
  have hM : MaxQ = 1125899906842624 := rfl
  refine cIf (fun hx => ?_) (fun hx => ?_)
  · have hil : j < l.length := by omega
    have hgm := good_mem hg hil
    refine Sl.el s2 hil fun b o c0 c1 => ⟨by omega, by omega, _, c0, ?_⟩
    rw [w64n (by omega)]
    have hsn : tot (l.take (j + 1)) y = tot (l.take j) y + if l[j].1 = y then l[j].2 else 0 := by rw [take_snoc hil, tot_snoc]
    refine cEq (fun he => ?_) (fun he => ?_)
    · rw [if_pos he] at hsn
      refine Sl.el s2 hil fun b o c0 c1 => ⟨by omega, by omega, _, c1, ?_⟩
      rw [w64 (by omega) (by omega)]
      refine cIf (fun ho => ?_) (fun ho => ?_)
      · refine ⟨none, 0, 0, [], 5, rfl, .nil _ _ _ _ _, k2, (errN_over hg ⟨l[j], by simp, ?_⟩).symm, by simp, fun _ => rfl⟩
        have := tot_take_le hg (j + 1) y
        rw [he]; omega
      refine Sl.el s2 hil fun b o c0 c1 => ⟨by omega, by omega, _, c1, ?_⟩
      rw [w64 (by omega) (by omega)]
      exact ⟨⟨rfl, j + 1, rfl, by omega, hsn.symm, by omega⟩, by simp only [Int.toNat_natCast]; omega⟩
    · rw [if_neg he, Int.add_zero] at hsn
      exact ⟨⟨rfl, j + 1, rfl, by omega, hsn.symm, by omega⟩, by simp only [Int.toNat_natCast]; omega⟩
  have hjn : j = l.length := by omega
  subst hjn
  rw [List.take_length] at ht ht0 ⊢
  have hstep := inv.step hg h0 hy ht
  have hdec : (l.filter (fun s => decide (y < s.1))).length < (l.filter (fun s => decide (x < s.1))).length := by
    rcases hy with ⟨h, -⟩ | ⟨ha, hb, -⟩
    · exact absurd h h0
    · exact filter_lt ha hb
  refine cIf (fun hp => ?_) (fun hp => ?_)
  · rw [if_pos hp] at hstep
    refine newB_intro fun h5 hb5 k5 s5 => ?_
    refine app1 (x := (y, tot l y)) (r := r) (B := h1.size) (own.keep k5) (by have := k2.size; omega) (by omega) hb5 fun a' c' h6 own6 k6 hb6 => ?_
    refine ⟨_, _, _, rfl, ⟨_, ?_, own6, by simp [hrm], hstep⟩, hdec⟩
    have hge := own.ge
    exact ((KB.of_keep (k2.trans k5)).trans k6).keep hge
  · rw [if_neg hp] at hstep
    exact ⟨⟨r, k2, own, hrm, hstep⟩, hdec⟩
end Go.Proofs.Ytjcjlhpabjjflaa
