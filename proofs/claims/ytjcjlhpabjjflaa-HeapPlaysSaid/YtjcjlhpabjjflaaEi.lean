/- The engine, part i: slices.SortFunc on a row of structs, as a run over the heap. -/
import Derived.Test.YtjcjlhpabjjflaaEg
import Derived.Shelf.SlSortCmp.NoneTotal
set_option linter.unusedVariables false
namespace Go.Proofs.Ytjcjlhpabjjflaa
open Go Go.Sort Go.Shelf Go.Proofs

theorem grow_of {W w' : World} (k : Keep W.heap w'.heap) (s : Same W w') : ∃ q os', w' = grow (W.drewN q) os' := by
  refine ⟨w'.drawn - W.drawn, w'.heap.extract W.heap.size w'.heap.size, ?_⟩
  obtain ⟨hp, tp, dr, os, out⟩ := w'
  obtain ⟨h1, h2, h3, h4⟩ := s
  have k1 := k.size
  have k2 := k.blk
  simp only at h1 h2 h3 h4 k1 k2
  subst h1 h2 h3
  unfold grow World.drewN
  congr 1
  · refine Array.ext_getElem? fun i => ?_
    show hp[i]? = (W.heap ++ hp.extract W.heap.size hp.size)[i]?
    by_cases hi : i < W.heap.size
    · rw [Array.getElem?_append_left hi, k2 i hi (by simp)]
    · rw [Array.getElem?_append_right (by omega), Array.getElem?_extract]
      by_cases hj : i < hp.size
      · rw [if_pos (by omega), show W.heap.size + (i - W.heap.size) = i by omega]
      · rw [if_neg (by omega)]; simp; omega
  · show dr = W.drawn + (dr - W.drawn)
    omega

theorem enters_of_callable {P : Program} {f : FuncId} (hc : Callable P f) (args : Array Value) (w : World) : (callFunc f args).run P w = .ok (.enter f args) w := run_callFunc hc args w

variable {P : Program} {ρ : Ren} {α : Type} [Inhabited α]

theorem cmpLays_of {g : Nat} {enc : α → List Value} {k : Nat} {cf : α → α → Int} {blk off size : Nat} {w : World}
    (hrun : ∀ x y h, Run P g [.agg (enc x).toArray, .agg (enc y).toArray] h fun v h' => v = .int .i64 (cf x y) ∧ Keep h h') : CmpLays P g #[] enc k cf blk off size w := by
  intro m os dk _ x y
  refine ((hrun x y _).2 _ rfl).mono ?_
  rintro e w' ⟨v, rfl, ⟨rfl, hk⟩, hs⟩
  exact ⟨rfl, grow_of hk hs⟩

theorem holdsK_of {enc : α → List Value} {k : Nat} {w : World} {blk : Nat} {d : Array α} {l : Array Value} {E : TypeId} (hb : w.heap[blk]? = some (.cells l E (0, 0))) (hk : ∀ x, (enc x).length = k)
    (hl : ∀ i, i < d.size → ∀ j v, (enc d[i]!)[j]? = some v → l[i * k + j]? = some v) : HoldsK enc k w blk 0 d := by
  intro t ht
  have ht' : t < d.size * k := by simpa using ht
  have hk0 : 0 < k := by
    rcases Nat.eq_zero_or_pos k with h | h
    · subst h; simp at ht'
    · exact h
  have hdiv : t / k < d.size := (Nat.div_lt_iff_lt_mul hk0).2 ht'
  have hmod : t % k < k := Nat.mod_lt _ hk0
  rw [get_flatK enc k d t ht']
  refine ⟨?_, hfroz_of (h := w.heap) hb _⟩
  show hcell w.heap ⟨blk, 0 + t, none⟩ = _
  rw [hcell_of hb, Nat.zero_add]
  have := hl (t / k) hdiv (t % k) (enc d[t / k]!)[t % k]! (by rw [getElem!_pos (enc d[t / k]!) (t % k) (by rw [hk]; exact hmod)]; simp [hk, hmod])
  rw [Nat.mul_comm, Nat.div_add_mod] at this
  exact this

/-- SortFunc on an own row (a block's cells from its start), by a comparison that is a strict weak order on what lies there. -/
theorem sortRun (L : SlLaysF0.n6 P ρ) {f : FuncId} (hf : ρ.f 6 = f) (hc : Callable P f) (k : Nat) (aE : ∀ w, (isAgg (ρ.t 24)).run P w = .ok true w) (zE : ∀ w, (Go.sizeOf (ρ.t 24)).run P w = .ok k w) (enc : α → List Value) (hk : ∀ x, (enc x).length = k) (h1 : ∀ x, ∀ v ∈ enc x, single v = true)
    (cf : α → α → Int) (hO : SWO (ltOf cf)) (g : Nat) (hg : Callable P g) (hrun : ∀ x y h, Run P g [.agg (enc x).toArray, .agg (enc y).toArray] h fun v h' => v = .int .i64 (cf x y) ∧ Keep h h')
    {blk cap : Nat} {d : List α} {h : Heap} {l : Array Value} {E : TypeId} (hb : h[blk]? = some (.cells l E (0, 0)))
    (hl : ∀ (i : Nat) (x : α), d[i]? = some x → ∀ j v, (enc x)[j]? = some v → l[i * k + j]? = some v) (hsz : d.length < 4611686018427387904) (hcap : d.length ≤ cap) :
    Run P f [.slice (some ⟨blk, 0, none⟩) d.length cap, .func (.func g) #[] #[]] h fun v h' => v = .tuple #[] ∧ KB [blk] h h' ∧
      ∃ r : List α, r.Perm d ∧ r.Pairwise (fun x y => cf y x < 0 → False) ∧ SlOf enc k h' (some ⟨blk, 0, none⟩) d.length cap r ∧ ∃ l' : Array Value, h'[blk]? = some (.cells l' E (0, 0)) ∧ l'.size = l.size := by
  refine ⟨hc, fun w hw => ?_⟩
  subst hw
  have hH : HoldsK enc k w blk 0 d.toArray := holdsK_of hb hk fun i hi j v hv => by
    have hi' : i < d.length := by simpa using hi
    rw [getElem!_pos d.toArray i hi] at hv
    exact hl i d[i] (by simp [hi']) j v (by simpa using hv)
  have hblk := lt_of_get hb
  have hone : ∀ x, ∀ v ∈ enc x, v.oneCell' = true := fun x v hv => by
    have := h1 x v hv
    cases v <;> simp [single] at this <;> rfl
  have hmain := AnyQ.slices_SortFunc L k aE zE enc hk hone cf hO g #[] blk 0 cap d.toArray w (enters_of_callable hg) (cmpLays_of hrun) hH hblk (by simpa using hsz)
  rw [hf] at hmain
  simp only [List.size_toArray] at hmain
  refine hmain.mono ?_
  rintro e w' ⟨rfl, d', n, os, hp, hs, hw⟩
  obtain ⟨hp1, hp2, hp3⟩ := hp
  simp only [List.size_toArray] at hp1 hp2 hp3
  have hswk : SWK enc k w blk 0 d' w' := ⟨n, os, hw⟩
  have hh := hswk.holds hblk hH (by simpa using hp1)
  refine ⟨_, rfl, ⟨rfl, ⟨hswk.le, fun b hb1 hb2 => ?_⟩, d'.toList, ?_, ?_, ?_, putCells id 0 (flatK enc k d') l, ?_, by simp [putCells]⟩, ?_⟩
  · rw [hw]
    show ((putRow id _ blk 0 _).heap ++ os)[b]? = _
    rw [Array.getElem?_append_left (by rw [size_putRow]; exact hb1)]
    show ((Sort.ahead w n).heap.modify blk _)[b]? = _
    rw [Array.getElem?_modify, if_neg (by simp at hb2; omega)]
    rfl
  · have e1 : d'.extract 0 d.length = d' := by rw [← hp1]; simp
    have e2 : d.toArray.extract 0 d.length = d.toArray := by simp
    rw [e1, e2] at hp3
    simpa using hp3
  · rw [List.pairwise_iff_getElem]
    intro i j hi hj hij
    simp only [Array.length_toList] at hi hj
    have := hs i j (Nat.zero_le _) hij (by omega)
    rw [getElem!_pos d' j hj, getElem!_pos d' i hi] at this
    intro hlt
    simp only [Array.getElem_toList] at hlt
    unfold ltOf at this
    rw [decide_eq_true hlt] at this
    cases this
  · refine ⟨by simpa using hp1, hcap, fun i x hx => ⟨blk, 0, rfl, fun j v hv => ?_⟩⟩
    have hi : i < d'.size := by
      have := (List.getElem?_eq_some_iff.1 hx).1
      simpa using this
    have hx' : d'[i]! = x := by
      rw [getElem!_pos d' i hi]
      simpa [hi] using hx
    have hj : j < k := by have := (List.getElem?_eq_some_iff.1 hv).1; rwa [hk] at this
    have := (HoldsK.cell hh hi hj).1
    rw [hx', getElem!_pos (enc x) j (by rw [hk]; exact hj)] at this
    rw [List.getElem?_eq_getElem (by rw [hk]; exact hj)] at hv
    rw [Option.some.inj hv] at this
    exact this
  · rw [hw]
    show ((putRow id _ blk 0 _).heap ++ os)[blk]? = _
    rw [Array.getElem?_append_left (by rw [size_putRow]; exact hblk)]
    show ((Sort.ahead w n).heap.modify blk _)[blk]? = _
    rw [Array.getElem?_modify, if_pos rfl]
    show (w.heap[blk]?).map _ = _
    rw [hb]; rfl
  · rw [hw]
    exact ⟨rfl, rfl, rfl, Nat.le_add_right _ _⟩
theorem sortRun_none (L : SlLaysF0.n6 P ρ) {f : FuncId} (hf : ρ.f 6 = f) (hc : Callable P f) {p : Option Addr} {cap : Nat} {fv : Value} {h : Heap} : Run P f [.slice p 0 cap, fv] h fun v h' => v = .tuple #[] ∧ h' = h := by
  refine ⟨hc, fun w hw => ?_⟩
  have := AnyF.slices_SortFunc_none L p cap fv w
  rw [hf] at this
  refine this.mono ?_
  rintro e w' ⟨rfl, rfl⟩
  exact ⟨_, rfl, ⟨rfl, hw⟩, .refl _⟩
end Go.Proofs.Ytjcjlhpabjjflaa
