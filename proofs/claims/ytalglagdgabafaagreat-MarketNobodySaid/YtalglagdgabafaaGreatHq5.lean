/- A run, piece by piece: printed by program (ez2.py). -/
import Derived.Test.YtalglagdgabafaaGreatHq4
import Derived.Test.YtalglagdgabafaaGreatProg
import Derived.RecoverIn
/- The order of a web's nodes, in memory. -/
set_option linter.unusedVariables false
namespace Go.Proofs.YtalglagdgabafaaGreat
open Go Go.Proofs
attribute [local irreducible] appK copyK delK updK lookK makeK rangeK nextM entryM mapEntryK entryStK lenMapK clearK
variable {D D' : Fz} {C : List Chunk} {h h' : Heap} {x W : Chunk} {X Y : List Chunk}
section
variable {n : Int} {A B : Nat → Value} {fA fB : Nat → List Int} {O : Nat → Int} {w k : Nat}
theorem WS.swap {x y : Chunk} (s : WS D n A B fA fB O w (x :: y :: C) h) : WS D n A B fA fB O w (y :: x :: C) h := by
  obtain ⟨gA, gB, a, b, S⟩ := s
  refine ⟨gA, gB, a, b, S.perm ?_⟩
  simp only [List.flatten_cons, List.flatten_append]
  refine List.Perm.append_left _ (List.Perm.append_left _ (List.Perm.append_left _ ?_))
  exact List.perm_append_comm_assoc ..
theorem WS.swap2 {x y z : Chunk} (s : WS D n A B fA fB O w (x :: y :: z :: C) h) : WS D n A B fA fB O w (y :: z :: x :: C) h := by
  obtain ⟨gA, gB, a, b, S⟩ := s
  refine ⟨gA, gB, a, b, S.perm ?_⟩
  simp only [List.flatten_cons, List.flatten_append]
  refine List.Perm.append_left _ (List.Perm.append_left _ (List.Perm.append_left _ ?_))
  refine (List.perm_append_comm_assoc ..).trans (List.Perm.append_left _ ?_)
  exact List.perm_append_comm_assoc ..
theorem WS.app {m c : Nat} {y : Int} {T : TypeId} {a : Option Addr} {r : List Int} {ch : Chunk} {K : Value → Heap → Prop} (own : Own D 3 1 a c (r.map eI) ch) (s : WS D n A B fA fB O w ([(m, .cells ⟨[.int .i64 y]⟩ T (0, 0))] :: ch :: C) h) (hb : r.length ≤ 1000)
    (hK : ∀ a' c' ch' h', Own D 3 1 a' c' ((r ++ [y]).map eI) ch' → WS D n A B fA fB O w (ch' :: C) h' → K (.slice a' (r ++ [y]).length c') h') :
    appK Tryz.prog #[153, 153] 153 (.slice a r.length c) (.slice (some ⟨m, 0, none⟩) 1 1) h K := by
  obtain ⟨gA, gB, sa, sb, S⟩ := s
  have src : Src D h 1 (some ⟨m, 0, none⟩) ([y].map eI) := Src.one (T := T) (f := (0, 0)) (c := []) S (by simp) (rd_I.2 rfl) rfl
  exact app_e (r := r) (r2 := [y]) eyI own S.out.drop.out src rfl rfl (by simp; omega) fun a' c' ch' h' o' S' => hK a' c' ch' h' o' ⟨gA, gB, sa, sb, S'.inn⟩
theorem WS.sk {m i : Nat} {l : List Value} {v : Value} {T : TypeId} {K : Heap → Prop} (s : WS D n A B fA fB O w ([(m, .cells ⟨l⟩ T (0, 0))] :: C) h) (hl : Nat.ble (i + 1) l.length = true) (hv : single v = true)
    (hK : ∀ h', WS D n A B fA fB O w ([(m, .cells ⟨l.set i v⟩ T (0, 0))] :: C) h' → K h') : stK h ⟨m, i, none⟩ v K := by
  obtain ⟨gA, gB, a, b, S⟩ := s
  exact S.out.sk0 hl hv fun h' S => hK h' ⟨gA, gB, a, b, S.inn⟩
theorem WS.user {a : Option Addr} {m c i : Nat} {y : Int} {z : Int} {K : Nat → Nat → Prop} (s : WS D n A B fA fB O w C h) (hk : k < 65) (e : B k = .slice a m c) (hz : z = (i : Int)) (hi : (fB k)[i]? = some y) (hK : ∀ b o, hcell h ⟨b, o + z.toNat * 1, none⟩ = some (.int .i64 y) → K b o) : onPtr a K := by
  obtain ⟨gA, gB, sa, sb, S⟩ := s
  obtain ⟨a', c', e', own⟩ := sb k hk
  rw [e] at e'
  cases e'
  exact own_I own (St.take S.swapR hk) hz hi hK
theorem St.cellOf {b o : Nat} {l : List Value} {T : TypeId} {f : Nat × Nat} (S : St D C h) (hm : ([(b, Obj.cells ⟨l⟩ T f)] : Chunk) ∈ C) : hcell h ⟨b, o, Option.none⟩ = l[o]? := by
  have := S.own (b, .cells ⟨l⟩ T f) (List.mem_flatten.2 ⟨_, hm, by simp⟩)
  rw [hcell_of this]; simp
end
theorem keepI_mem {p : Int → Bool} {l : List Int} {x : Int} : x ∈ keepI p l ↔ x ∈ l ∧ p x = false := by simp [keepI]
theorem nx1_iff {L : List Stk} {n : Int} {out : List Int} {k : Int} : Nx1 L n out k ↔ 1 ≤ k ∧ k ≤ n ∧ k ∉ out ∧ cRg L out k = 0 := by rw [cR_zero]; rfl
theorem order_spec {L : List Stk} {n : Int} {A B : Nat → Value} {w : Nat} (g : gOK n L) (W : WS D n A B (needsOf L) (usersOf L) (fun k => ((needsOf L k).length : Int)) w C h) :
    Run Tryz.prog 189 [.pointer (some ⟨w, 0, none⟩)] h fun v h' => ∃ a c out ch O, v = .slice a (List.length out) c ∧ Greedy L n out ∧ (∀ k, ¬ Nx1 L n out k) ∧ Own D 3 1 a c (out.map eI) ch ∧ WS D n A B (needsOf L) (usersOf L) O w (ch :: C) h' := by
  obtain ⟨g0, g1, g2, g3⟩ := g
  have hp1 : ∀ p ∈ L, 1 ≤ p.1 ∧ p.1 ≤ n := fun p hp => inn_iff.1 (g3 p hp).1
  refine V189 _ _ _ ?_
  unfold VC189
  refine ⟨fun p m c x h1 => ∃ (r : List Int) (ch : Chunk), 1 ≤ x ∧ x ≤ n + 1 ∧ m = List.length r ∧ Own D 3 1 p c (r.map eI) ch ∧ WS D n A B (needsOf L) (usersOf L) (fun k => ((needsOf L k).length : Int)) w (ch :: C) h1 ∧ r.Nodup ∧ ∀ k, k ∈ r ↔ 1 ≤ k ∧ k < x ∧ cRg L [] k = 0,
    fun _ _ _ x _ => (n + 1 - x).toNat, ⟨[], [], by decide, by omega, rfl, .nil, by obtain ⟨gA, gB, a, b, S⟩ := W; exact ⟨gA, gB, a, b, S.nil.swap.perm (by simp)⟩, .nil, fun k => by simp; omega⟩, ?_⟩
  clear W
  rintro - h1 p m c x ⟨r, ch, hx1, hx2, rfl, own, W, hnd, hr⟩
  refine onPtr_s ⟨_, W.nn, ?_⟩
  refine cIf (fun hle => ?_) fun hgt => ?_
  · have hk : x.toNat < 65 := by omega
    have hrl : r.length ≤ 64 := by
      have := nodup_len hnd (fun y hy => by have := (hr y).1 hy; exact ⟨this.1, show y ≤ n by omega⟩) g0
      omega
    have ho := W.o hk
    have hcx : cRg L [] x = (needsOf L x.toNat).length := by
      have := cR_nil (L := L) x.toNat
      rwa [show ((x.toNat : Nat) : Int) = x by omega] at this
    have hstep : ∀ r' : List Int, (∀ k, k ∈ r' ↔ k ∈ r ∨ (k = x ∧ cRg L [] x = 0)) → ∀ k, k ∈ r' ↔ 1 ≤ k ∧ k < x + 1 ∧ cRg L [] k = 0 := by
      intro r' h k
      rw [h, hr]
      constructor
      · rintro (h | ⟨rfl, h⟩)
        · exact ⟨h.1, by omega, h.2.2⟩
        · exact ⟨hx1, by omega, h⟩
      · rintro ⟨h1, h2, h3⟩
        by_cases hkx : k = x
        · subst hkx; exact .inr ⟨rfl, h3⟩
        · exact .inl ⟨h1, by omega, h3⟩
    refine onPtr_s ⟨by omega, by omega, _, by rw [Nat.mul_one, Nat.zero_add]; exact ho, ?_⟩
    rw [w64 (by omega) (by omega)]
    refine cEq (fun h0 => W.new fun m7 h2 W => WS.app own W (by omega) fun a' c' ch' h3 own W => ⟨_, _, _, rfl, ⟨r ++ [x], ch', by omega, by omega, rfl, own, W, ?_, ?_⟩, by show (n + 1 - (x + 1)).toNat < (n + 1 - x).toNat; omega⟩) fun h0 => ⟨⟨r, ch, by omega, by omega, rfl, own, W, hnd, ?_⟩, by show (n + 1 - (x + 1)).toNat < (n + 1 - x).toNat; omega⟩
    · rw [List.nodup_append]
      refine ⟨hnd, by simp, fun a ha b hb e => ?_⟩
      simp at hb; subst hb; subst e
      have := (hr _).1 ha; omega
    · refine hstep _ fun k => ?_
      rw [List.mem_append, List.mem_singleton]
      constructor
      · rintro (h | rfl)
        · exact .inl h
        · exact .inr ⟨rfl, by omega⟩
      · rintro (h | ⟨rfl, -⟩)
        · exact .inl h
        · exact .inr rfl
    · refine hstep _ fun k => ⟨.inl, ?_⟩
      rintro (h | ⟨rfl, h⟩)
      · exact h
      · omega
  have hxn : x = n + 1 := by omega
  subst hxn
  refine ⟨fun p m c q m' c' h2 => ∃ (r out : List Int) (ch ch' : Chunk) (O : Nat → Int), m = List.length r ∧ m' = List.length out ∧ Own D 3 1 p c (r.map eI) ch ∧ Own D 3 1 q c' (out.map eI) ch' ∧ WS D n A B (needsOf L) (usersOf L) O w (ch :: ch' :: C) h2 ∧ r.Nodup ∧ Greedy L n out ∧
    (∀ k : Nat, 1 ≤ k → (k : Int) ≤ n → O k = (cRg L out k : Int)) ∧ ∀ k, k ∈ r ↔ Nx1 L n out k,
    fun _ _ _ _ m' _ _ => 64 - m', ⟨r, [], ch, [], fun k => ((needsOf L k).length : Int), rfl, rfl, own, .nil, by obtain ⟨gA, gB, a, b, S⟩ := W; exact ⟨gA, gB, a, b, S.perm (by simp)⟩, hnd, .nil, fun k _ _ => by rw [cR_nil], fun k => by rw [hr, nx1_iff]; simp; omega⟩, ?_⟩
  clear hgt hx1 hx2 hr hnd own W r ch
  rintro - h2 p m c q m' c' ⟨r, out, ch, ch', O, rfl, rfl, ownR, ownO, W, hnd, hG, hO, hr⟩
  refine cIf (fun hlt => ?_) fun hge => ?_
  rotate_left
  · have : r = [] := List.eq_nil_of_length_eq_zero (by omega)
    subst this
    exact ⟨_, _, out, ch', O, rfl, hG, fun k hk => by have := (hr k).2 hk; simp at this, ownO, W.drop⟩
  rcases r with _ | ⟨y, r⟩
  · simp at hlt
  have hmem : ∀ k ∈ y :: r, 1 ≤ k ∧ k ≤ n := fun k hk => by have := (hr k).1 hk; exact ⟨this.1, this.2.1⟩
  have hrl : (y :: r).length ≤ 64 := by have := nodup_len hnd hmem g0; omega
  have hol : out.length ≤ 64 := by have := nodup_len hG.nodup hG.mem g0; omega
  obtain ⟨gA, gB, sa, sb, S⟩ := W
  refine (min_spec ownR S.out (by simp at hrl; omega)).mono ?_
  rintro v h3 ⟨rfl, rfl⟩
  have W : WS D n A B (needsOf L) (usersOf L) O w (ch :: ch' :: C) _ := ⟨gA, gB, sa, sb, S⟩
  clear S sa sb gA gB
  have hx : minI y r ∈ y :: r := by rcases minI_mem r y with h | h <;> simp [h]
  have hle : ∀ j ∈ y :: r, minI y r ≤ j := by
    intro j hj
    rcases List.mem_cons.1 hj with rfl | hj
    · exact (minI_le r j).1
    · exact (minI_le r y).2 j hj
  generalize minI y r = x at *
  have hnx := (hr x).1 hx
  have hxb := hmem x hx
  refine ⟨_, rfl, W.new fun m1 h3 W => ?_⟩
  refine WS.sk (i := 0) W rfl rfl fun h4 W => ?_
  have W : WS D n A B (needsOf L) (usersOf L) O w ([(m1, .cells ⟨[.int .i64 x]⟩ 3 (0, 0))] :: ch :: ch' :: C) h4 := W
  have W := W.swap
  obtain ⟨gA, gB, sa, sb, S⟩ := W
  refine (deleteI_spec ownR S.out (by omega) (fun z => z == x) _ fun z hz ch h S => ?_).mono ?_
  · refine callV_1 (V200 _ _ _ _ (onPtr_s ⟨x, ?_, rfl, S⟩))
    exact (St.cellOf (T := 3) (f := (0, 0)) (l := [.int .i64 x]) S (by simp)).trans rfl
  rintro v h5 ⟨chR, rfl, ownR, S⟩
  have W : WS D n A B (needsOf L) (usersOf L) O w (chR :: [(m1, .cells ⟨[.int .i64 x]⟩ 3 (0, 0))] :: ch' :: C) h5 := ⟨gA, gB, sa, sb, S.inn⟩
  have W := W.swap2
  have rd : ∀ {h' : Heap} {X : List Chunk}, St D ([(m1, .cells ⟨[.int .i64 x]⟩ 3 (0, 0))] :: X) h' → hcell h' ⟨m1, 0, none⟩ = some (.int .i64 x) := fun S => S.ld0
  refine ⟨_, _, _, rfl, _, rd W.cc, W.swap.new fun m2 h6 W => ?_⟩
  refine WS.app ownO W (by omega) fun aO cO chO h7 ownO W => ⟨_, _, _, rfl, ?_⟩
  have W := W.swap
  have hxt : x.toNat < 65 := by omega
  have hxe : ((x.toNat : Nat) : Int) = x := by omega
  obtain ⟨-, aB, cB, eB⟩ := W.sl hxt
  have rb := W.b hxt
  rw [eB] at rb
  refine ⟨_, rd W.cc, onPtr_s ⟨by omega, by omega, _, _, _, by rw [Nat.mul_one, Nat.zero_add]; exact rb, ?_⟩⟩
  have hout : ∀ k ∈ out, ∀ p ∈ L, p.1 = k → p.2 ∈ out := hG.met
  have hG2 : Greedy L n (out ++ [x]) := .snoc hG hnx fun j hj => hle j ((hr j).2 hj)
  have hol2 : (out ++ [x]).length ≤ 64 := by have := nodup_len hG2.nodup hG2.mem g0; omega
  refine ⟨fun p m c z h => ∃ (t l r' : List Int) (chR : Chunk) (O' : Nat → Int), usersOf L x.toNat = t ++ l ∧ z = ((List.length t : Nat) : Int) ∧ m = List.length r' ∧ Own D 3 1 p c (r'.map eI) chR ∧ WS D n A B (needsOf L) (usersOf L) O' w (chR :: chO :: C) h ∧ r'.Nodup ∧
    (∀ k : Nat, 1 ≤ k → (k : Int) ≤ n → O' k = (cRg L out k : Int) - t.count (k : Int)) ∧ ∀ k, k ∈ r' ↔ 1 ≤ k ∧ k ≤ n ∧ k ∉ out ++ [x] ∧ O' k.toNat = 0,
    fun _ _ _ z _ => (usersOf L x.toNat).length - z.toNat, ⟨[], _, _, chR, O, rfl, rfl, rfl, ownR, W.drop.swap, ?_, fun k a b => by simpa using hO k a b, fun k => ?_⟩, ?_⟩
  · exact List.Pairwise.filter _ hnd
  · rw [keepI_mem, hr, nx1_iff]
    simp
    constructor
    · rintro ⟨⟨a, b, c, d⟩, e⟩
      have := hO k.toNat (by omega) (by omega)
      rw [show ((k.toNat : Nat) : Int) = k by omega] at this
      exact ⟨a, b, ⟨c, e⟩, by omega⟩
    · rintro ⟨a, b, ⟨c, e⟩, d⟩
      have := hO k.toNat (by omega) (by omega)
      rw [show ((k.toNat : Nat) : Int) = k by omega] at this
      exact ⟨⟨a, b, c, by omega⟩, e⟩
  clear rb W rd ownR
  rintro - h8 p m c z ⟨t, l, r', chR, O', hU, rfl, rfl, ownR, W, hnd', hO', hr'⟩
  have hUl := congrArg List.length hU
  rw [List.length_append] at hUl
  refine cIf (fun hlt => ?_) fun hge => ?_
  · rcases l with _ | ⟨u, l⟩
    · simp at hUl; omega
    have hum : u ∈ usersOf L x.toNat := by rw [hU]; simp
    obtain ⟨q, hq, rfl⟩ := List.mem_map.1 hum
    obtain ⟨hqL, hqx⟩ := List.mem_filter.1 hq
    have hqx : q.2 = x := by simpa [hxe] using hqx
    have hb := hp1 q hqL
    have hqt : q.1.toNat < 65 := by omega
    have hqe : ((q.1.toNat : Nat) : Int) = q.1 := by omega
    have hcnt : (usersOf L x.toNat).count q.1 = t.count q.1 + (l.count q.1 + 1) := by rw [hU, List.count_append, List.count_cons_self]
    have hc1 := cR_snoc (L := L) (k := q.1) hnx.2.2.1
    have hc2 := users_count (L := L) (k := q.1) (x := x.toNat)
    rw [hxe] at hc2
    have ho := hO' q.1.toNat (by omega) (by omega)
    rw [hqe] at ho
    have hpos : 1 ≤ O' q.1.toNat := by omega
    have hcl : cRg L out q.1 ≤ L.length := List.length_filter_le ..
    have hno : q.1 ∉ out ++ [x] := by
      intro hm
      have : cRg L out q.1 = 0 := by
        rcases List.mem_append.1 hm with hm | hm
        · exact cR_zero.2 (hout _ hm)
        · simp at hm; rw [hm]; exact (nx1_iff.1 hnx).2.2.2
      omega
    have hnr : q.1 ∉ r' := fun hm => by have := ((hr' _).1 hm).2.2.2; omega
    have hrl' : r'.length ≤ 64 := by have := nodup_len hnd' (fun k hk => ⟨((hr' k).1 hk).1, ((hr' k).1 hk).2.1⟩) g0; omega
    have hgu : (usersOf L x.toNat)[t.length]? = some q.1 := by rw [hU]; simp
    have rO := W.o hqt
    refine WS.user W hxt eB rfl hgu fun b o c0 => ⟨by omega, by omega, _, c0, onPtr_s ⟨by omega, by omega, _, by rw [Nat.mul_one, Nat.zero_add]; exact rO, onPtr_s ⟨by omega, by omega, ?_⟩⟩⟩
    rw [Nat.mul_one, Nat.zero_add, w64 (x := O' q.1.toNat - 1) (by omega) (by omega)]
    refine W.setO hqt fun h9 W => ?_
    have rO := W.o hqt
    rw [updF_self] at rO
    refine onPtr_s ⟨by omega, by omega, _, by rw [Nat.zero_add]; exact rO, ?_⟩
    have hul := usersOf_len L x.toNat
    rw [w64n (by omega)]
    have hOn : ∀ k : Nat, 1 ≤ k → (k : Int) ≤ n → updF O' q.1.toNat (O' q.1.toNat - 1) k = (cRg L out k : Int) - (t ++ [q.1]).count (k : Int) := by
      intro k a b
      have := hO' k a b
      unfold updF
      rw [List.count_append]
      by_cases hk : k = q.1.toNat
      · subst hk; rw [if_pos rfl, hqe, List.count_singleton_self]; omega
      · rw [if_neg hk, List.count_eq_zero_of_not_mem (a := (k : Int)) (l := [q.1]) (by simp; omega)]; omega
    have hme : (usersOf L x.toNat).length - Int.toNat ((t.length + 1 : Nat) : Int) < (usersOf L x.toNat).length - Int.toNat ((t.length : Nat) : Int) := by simp only [Int.toNat_natCast]; simp at hUl; omega
    have hrn : ∀ k, k ∉ r' ∨ k ∈ r' → (1 ≤ k ∧ k ≤ n ∧ k ∉ out ++ [x] ∧ updF O' q.1.toNat (O' q.1.toNat - 1) k.toNat = 0 ↔ k ∈ r' ∨ k = q.1 ∧ O' q.1.toNat - 1 = 0) := by
      intro k _
      rw [hr']
      unfold updF
      constructor
      · rintro ⟨a, b, c, d⟩
        by_cases hk : k = q.1
        · subst hk; rw [if_pos rfl] at d; exact .inr ⟨rfl, d⟩
        · rw [if_neg (by omega)] at d; exact .inl ⟨a, b, c, d⟩
      · rintro (⟨a, b, c, d⟩ | ⟨rfl, d⟩)
        · have : k ≠ q.1 := by rintro rfl; omega
          rw [if_neg (by omega)]; exact ⟨a, b, c, d⟩
        · rw [if_pos rfl]; exact ⟨hb.1, hb.2, hno, d⟩
    refine cEq (fun h0 => W.new fun m3 h10 W => WS.app ownR W (by omega) fun a' c' ch' h11 own W => ⟨_, _, _, rfl, ⟨t ++ [q.1], l, r' ++ [q.1], ch', _, by rw [hU]; simp, by simp, rfl, own, W, ?_, hOn, fun k => ?_⟩, hme⟩) fun h0 => ⟨⟨t ++ [q.1], l, r', chR, _, by rw [hU]; simp, by simp, rfl, ownR, W, hnd', hOn, fun k => ?_⟩, hme⟩
    · rw [List.nodup_append]
      refine ⟨hnd', by simp, fun a ha b hb e => ?_⟩
      simp at hb; subst hb; subst e
      exact hnr ha
    · rw [hrn k (Classical.em _).symm, List.mem_append, List.mem_singleton]
      constructor
      · rintro (h | rfl)
        · exact .inl h
        · exact .inr ⟨rfl, h0⟩
      · rintro (h | ⟨rfl, -⟩)
        · exact .inl h
        · exact .inr rfl
    · rw [hrn k (Classical.em _).symm]
      exact ⟨.inl, fun h => h.resolve_right fun e => h0 e.2⟩
  · have : l = [] := List.eq_nil_of_length_eq_zero (by omega)
    subst this
    rw [List.append_nil] at hU
    have hOe : ∀ k : Nat, 1 ≤ k → (k : Int) ≤ n → O' k = (cRg L (out ++ [x]) k : Int) := by
      intro k a b
      have h1 := hO' k a b
      have h2 := cR_snoc (L := L) (k := (k : Int)) hnx.2.2.1
      have h3 := users_count (L := L) (k := (k : Int)) (x := x.toNat)
      rw [hxe] at h3
      rw [hU] at h3
      omega
    refine ⟨⟨r', out ++ [x], chR, chO, O', rfl, rfl, ownR, ownO, W, hnd', hG2, hOe, fun k => ?_⟩, by simp at hol2 ⊢; omega⟩
    rw [hr', nx1_iff]
    constructor
    · rintro ⟨a, b, c, d⟩
      have := hOe k.toNat (by omega) (by omega)
      rw [show ((k.toNat : Nat) : Int) = k by omega] at this
      exact ⟨a, b, c, by omega⟩
    · rintro ⟨a, b, c, d⟩
      have := hOe k.toNat (by omega) (by omega)
      rw [show ((k.toNat : Nat) : Int) = k by omega] at this
      exact ⟨a, b, c, by omega⟩
end Go.Proofs.YtalglagdgabafaaGreat

/- Nodes in order: graph.ordered, told in the symbolic engine's words. -/
set_option linter.unusedVariables false
namespace Go.Proofs.YtalglagdgabafaaGreat
open Go Go.Proofs
attribute [local irreducible] appK copyK delK updK lookK makeK rangeK nextM entryM mapEntryK entryStK lenMapK clearK
variable {Q : V → Mem → Prop}
theorem PRun.fz {P : Program} {g : FuncId} {args : List V} {Q : V → Mem → Prop}
    (hh : ∀ (D : Fz) (C : List Chunk) (h : Heap) (vs : List Value), St D C h → RpL D [] vs args → Run P g vs h fun v h' => ∃ D', Le D D' ∧ St D' C h' ∧ ∃ x, Rp D' [] v x ∧ Q x []) : PRun P g [] args Q := by
  intro D ρ chs C h vs M F
  have h1 : ρ = [] := List.eq_nil_of_length_eq_zero M.len
  have h2 : chs = [] := List.eq_nil_of_length_eq_zero M.lch
  subst h1; subst h2
  refine (hh D C h vs (by simpa using M.st) F).mono ?_
  rintro v h' ⟨D', l, S, x, hx, hQ⟩
  exact ⟨D', [], [], x, [], l, ⟨rfl, rfl, fun i L ab ch h => (by simp at h), by simpa using S⟩, hx, hQ⟩
def tabU (N : Nat) (f : Nat → U) : List U := (List.range N).map f
theorem tabU_len (N : Nat) (f : Nat → U) : (tabU N f).length = N := by simp [tabU]
theorem tabU_get {N k : Nat} (f : Nat → U) (h : k < N) : (tabU N f)[k]? = some (f k) := by simp [tabU, h]
def webU (n : Int) (L : List Stk) (O : Nat → Int) : List U := .n n :: (tabU 65 (fun k => .l 1 ((needsOf L k).map eI)) ++ (tabU 65 (fun k => .n (O k)) ++ tabU 65 (fun k => .l 1 ((usersOf L k).map eI))))
theorem ug_get : ∀ (l : List U) (k : Nat), ug l k = l[k]?
  | [], k => by cases k <;> rfl
  | x :: l, 0 => rfl
  | x :: l, k + 1 => by simp only [ug, List.getElem?_cons_succ]; exact ug_get l k
theorem web_needs {n : Int} {L : List Stk} {O : Nat → Int} {k : Nat} (h : k < 65) : ug (webU n L O) (1 + k) = some (.l 1 ((needsOf L k).map eI)) := by
  rw [ug_get, webU, Nat.add_comm, List.getElem?_cons_succ, List.getElem?_append_left (by rw [tabU_len]; exact h), tabU_get _ h]
theorem rd_web {D : Fz} {n : Int} {A B : Nat → Value} {L : List Stk} {O : Nat → Int} {w : Nat} {T : TypeId} (hw : D w = some (.cells ⟨cellsW n A B O⟩ T (0, 0))) (ha : RdW D A (needsOf L)) (hb : RdW D B (usersOf L)) :
    Rd D (.pointer (some ⟨w, 0, none⟩)) (.p (some (webU n L O))) := by
  refine .pp w 0 _ T _ _ (fun j => ((cellsW n A B O)[j]?).getD undef) hw ?_ ?_
  · intro j u hu
    have hj : j < 196 := by have := (List.getElem?_eq_some_iff.1 hu).1; simpa [webU, tabU_len] using this
    have : j < (cellsW n A B O).length := by rw [W_len]; exact hj
    simp [this]
  · intro j u hu
    have hj : j < 196 := by have := (List.getElem?_eq_some_iff.1 hu).1; simpa [webU, tabU_len] using this
    rcases Nat.eq_zero_or_pos j with rfl | h0
    · simp [webU] at hu; subst hu
      exact .int _ _
    obtain ⟨j, rfl⟩ : ∃ i, j = i + 1 := ⟨j - 1, by omega⟩
    rw [webU, List.getElem?_cons_succ] at hu
    by_cases h1 : j < 65
    · rw [List.getElem?_append_left (by rw [tabU_len]; exact h1), tabU_get _ h1] at hu
      cases hu
      obtain ⟨a, c, e, r⟩ := ha j h1
      rw [Nat.add_comm, W_A h1, Option.getD_some, e]; exact r
    rw [List.getElem?_append_right (by rw [tabU_len]; omega), tabU_len] at hu
    by_cases h2 : j - 65 < 65
    · rw [List.getElem?_append_left (by rw [tabU_len]; exact h2), tabU_get _ h2] at hu
      cases hu
      rw [show j + 1 = 66 + (j - 65) by omega, W_O h2]
      exact .int _ _
    · have h3 : j - 65 - 65 < 65 := by omega
      rw [List.getElem?_append_right (by rw [tabU_len]; omega), tabU_len, tabU_get _ h3] at hu
      cases hu
      obtain ⟨a, c, e, r⟩ := hb _ h3
      rw [show j + 1 = 131 + (j - 65 - 65) by omega, W_B h3, Option.getD_some, e]; exact r
theorem ordered_S {n : Int} {L : List Stk} (k1 : ¬ gOK n L → Q (.t [.u (.p none), .l 1 [], .i 1]) [])
    (k2 : gOK n L → ∀ out : List Int, Greedy L n out → (∀ k, ¬ Nx1 L n out k) → (out.length : Int) < n → Q (.t [.u (.p none), .l 1 [], .i 9]) [])
    (k3 : gOK n L → ∀ (out : List Int) (O : Nat → Int), Greedy L n out → (∀ k, ¬ Nx1 L n out k) → ¬ (out.length : Int) < n → Q (.t [.u (.p (some (webU n L O))), .l 1 (out.map eI), .i 0]) []) :
    PRun Tryz.prog 170 [] [.i n, .l 2 (L.map eS)] Q := by
  refine .fz fun D C h vs S F => ?_
  obtain ⟨v, z, rfl, h1, h2⟩ := F.two
  rw [Rd.int_iff.1 h1.u_inv]
  have hx := h2.u_inv
  obtain ⟨a, c, rfl, -, -⟩ := hx.shape
  rw [List.length_map] at hx ⊢
  refine V170 _ _ _ _ _ _ ?_
  unfold VC170
  refine made_spec S hx (fun hg h' S => ⟨_, rfl, ⟨D, .refl _, S, _, .t (.cons (.u .pn) (.cons (.u (.nil _ _ _)) (.cons (.u (.int _ _)) .nil))), k1 hg⟩⟩) fun hg A B w h' W => ⟨_, rfl, ?_⟩
  rw [Option.isNone_some, cond_false]
  refine (order_spec hg W).mono ?_
  rintro v h2 ⟨aO, cO, out, ch, O, rfl, hG, hN, own, W⟩
  refine ⟨_, _, _, rfl, cIf (fun hlt => ⟨D, .refl _, W.cc.drop, _, .t (.cons (.u .pn) (.cons (.u (.nil _ _ _)) (.cons (.u (.int _ _)) .nil))), k2 hg out hG hN hlt⟩) fun hge => ?_⟩
  obtain ⟨gA, gB, sa, sb, S⟩ := W
  have S2 : St D ((webC n A B O w ++ ((row 65 gA).flatten ++ ((row 65 gB).flatten ++ ch))) :: C) h2 := S.perm (by simp)
  obtain ⟨D', l, hf, S3⟩ := S2.freeze
  have ra := sa.rd l fun p hp => hf p (by simp only [List.mem_append]; exact .inr (.inl hp))
  have rb := sb.rd l fun p hp => hf p (by simp only [List.mem_append]; exact .inr (.inr (.inl hp)))
  have ro := own.rd l fun p hp => hf p (by simp only [List.mem_append]; exact .inr (.inr (.inr hp)))
  rw [List.length_map] at ro
  exact ⟨D', l, S3, _, .t (.cons (.u (rd_web (hf (w, .cells ⟨cellsW n A B O⟩ 254 (0, 0)) (by simp)) ra rb)) (.cons (.u ro) (.cons (.u (.int _ _)) .nil))), k3 hg out O hG hN hge⟩
end Go.Proofs.YtalglagdgabafaaGreat

/- What the functions do, written by program (psv.py) and held against the program by the kernel. -/
set_option linter.unusedVariables false
set_option maxRecDepth 100000
namespace Go.Proofs.YtalglagdgabafaaGreat
open Go Go.Proofs
theorem mixT3 : Tryz.prog.follows .mixedOrders = true := by kernel_rfl
theorem S21 {c_0 : Int} {c_1 : List (List U)} {c_2 : Int} {c_3 : List (List U)} {c_4 : Int} {c_5 : Int} {c_6 : Int} {c_7 : Int} {Q : V → Mem → Prop} (hh : ∃ (I1 : Int → Prop) (f1 : Int → Nat), I1 0 ∧ (∀ x1 : Int, I1 x1 → (bif decide (x1 < (List.length c_1 : Int)) then (bif decide (x1 < 20) then elL c_1 x1 (fun r1 => dL 2 (ug r1 3) (fun l1 => (bif decide ((List.length l1 : Int) > 12) then Q (.u (.b false)) [] else I1 (IntKind.wrap .i64 (x1 + 1)) ∧ f1 (IntKind.wrap .i64 (x1 + 1)) < f1 x1))) else (bif decide ((List.length c_1 : Int) ≤ 20) then Q (.u (.b (decide ((List.length c_3 : Int) ≤ 12)))) [] else Q (.u (.b false)) [])) else (bif decide ((List.length c_1 : Int) ≤ 20) then Q (.u (.b (decide ((List.length c_3 : Int) ≤ 12)))) [] else Q (.u (.b false)) [])))) : PRun Tryz.prog 21 [] [.a [.i c_0, .l 7 c_1, .i c_2, .l 4 c_3, .i c_4, .i c_5, .i c_6, .i c_7]] Q :=
  funS2 mixT3 Tryz.func21 (by kernel_rfl) (H := ⟨[((21, 2, 1), ⟨[(3, .I)], []⟩)], [], [], [], [], false, 64, KN.no, false, SP.no⟩) (n := 2) (by kernel_rfl) hh
end Go.Proofs.YtalglagdgabafaaGreat

/- What the functions do, written by program (psv.py) and held against the program by the kernel. -/
set_option linter.unusedVariables false
set_option maxRecDepth 100000
namespace Go.Proofs.YtalglagdgabafaaGreat
open Go Go.Proofs
theorem mixT4 : Tryz.prog.follows .mixedOrders = true := by kernel_rfl
theorem S16 {l : List (List U)} {most : Int} {Q : V → Mem → Prop} (hh : ∃ (I1 : Int → Prop) (f1 : Int → Nat), I1 0 ∧ (∀ x1 : Int, I1 x1 → (bif decide (x1 < (List.length l : Int)) then (bif decide (x1 < most) then 0 ≤ x1 ∧ x1 < (List.length l : Int) ∧ (elL l x1 (fun r1 => dL 2 (ug r1 17) (fun l1 => (bif decide ((List.length l1 : Int) > 12) then Q (.u (.b false)) [.w 46 23 l] else 0 ≤ x1 ∧ x1 < (List.length l : Int) ∧ (elL l x1 (fun r2 => dL 2 (ug r2 18) (fun l2 => (bif decide ((List.length l2 : Int) > 12) then Q (.u (.b false)) [.w 46 23 l] else I1 (IntKind.wrap .i64 (x1 + 1)) ∧ f1 (IntKind.wrap .i64 (x1 + 1)) < f1 x1)))))))) else Q (.u (.b (decide ((List.length l : Int) ≤ most)))) [.w 46 23 l]) else Q (.u (.b (decide ((List.length l : Int) ≤ most)))) [.w 46 23 l]))) : PRun Tryz.prog 16 [.w 46 23 l] [.w 0, .i most] Q :=
  funS2 mixT4 Tryz.func16 (by kernel_rfl) (H := ⟨[((16, 2, 1), ⟨[(5, .I)], []⟩)], [], [], [], [], false, 64, KN.no, false, SP.no⟩) (n := 2) (by kernel_rfl) hh
end Go.Proofs.YtalglagdgabafaaGreat

/- A call of vault.whole, which defers, told by what it does. -/
set_option linter.unusedVariables false
namespace Go.Proofs.YtalglagdgabafaaGreat
open Go Go.Proofs
variable {P : Program} {D D' : Fz} {ρ ρ' : List Loc} {m m' : Mem} {chs C : List Chunk} {h h' : Heap} {ro hr : List Nat}
theorem wl_cons {ops : Array Oper} {Q : Exit → Act → World → Prop} {o : Oper} {rest : List Oper} {a : Act} {w : World} {r : Option Nat} {n : Nat} (hg : o.guard = none) (hh : o.wpIn (FW r) n P a w (wpListIn (FW r) n P ops Q rest) Q) : wpListIn (FW r) n P ops Q (o :: rest) a w := by
  unfold wpListIn
  rw [if_pos (by simp [Region.wanted, hg])]
  exact hh
theorem put_frame {a : Act} {l : List Value} {d : Option Tmp} {v : Value} (h : a.tmps.toList = l) : (a.put d v).tmps.toList = lput l d v := by rw [put_list, h]
theorem wl_nil {ops : Array Oper} {Q : Exit → Act → World → Prop} {a : Act} {w : World} {r : Option Nat} {n : Nat} (hh : Q .normal a w) : wpListIn (FW r) n P ops Q [] a w := hh
theorem SAt.cget (M : SAt D ρ m chs C h) {b : Nat} {o : Obj} (hm : [(b, o)] ∈ C) : h[b]? = some o :=
  M.st.own (b, o) (List.mem_flatten.2 ⟨_, List.mem_append.2 (.inr hm), List.mem_singleton_self _⟩)
theorem w_run {o : Oper} {a : Act} {w : World} {next : Act → World → Prop} {Q : Exit → Act → World → Prop} {r : Option Nat} {n : Nat} {v : Value} (hd : isDefer o = false) (h : (execOp (ev a.tmps.toList) o).run P w = .ok (.value v) w) (hn : next (a.put o.dst v) w) : o.wpIn (FW r) n P a w next Q :=
  op_in0 hd (by unfold Oper.wp; rw [eval_eq, h]; exact hn)
theorem w_eff {o : Oper} {a : Act} {w : World} {next : Act → World → Prop} {Q : Exit → Act → World → Prop} {r : Option Nat} {n : Nat} {K : Value → Heap → Prop} (hd : isDefer o = false) (h : effK P ⟨[], [], []⟩ a.tmps.toList o w.heap K) (hn : ∀ v w', K v w'.heap → Same w w' → next (a.put o.dst v) w') : o.wpIn (FW r) n P a w next Q :=
  op_in0 hd (gen_soundR (SWp.r (eff_sound h)) (eval_eq a) rfl hn)
theorem w_load {T : TypeId} {z : Value} (hl : layOf P T = some (.one z)) {t : List Value} {x : Operand} {b : Nat} {v : Value} {E : TypeId} {w : World} {dst : Option Tmp} {ty : TypeId} {pos : String} {after : Array Edge} {guard : Option (Nat × Bool)} (hx : ev t x = .pointer (some ⟨b, 0, none⟩)) (hb : w.heap[b]? = some (.cells #[v] E (0, 0))) :
    (execOp (ev t) ⟨dst, .load T x, ty, pos, after, guard⟩).run P w = .ok (.value v) w := by
  have := run_ld1 (P := P) hl (b := b) (o := 0) (v := v) (w := w) (by rw [hcell_of hb]; rfl)
  simp [execOp, Instr.loadAt, Instr.sureAddr, hx, this]
theorem w_store {T : TypeId} {z : Value} (hl : layOf P T = some (.one z)) {a : Act} {w : World} {x y : Operand} {b : Nat} {u v : Value} {E : TypeId} {dst : Option Tmp} {ty : TypeId} {pos : String} {after : Array Edge} {guard : Option (Nat × Bool)} {C1 C2 : List Chunk} (hx : ev a.tmps.toList x = .pointer (some ⟨b, 0, none⟩)) (hy : ev a.tmps.toList y = v) (hs : single v = true)
    (M : SAt D ρ m chs (C1 ++ [(b, .cells #[u] E (0, 0))] :: C2) w.heap) {next : Act → World → Prop} {Q : Exit → Act → World → Prop} {r : Option Nat} {n : Nat} (hn : ∀ w', SAt D ρ m chs (C1 ++ [(b, .cells #[v] E (0, 0))] :: C2) w'.heap → Same w w' → next (a.put dst undef) w') :
    (⟨dst, .store T x y, ty, pos, after, guard⟩ : Oper).wpIn (FW r) n P a w next Q := by
  refine w_eff (K := fun v' h' => v' = undef ∧ SAt D ρ m chs (C1 ++ [(b, .cells #[v] E (0, 0))] :: C2) h') rfl ?_ ?_
  · simp only [effK, hx, hy, storeK, hl]
    have hq : ∀ v : Value, (([(b, Obj.cells #[v] E (0, 0))] :: (chs ++ (C1 ++ C2))).flatten).Perm (chs ++ (C1 ++ [(b, .cells #[v] E (0, 0))] :: C2)).flatten := fun v => by
      simp only [List.flatten_append, List.flatten_cons, List.append_assoc]
      exact (List.perm_append_comm_assoc _ _ _).trans ((List.perm_append_comm_assoc _ _ _).append_left _)
    have S := M.st.perm (hq u).symm
    have S' : St D ([(b, .cells ⟨[u]⟩ E (0, 0))] :: (chs ++ (C1 ++ C2))) w.heap := S
    exact onPtr_s (S'.sk0 (v := v) (o := 0) rfl hs fun h' S2 => ⟨trivial, M.mono (.refl D) (St.perm S2 (hq v))⟩)
  · rintro v' w' ⟨rfl, M'⟩ s
    exact hn w' M' s
theorem w_call {g : FuncId} {a : Act} {w : World} {x : Operand} {args : Array Operand} {tys : Array TypeId} {f c : Array Value} {vs : List Value} {dst : Option Tmp} {ty : TypeId} {pos : String} {after : Array Edge} {guard : Option (Nat × Bool)} {K : Value → Heap → Prop} {next : Act → World → Prop} {Q : Exit → Act → World → Prop} {r : Option Nat} {n : Nat}
    (hx : ev a.tmps.toList x = .func (.func g) f c) (hv : (f ++ args.map (ev a.tmps.toList) ++ c).toList = vs) (hrun : Run P g vs w.heap K) (hn : ∀ v w', K v w'.heap → Same w w' → next (a.put dst v) w') : (⟨dst, .call ⟨.value x, args, tys⟩, ty, pos, after, guard⟩ : Oper).wpIn (FW r) n P a w next Q := by
  subst hv
  refine op_in0 rfl (gen_soundR (K := K) (SWp.r ?_) (eval_eq a) rfl hn)
  simp only [execOp, resolve, hx, Deferred.ofValue]
  exact call_gen hrun.1 hrun
theorem w_defer {a : Act} {w : World} {x : Operand} {f : Fn} {p c : Array Value} {tys : Array TypeId} {d : Deferred} {dst : Option Tmp} {ty : TypeId} {pos : String} {after : Array Edge} {guard : Option (Nat × Bool)} {next : Act → World → Prop} {Q : Exit → Act → World → Prop} {n : Nat}
    (hx : ev a.tmps.toList x = .func f p c) (hd : ({ target := .fn f c, args := p } : Deferred) = d) (hn : next (({ a with defers := d :: a.defers } : Act).put dst undef) w) : (⟨dst, .defer ⟨.value x, #[], tys⟩, ty, pos, after, guard⟩ : Oper).wpIn (FW none) n P a w next Q := by
  refine ⟨fun _ _ => trivial, ?_⟩
  rw [show (FW none).round = none from rfl, Oper.semAt_none, eval_eq]
  simp only [execOp, resolve, hx, Deferred.ofValue]
  subst hd
  simp [Sem.run_bind]
  exact hn
def okE (e : V) (A : Prop) : Prop :=
  match e with
  | .u (.i .i64 (.ofNat 0)) => A
  | _ => False
def wholeF (ro : List Nat) (call : CallH) (G : FuncId) (args : List V) (m : Mem) (K : V → Mem → Prop) : Option Prop :=
  cond (Nat.beq G 95) (match args with
    | [.r b o, .f g a c] => some (call 109 [.r b o] m fun x m1 => cond (isPtr x) (call g (a ++ c) m1 (gcQ (some m.length) fun e m2 => okE e (K e m2))) False)
    | _ => some False) none
theorem okE_S {e : V} {A : Prop} (h : okE e A) : e = .u (.i .i64 0) ∧ A := by
  unfold okE at h
  split at h
  · exact ⟨rfl, h⟩
  · exact h.elim
structure WhP (P : Program) : Prop where
  fw : P.funcs[95]? = some Tryz.f95
  fc : P.funcs[142]? = some Tryz.f142
  nw : ((Tryz.f95).name == "runtime.NumGoroutine") = false
  nc : ((Tryz.f142).name == "runtime.NumGoroutine") = false
  tp : layOf P 24 = some (.one (.pointer none))
  te : layOf P 35 = some (.one (.int .i64 0))
  ze : (P.info? 35).bind (·.zero) = some (.int .i64 0)
  zp : (P.info? 24).bind (·.zero) = some (.pointer none)
  un : P.underlying 24 = some (.pointer 78)
theorem whp : WhP Tryz.prog := ⟨Tryz.func95, Tryz.func142, by kernel_rfl, by kernel_rfl, by kernel_rfl, by kernel_rfl, by kernel_rfl, by kernel_rfl, by kernel_rfl⟩
theorem whole_S (hP : WhP P) {X : Fz → List Loc → Prop} {call : CallH} (hX : Stab X) (hcall : CallOk P X ro hr call) {b o : Nat} {g : FuncId} {a c : List V} {KS : V → Mem → Prop} {vs : List Value}
    (M0 : m.length = ρ.length) (hs : call 109 [.r b o] m fun x m1 => cond (isPtr x) (call g (a ++ c) m1 (gcQ (some m.length) fun e m2 => okE e (KS e m2))) False) (xx : X D ρ) (M : SAt D ρ m chs C h) (ha : RpL D ρ vs [.r b o, .f g a c]) : Run P 95 vs h (PostE ro hr D ρ m chs C KS) := by
  cases ha with
  | cons h1 ha2 =>
  cases ha2 with
  | cons h2 ha3 =>
  cases ha3
  obtain ⟨L, hL, rfl⟩ := h1.r_inv
  obtain ⟨xs, ys, rfl, hxs, hys⟩ := h2.f_inv
  refine ⟨⟨Tryz.f95, hP.fw, hP.nw, rfl⟩, fun w hw => ?_⟩
  subst hw
  refine (callsIn_wide (n := 0)).1 (callsIn_of_wp_marks (F := FW none) hP.fw rfl trivial ?_)
  generalize hB : Value.pointer (some ⟨L.b, o, none⟩) = vB at *
  generalize hF : Value.func (.func g) xs.toArray ys.toArray = vF at *
  -- the frame
  have e0 : ((#[vB, vF] : Array Value) ++ Array.replicate ((Tryz.f95).ntmps - #[vB, vF].size) undef).toList = [vB, vF, undef, undef, undef, undef, undef, undef, undef, undef, undef, undef, undef] := rfl
  generalize h0 : ({ tmps := [vB, vF].toArray ++ Array.replicate ((Tryz.f95).ntmps - [vB, vF].toArray.size) undef, defers := [] } : Act) = a0
  have f0 : a0.tmps.toList = [vB, vF, undef, undef, undef, undef, undef, undef, undef, undef, undef, undef, undef] := by rw [← h0]; exact e0
  have d0 : a0.defers = [] := by rw [← h0]
  clear h0 e0
  have cB : vB.cells = #[vB] := by rw [← hB]; rfl
  -- region 0
  refine wpIn_seq (wpIn_region_list ?_)
  refine wl_cons rfl ?_
  refine w_eff (K := fun v h' => ∃ b2, v = .pointer (some ⟨b2, 0, none⟩) ∧ SAt D ρ m chs ([(b2, .cells #[vB] 24 (0, 0))] :: C) h') rfl ?_ ?_
  · simp only [effK, f0]
    exact ⟨_, rfl, by rw [show (ev [vB, vF, undef, undef, undef, undef, undef, undef, undef, undef, undef, undef, undef] (.tmp 0)).cells = #[vB] from cB]; exact M.cpush _⟩
  rintro _ w1 ⟨b2, rfl, M1⟩ s1
  have f1 := put_frame (d := some 2) (v := (.pointer (some ⟨b2, 0, none⟩))) f0
  have d1 : (a0.put (some 2) (.pointer (some ⟨b2, 0, none⟩))).defers = [] := by rw [put_defers', d0]
  generalize a0.put (some 2) (.pointer (some ⟨b2, 0, none⟩)) = a1 at f1 d1 ⊢
  refine wl_cons rfl ?_
  refine w_eff (K := fun v h' => ∃ b4, v = .pointer (some ⟨b4, 0, none⟩) ∧ SAt D ρ m chs ([(b4, .cells #[.int .i64 0] 35 (0, 0))] :: [(b2, .cells #[vB] 24 (0, 0))] :: C) h') rfl ?_ ?_
  · simp only [effK]
    rw [hP.ze]
    exact ⟨_, rfl, M1.cpush _⟩
  rintro _ w2 ⟨b4, rfl, M2⟩ s2
  have f2 := put_frame (d := some 4) (v := (.pointer (some ⟨b4, 0, none⟩))) f1
  have d2 : (a1.put (some 4) (.pointer (some ⟨b4, 0, none⟩))).defers = [] := by rw [put_defers', d1]
  generalize a1.put (some 4) (.pointer (some ⟨b4, 0, none⟩)) = a2 at f2 d2 ⊢
  refine wl_nil ?_
  -- region 1, the test
  refine wpIn_seq (wpIn_seq (wpIn_region_list (wl_cons rfl ?_)))
  refine w_run rfl (w_load hP.tp (b := b2) (v := vB) (E := 24) (by rw [f2]; rfl) (M2.cget (by simp))) ?_
  have f3 := put_frame (d := some 6) (v := vB) f2
  have d3 : (a2.put (some 6) vB).defers = [] := by rw [put_defers', d2]
  generalize a2.put (some 6) vB = a3 at f3 d3 ⊢
  refine wl_cons rfl ?_
  obtain ⟨vc, hvc, hrc⟩ := bin_run (P := P) (op := .eql) (T := 24) (x := .tmp 6) (y := .const (.pointer none)) (a := vB) (b := .pointer none) (K := fun v => v = .bool false) (by rw [← hB]; simp only [binK, hP.un]; rfl)
  subst hvc
  refine w_run (v := .bool false) rfl ?_ ?_
  · have e1 : ev a3.tmps.toList (.tmp 6) = vB := by rw [f3]; rfl
    have e2 : ev a3.tmps.toList (.const (.pointer none)) = .pointer none := rfl
    simp only [execOp, e1, e2]
    rw [Sem.run_bind, hrc]
    rfl
  have f4 := put_frame (d := some 7) (v := (.bool false)) f3
  have d4 : (a3.put (some 7) (.bool false)).defers = [] := by rw [put_defers', d3]
  generalize a3.put (some 7) (.bool false) = a4 at f4 d4 ⊢
  refine wl_nil ?_
  refine wpIn_cond_false (by rw [eval_eq, f4]; rfl) (wpIn_skip ?_)
  -- region 3: the clone
  refine wpIn_seq (wpIn_region_list (wl_cons rfl ?_))
  refine w_run rfl (w_load hP.tp (b := b2) (v := vB) (E := 24) (by rw [f4]; rfl) (M2.cget (by simp))) ?_
  have f5 := put_frame (d := some 8) (v := vB) f4
  have d5 : (a4.put (some 8) vB).defers = [] := by rw [put_defers', d4]
  generalize a4.put (some 8) vB = a5 at f5 d5 ⊢
  refine wl_cons rfl ?_
  have hrun1 := hcall (vs := [vB]) xx hs M2 (by rw [← hB]; exact .cons (.r hL) .nil)
  refine w_call (g := 109) (f := #[]) (c := #[]) (vs := [vB]) rfl (by rw [f5]; simp; rfl) hrun1 ?_
  rintro v9 w3 ⟨D1, ρ1, m1, c1, x1, n1, M3, hx1, hk1⟩ s3
  obtain ⟨hp1, hk1⟩ := cond_spec hk1
  obtain ⟨p9, rfl⟩ := hx1.ptr hp1
  have f6 := put_frame (d := some 9) (v := .pointer (some p9)) f5
  have d6 : (a5.put (some 9) (.pointer (some p9))).defers = [] := by rw [put_defers', d5]
  generalize a5.put (some 9) (.pointer (some p9)) = a6 at f6 d6 ⊢
  refine wl_cons rfl ?_
  refine w_eff (K := fun v h' => ∃ b5, v = .pointer (some ⟨b5, 0, none⟩) ∧ SAt D1 ρ1 m1 c1 ([(b5, .cells #[.pointer none] 24 (0, 0))] :: [(b4, .cells #[.int .i64 0] 35 (0, 0))] :: [(b2, .cells #[vB] 24 (0, 0))] :: C) h') rfl ?_ ?_
  · simp only [effK]
    rw [hP.zp]
    exact ⟨_, rfl, M3.cpush _⟩
  rintro _ w4 ⟨b5, rfl, M4⟩ s4
  have f7 := put_frame (d := some 5) (v := .pointer (some ⟨b5, 0, none⟩)) f6
  have d7 : (a6.put (some 5) (.pointer (some ⟨b5, 0, none⟩))).defers = [] := by rw [put_defers', d6]
  generalize a6.put (some 5) (.pointer (some ⟨b5, 0, none⟩)) = a7 at f7 d7 ⊢
  refine wl_cons rfl ?_
  refine w_store hP.tp (C1 := []) (b := b5) (u := .pointer none) (v := .pointer (some p9)) (by rw [f7]; rfl) (by rw [f7]; rfl) rfl M4 ?_
  intro w5 M5 s5
  have f8 := put_frame (d := none) (v := undef) f7
  have d8 : (a7.put none undef).defers = [] := by rw [put_defers', d7]
  generalize a7.put none undef = a8 at f8 d8 ⊢
  refine wl_nil ?_
  -- region 4: what is deferred
  refine wpIn_seq (wpIn_region_list (wl_cons rfl ?_))
  refine w_run (v := .func (.func 142) #[] #[.pointer (some ⟨b4, 0, none⟩), .pointer (some ⟨b5, 0, none⟩), .pointer (some ⟨b2, 0, none⟩)]) rfl ?_ ?_
  · simp only [execOp, Instr.makeFunc, f8, List.map_toArray, List.map_cons, List.map_nil]; rfl
  have f9 := put_frame (d := some 10) (v := .func (.func 142) #[] #[.pointer (some ⟨b4, 0, none⟩), .pointer (some ⟨b5, 0, none⟩), .pointer (some ⟨b2, 0, none⟩)]) f8
  have d9 : (a8.put (some 10) (.func (.func 142) #[] #[.pointer (some ⟨b4, 0, none⟩), .pointer (some ⟨b5, 0, none⟩), .pointer (some ⟨b2, 0, none⟩)])).defers = [] := by rw [put_defers', d8]
  generalize a8.put (some 10) (.func (.func 142) #[] #[.pointer (some ⟨b4, 0, none⟩), .pointer (some ⟨b5, 0, none⟩), .pointer (some ⟨b2, 0, none⟩)]) = a9 at f9 d9 ⊢
  refine wl_cons rfl ?_
  generalize hd : ({ target := .fn (.func 142) #[.pointer (some ⟨b4, 0, none⟩), .pointer (some ⟨b5, 0, none⟩), .pointer (some ⟨b2, 0, none⟩)], args := #[] } : Deferred) = dd
  refine w_defer (f := .func 142) (p := #[]) (c := #[.pointer (some ⟨b4, 0, none⟩), .pointer (some ⟨b5, 0, none⟩), .pointer (some ⟨b2, 0, none⟩)]) (d := dd) (by rw [f9]; rfl) hd ?_
  have f10 := put_frame (a := { a9 with defers := dd :: a9.defers }) (d := none) (v := undef) f9
  have d10 : (({ a9 with defers := dd :: a9.defers } : Act).put none undef).defers = [dd] := by rw [put_defers', d9]
  generalize ({ a9 with defers := dd :: a9.defers } : Act).put none undef = a10 at f10 d10 ⊢
  refine wl_nil ?_
  -- region 5: the call
  refine wpIn_seq (wpIn_region_list (wl_cons rfl ?_))
  refine w_run (v := vF) rfl ?_ ?_
  · simp only [execOp, f10]; rfl
  have f11 := put_frame (d := some 11) (v := vF) f10
  have d11 : (a10.put (some 11) vF).defers = [dd] := by rw [put_defers', d10]
  generalize a10.put (some 11) vF = a11 at f11 d11 ⊢
  refine wl_cons rfl ?_
  have hrun2 := hcall (hX.nx n1 xx) hk1 M5 (n1.rpL (hxs.app hys))
  refine w_call (g := g) (f := xs.toArray) (c := ys.toArray) (vs := xs ++ ys) (by rw [f11, ← hF]; rfl) (by simp) hrun2 ?_
  rintro v12 w6 ⟨D2, ρ2, m2, c2, x2, n2, M6, hx2, hk2⟩ s6
  obtain ⟨ρ3, m3, c3, t3, n3, M7, F7, hk3⟩ := canon_S M (K := fun t m2 => okE (vget t 0) (KS (vget t 0) m2) ∨ okE (wkV (vget t 0)) (KS (wkV (vget t 0)) m2)) hk2 (n1.trans n2) M6 (.cons hx2 .nil)
  have hk4 : vget t3 0 = .u (.i .i64 0) ∧ KS (.u (.i .i64 0)) m3 := by
    rcases hk3 with hk3 | hk3
    · obtain ⟨e, k⟩ := okE_S hk3; rw [e] at k; exact ⟨e, k⟩
    · obtain ⟨e, k⟩ := okE_S hk3
      rw [e] at k
      refine ⟨?_, k⟩
      revert e
      cases vget t3 0 <;> intro e <;> first | exact e | cases e
  have e12 : v12 = .int .i64 0 := by
    have hv : Rp D2 ρ3 v12 (vget t3 0) := by cases F7 with | cons h1 _ => exact h1
    rw [hk4.1] at hv
    cases hv with
    | u hr => cases hr; rfl
  subst e12
  have f12 := put_frame (d := some 12) (v := .int .i64 0) f11
  have d12 : (a11.put (some 12) (.int .i64 0)).defers = [dd] := by rw [put_defers', d11]
  generalize a11.put (some 12) (.int .i64 0) = a12 at f12 d12 ⊢
  refine wl_cons rfl ?_
  refine w_store hP.te (C1 := [_]) (b := b4) (u := .int .i64 0) (v := .int .i64 0) (by rw [f12]; rfl) (by rw [f12]; rfl) rfl M7 ?_
  intro w7 M8 s7
  have f13 := put_frame (d := none) (v := undef) f12
  have d13 : (a12.put none undef).defers = [dd] := by rw [put_defers', d12]
  generalize a12.put none undef = a13 at f13 d13 ⊢
  refine wl_nil (wpIn_ret ?_)
  -- the door
  show LeavesInM _ _ P _ a13.tmps _ a13.defers .returning w7
  rw [d13, ← hd]
  have ss := s1.trans (s2.trans (s3.trans (s4.trans (s5.trans (s6.trans s7)))))
  refine ⟨by simp, .inr ⟨(by intro h; cases h), _, _, _, _, rfl, run_callFunc ⟨_, hP.fc, hP.nc, rfl⟩ _ _, fun _ _ => trivial, (callsDIn_of_wp (R := fun e w' => e = .returned (.tuple #[]) ∧ w' = w7) hP.fc rfl trivial ?_).mono ?_⟩⟩
  · generalize h0 : ({ tmps := #[] ++ #[Value.pointer (some ⟨b4, 0, none⟩), .pointer (some ⟨b5, 0, none⟩), .pointer (some ⟨b2, 0, none⟩)] ++ Array.replicate ((Tryz.f142).ntmps - (#[] ++ #[Value.pointer (some ⟨b4, 0, none⟩), .pointer (some ⟨b5, 0, none⟩), .pointer (some ⟨b2, 0, none⟩)]).size) undef, defers := [] } : Act) = q0
    have g0 : q0.tmps.toList = [Value.pointer (some ⟨b4, 0, none⟩), .pointer (some ⟨b5, 0, none⟩), .pointer (some ⟨b2, 0, none⟩), undef, undef, undef, undef, undef, undef, undef] := by rw [← h0]; rfl
    have k0 : q0.defers = [] := by rw [← h0]
    clear h0
    refine wpIn_seq (wpIn_region_list (wl_cons rfl ?_))
    refine w_run rfl (w_load hP.te (b := b4) (v := .int .i64 0) (E := 35) (by rw [g0]; rfl) (M8.cget (by simp))) ?_
    have g1 := put_frame (d := some 3) (v := .int .i64 0) g0
    have k1 : (q0.put (some 3) (.int .i64 0)).defers = [] := by rw [put_defers', k0]
    generalize q0.put (some 3) (.int .i64 0) = q1 at g1 k1 ⊢
    refine wl_cons rfl ?_
    obtain ⟨vd, hvd, hrd⟩ := bin_run (P := P) (op := .neq) (T := 35) (x := .tmp 3) (y := .const (.int .i64 0)) (a := .int .i64 0) (b := .int .i64 0) (K := fun v => v = .bool false) rfl
    subst hvd
    refine w_run (v := .bool false) rfl ?_ ?_
    · have e1 : ev q1.tmps.toList (.tmp 3) = .int .i64 0 := by rw [g1]; rfl
      have e2 : ev q1.tmps.toList (.const (.int .i64 0)) = .int .i64 0 := rfl
      simp only [execOp, e1, e2]
      rw [Sem.run_bind, hrd]
      rfl
    have g2 := put_frame (d := some 4) (v := .bool false) g1
    have k2 : (q1.put (some 4) (.bool false)).defers = [] := by rw [put_defers', k1]
    generalize q1.put (some 4) (.bool false) = q2 at g2 k2 ⊢
    refine wl_nil ?_
    refine wpIn_cond_false (by rw [eval_eq, g2]; rfl) (wpIn_skip ?_)
    exact ⟨k2, .tuple #[], by simp [results], rfl, rfl⟩
  · rintro e u' w' ⟨rfl, rfl, rfl⟩
    have hb4 := M8.cget (b := b4) (o := .cells #[.int .i64 0] 35 (0, 0)) (by simp)
    obtain ⟨v, hv, hr⟩ := results_run (P := P) (fn := Tryz.f95) (tmps := a13.tmps) rfl (h := w'.heap) (R := fun v _ => v = .int .i64 0) (by
      rw [f13]
      show loadK P 35 (some ⟨b4, 0, none⟩) w'.heap _
      unfold loadK
      rw [hP.te]
      exact ⟨_, by rw [hcell_of hb4]; rfl, rfl⟩)
    subst hv
    refine ⟨_, hr w' rfl, _, rfl, ⟨D2, ρ3, m3, c3, .u (.i .i64 0), n3, M8.cdrop.cdrop.cdrop, .u (by constructor), hk4.2⟩, ss⟩
theorem wholeF_S (hP : WhP P) {X : Fz → List Loc → Prop} {call : CallH} (hX : Stab X) (hcall : CallOk P X ro hr call) {G : FuncId} {args : List V} {KS : V → Mem → Prop} {p : Prop} (hs : wholeF (hr ++ ro) call G args m KS = some p) (hp : p) {vs : List Value} (xx : X D ρ) (M : SAt D ρ m chs C h) (ha : RpL D ρ vs args) : Run P G vs h (PostE ro hr D ρ m chs C KS) := by
  unfold wholeF at hs
  cases hb : Nat.beq G 95 with
  | false => rw [hb] at hs; cases hs
  | true =>
    rw [hb] at hs
    have := Nat.eq_of_beq_eq_true hb
    subst this
    simp only [cond_true] at hs
    split at hs
    · simp only [Option.some.injEq] at hs
      subst hs
      exact whole_S hP hX hcall M.len.symm hp xx M ha
    · simp only [Option.some.injEq] at hs
      subst hs
      exact hp.elim
def spWhole (hP : WhP P) : SP P where
  f := wholeF
  ok := by
    intro ro hr X call hX hcall g args m KS p hs hp D ρ chs C h vs xx M ha
    exact wholeF_S hP hX hcall hs hp xx M ha
def okEE (r : V × Mem) : Option Out :=
  match r.1 with
  | .u (.i .i64 (.ofNat 0)) => some [(.u (.i .i64 (.ofNat 0)), r.2)]
  | _ => none
theorem okEE_ok {r : V × Mem} {l : Out} {K : V → Mem → Prop} (h : okEE r = some l) (hK : ∀ x ∈ l, K x.1 x.2) : okE r.1 (K r.1 r.2) := by
  obtain ⟨x, m⟩ := r
  unfold okEE at h
  dsimp only at h
  split at h
  · cases h
    exact hK (.u (.i .i64 (.ofNat 0)), m) (by simp)
  · cases h
noncomputable def wholeE (ro : List Nat) (callE : CallE) (G : FuncId) (args : List V) (m : Mem) : Option (Option Out) :=
  cond (Nat.beq G 95) (match args with
    | [.r b o, .f g a c] => some (bindS (callE 109 [.r b o] m) fun r1 => cond (isPtr r1.1) (bindS (callE g (rapp a c) r1.2) fun r2 => match gcVF (rlen m) r2 with
      | some r3 => okEE r3
      | none => none) none)
    | _ => some none) none
theorem wholeE_ok {callE : CallE} {call : CallH} (hc : CallEOk callE call) {g : FuncId} {args : List V} {rs : Out} {K : V → Mem → Prop} (h : wholeE ro callE g args m = some (some rs)) (hK : ∀ r ∈ rs, K r.1 r.2) : ∃ p, wholeF ro call g args m K = some p ∧ p := by
  unfold wholeE at h
  unfold wholeF
  cases hb : Nat.beq g 95 with
  | false => rw [hb] at h; cases h
  | true =>
    rw [hb] at h
    simp only [cond_true] at h ⊢
    split at h
    · rename_i b o g' a c
      refine ⟨_, rfl, ?_⟩
      simp only [Option.some.injEq] at h
      obtain ⟨l1, h1, h2⟩ := bindS_ok h
      refine hc h1 fun r1 hr1 => ?_
      obtain ⟨l2, h3, h4⟩ := h2 r1 hr1
      obtain ⟨h5, h6⟩ := condO h3
      rw [h5]
      simp only [cond_true]
      obtain ⟨l3, h7, h8⟩ := bindS_ok h6
      rw [rapp_eq] at h7
      refine hc h7 fun r2 hr2 => ?_
      obtain ⟨l4, h9, h10⟩ := h8 r2 hr2
      split at h9
      · rename_i r3 h11
        rw [rlen_eq] at h11
        exact gcVF_ok (K := fun e m2 => okE e (K e m2)) h11 (.inl (okEE_ok h9 fun x hx => hK x (h4 x (h10 x hx))))
      · cases h9
    · cases h
theorem wholeE_no {callE : CallE} {call : CallH} {g : FuncId} {args : List V} {K : V → Mem → Prop} (h : wholeE ro callE g args m = none) : wholeF ro call g args m K = none := by
  unfold wholeE at h
  unfold wholeF
  cases hb : Nat.beq g 95 with
  | false => rfl
  | true =>
    rw [hb] at h
    simp only [cond_true] at h
    split at h <;> cases h
noncomputable def speWhole (hP : WhP P) : SPE P where
  sp := spWhole hP
  e := wholeE
  ok := by
    intro ro callE call hc g args m rs K h hK
    exact wholeE_ok hc h hK
  no := by
    intro ro callE call g args m K h
    exact wholeE_no h
end Go.Proofs.YtalglagdgabafaaGreat

/- Calls that are known (what they come to is shown elsewhere), within closed runs; runs piece by piece, with such calls. -/
set_option linter.unusedVariables false
namespace Go.Proofs.YtalglagdgabafaaGreat
open Go Go.Proofs
variable {P : Program} {D D' : Fz} {ρ ρ' : List Loc} {m m' : Mem} {chs C : List Chunk} {h h' : Heap} {ro hr : List Nat}
def overL : Mem → List Nat → List AB → Mem
  | m, j :: js, a :: al => overL (ms m j a) js al
  | m, _, _ => m
theorem overL_len : ∀ (js : List Nat) (al : List AB) (m : Mem), (overL m js al).length = m.length
  | [], al, m => by cases al <;> rfl
  | j :: js, [], m => rfl
  | j :: js, a :: al, m => by simp only [overL]; rw [overL_len js al, ms_len]
theorem overL_S : ∀ {js : List Nat} {al : List AB} {cs : List Chunk} {m : Mem} {c : List Chunk}, js.length = al.length → cs.length = al.length → SAt D ρ m c (cs ++ C) h → js.Nodup →
    (∀ (i j : Nat) (a : AB) (ch : Chunk), js[i]? = some j → al[i]? = some a → cs[i]? = some ch → j < m.length ∧ ∃ L, ρ[j]? = some L ∧ Ent D ρ L a ch) →
    ∃ c', SAt D ρ (overL m js al) c' C h ∧ ∀ b, b ∉ js → c'[b]? = c[b]? ∧ mg (overL m js al) b = mg m b
  | [], [], cs, m, c, h1, h2, M, hn, he => by
    have : cs = [] := List.eq_nil_of_length_eq_zero (by simpa using h2)
    subst this
    exact ⟨c, M, fun b _ => ⟨rfl, rfl⟩⟩
  | j :: js, a :: al, ch :: cs, m, c, h1, h2, M, hn, he => by
    obtain ⟨hj, L, hL, hE⟩ := he 0 j a ch rfl rfl rfl
    have M2 : SAt D ρ (ms m j a) (c.set j ch) (cs ++ C) h := M.over hj hL hE
    have hn2 := List.nodup_cons.1 hn
    obtain ⟨c', M3, g⟩ := overL_S (js := js) (al := al) (cs := cs) (by simpa using h1) (by simpa using h2) M2 hn2.2 fun i j' a' ch' q1 q2 q3 => by
      obtain ⟨w1, w2⟩ := he (i + 1) j' a' ch' (by simpa using q1) (by simpa using q2) (by simpa using q3)
      exact ⟨by rw [ms_len]; exact w1, w2⟩
    refine ⟨c', M3, fun b hb => ?_⟩
    simp only [List.mem_cons, not_or] at hb
    obtain ⟨g1, g2⟩ := g b hb.2
    refine ⟨by rw [g1, List.getElem?_set_ne (Ne.symm hb.1)], ?_⟩
    simp only [overL]
    rw [g2, mg_ms_ne (Ne.symm hb.1)]
  | [], _ :: _, _, _, _, h1, _, _, _, _ => by simp at h1
  | _ :: _, [], _, _, _, h1, _, _, _, _ => by simp at h1
  | _ :: _, _ :: _, [], _, _, _, h2, _, _, _ => by simp at h2
def fK (ix : List Nat) (n i : Nat) : Nat := cond (Nat.ble (i + 1) ix.length) (nthN ix i) (n + (i - ix.length))
def backM (m : Mem) (ix : List Nat) (M' : Mem) : Mem :=
  overL (killM m ix ++ List.replicate (M'.length - ix.length) .x) (ix ++ List.range' m.length (M'.length - ix.length)) (M'.map (renA (fK ix m.length)))
theorem fK_lt {ix : List Nat} {n i b : Nat} (h : ix[i]? = some b) : fK ix n i = b := by
  have : i < ix.length := by
    rcases Nat.lt_or_ge i ix.length with h1 | h1
    · exact h1
    · rw [List.getElem?_eq_none h1] at h; cases h
  unfold fK
  rw [Nat.ble_eq_true_of_le this, cond_true]
  exact nthN_eq h
theorem fK_ge {ix : List Nat} {n k : Nat} : fK ix n (ix.length + k) = n + k := by
  unfold fK
  have : Nat.ble (ix.length + k + 1) ix.length = false := by
    cases e : Nat.ble (ix.length + k + 1) ix.length with
    | false => rfl
    | true => have := Nat.le_of_ble_eq_true e; omega
  rw [this, cond_false]; omega
def KnP (P : Program) (ro : List Nat) (g : FuncId) (args : List V) (m : Mem) (K : V → Mem → Prop) : Prop :=
  ∃ (ix : List Nat) (R : V) (M' : Mem), ix.Nodup ∧ (∀ b ∈ ix, b < m.length ∧ b ∉ ro) ∧ (∀ b ∈ ix, ∀ c ∈ refsA (mg m b), c ∈ ix) ∧ (∀ b ∈ refsL args, b ∈ ix) ∧
    PRun P g (subM m ix) (renL (fun b => posL ix b 0) args) (fun x m' => x = R ∧ m' = M') ∧ K (renV (fK ix m.length) R) (backM m ix M')
theorem xs_S : ∀ (k : Nat) {ρ : List Loc} {m : Mem} {chs C : List Chunk} {s : List Loc}, SAt D ρ m chs C h → s.length = k → SAt D (ρ ++ s) (m ++ List.replicate k .x) (chs ++ List.replicate k []) C h
  | 0, ρ, m, chs, C, s, M, hs => by
    have : s = [] := List.eq_nil_of_length_eq_zero hs
    subst this
    simpa using M
  | k + 1, ρ, m, chs, C, [], M, hs => by simp at hs
  | k + 1, ρ, m, chs, C, L :: s, M, hs => by
    have M1 : SAt D (ρ ++ [L]) (m ++ [.x]) (chs ++ [[]]) C h := SAt.push (ch := []) ⟨M.len, M.lch, M.ent, by
      have := M.st
      refine this.perm ?_
      simp⟩ .x
    have := xs_S k (s := s) M1 (by simpa using hs)
    simpa [List.append_assoc, List.replicate_succ] using this
theorem known_S {X : Fz → List Loc → Prop} {g : FuncId} {args : List V} {KS : V → Mem → Prop} (hs : KnP P (hr ++ ro) g args m KS) {vs : List Value} (M : SAt D ρ m chs C h) (ha : RpL D ρ vs args) : Run P g vs h (PostE ro hr D ρ m chs C KS) := by
  obtain ⟨ix, R, M', hnd, hb, hcl, har, hrun, hK⟩ := hs
  obtain ⟨c', cs, hcs, Mk, gk, Ms⟩ := M.sub2 hnd (fun b h => (hb b h).1) hcl
  have ra' := (ren_all (D := D) (ρ := ρ) (f := fun b => posL ix b 0) (ρ' := ix.map fun b => (ρ[b]?).getD ⟨0, none, 0, 0, none⟩)).2.1 ha fun b hb L hL => by
    obtain ⟨k, h4, h5⟩ := posL_get (k := 0) (har b hb)
    rw [h4, Nat.zero_add, List.getElem?_map, h5, Option.map_some, hL]; rfl
  refine (hrun D _ cs (c' ++ C) h vs Ms ra').mono ?_
  rintro v h' ⟨D2, s, cs2, x, m', le, Ms2, hv, rfl, rfl⟩
  -- al many blocks al places
  have l1 := Ms2.len
  have l2 := Ms2.lch
  simp only [List.length_append, List.length_map] at l1
  have hk : m'.length - ix.length = s.length := by omega
  have Mk2 : SAt D2 ρ (killM m ix) c' (cs2 ++ C) h' := ⟨Mk.len, Mk.lch, fun i L ab ch q1 q2 q3 => by have := (Mk.ent i L ab ch q1 q2 q3).mono le (s := []); rwa [List.append_nil] at this, Ms2.st.perm (by
    simp only [List.flatten_append]
    exact List.perm_append_comm_assoc _ _ _)⟩
  have Mx := xs_S (m'.length - ix.length) (s := s) Mk2 hk.symm
  have lm : (killM m ix).length = m.length := killM_len _ _
  have fin : ∀ {i : Nat} {L : Loc}, ((ix.map fun b => (ρ[b]?).getD ⟨0, none, 0, 0, none⟩) ++ s)[i]? = some L → (ρ ++ s)[fK ix m.length i]? = some L := by
    intro i L hL
    rcases Nat.lt_or_ge i ix.length with hi | hi
    · have e := List.getElem?_eq_getElem hi
      rw [List.getElem?_append_left (by simpa using hi), List.getElem?_map, e, Option.map_some] at hL
      rw [fK_lt e]
      have hlt : ix[i] < ρ.length := by rw [M.len]; exact (hb _ (List.getElem_mem hi)).1
      rw [List.getElem?_append_left hlt, List.getElem?_eq_getElem hlt]
      rw [List.getElem?_eq_getElem hlt, Option.getD_some] at hL
      exact hL
    · obtain ⟨k, rfl⟩ := Nat.exists_eq_add_of_le hi
      rw [List.getElem?_append_right (by simp)] at hL
      rw [fK_ge, List.getElem?_append_right (by rw [M.len]; omega)]
      have e1 : m.length + k - ρ.length = k := by rw [M.len]; omega
      have e2 : ix.length + k - (ix.map fun b => (ρ[b]?).getD ⟨0, none, 0, 0, none⟩).length = k := by simp
      rw [e2] at hL
      rw [e1]; exact hL
  have hjs : ∀ (i j : Nat), (ix ++ List.range' m.length (m'.length - ix.length))[i]? = some j → i < m'.length ∧ j = fK ix m.length i ∧ j < m.length + (m'.length - ix.length) := by
    intro i j hj
    rcases Nat.lt_or_ge i ix.length with hi | hi
    · rw [List.getElem?_append_left hi] at hj
      exact ⟨by omega, (fK_lt hj).symm, by have := (hb j (List.mem_of_getElem? hj)).1; omega⟩
    · obtain ⟨k, rfl⟩ := Nat.exists_eq_add_of_le hi
      rw [List.getElem?_append_right (by omega)] at hj
      have hk2 : ix.length + k - ix.length < m'.length - ix.length := by
        rcases Nat.lt_or_ge (ix.length + k - ix.length) (m'.length - ix.length) with q | q
        · exact q
        · rw [List.getElem?_eq_none (by simpa using q)] at hj; cases hj
      rw [List.getElem?_range' hk2] at hj
      simp only [Option.some.injEq] at hj
      rw [fK_ge]
      omega
  obtain ⟨c2, M3, g3⟩ := overL_S (js := ix ++ List.range' m.length (m'.length - ix.length)) (al := m'.map (renA (fK ix m.length))) (cs := cs2) (by simp; omega) (by simp [l2]) Mx (by
      refine List.nodup_append.2 ⟨hnd, List.nodup_range', ?_⟩
      intro a ha b hb2 e
      subst e
      have := (hb a ha).1
      have := List.mem_range'_1.1 hb2
      omega) fun i j a ch q1 q2 q3 => by
    obtain ⟨hi, rfl, hlt⟩ := hjs i j q1
    refine ⟨by simp only [List.length_append, List.length_replicate, lm]; exact hlt, ?_⟩
    simp only [List.getElem?_map] at q2
    obtain ⟨a0, ha0, rfl⟩ := Option.map_eq_some_iff.1 q2
    have hiL : i < ((ix.map fun b => (ρ[b]?).getD ⟨0, none, 0, 0, none⟩) ++ s).length := by simp; omega
    have e := List.getElem?_eq_getElem hiL
    exact ⟨_, fin e, (Ms2.ent i _ a0 ch e ha0 q3).ren fun b _ L hL => fin hL⟩
  have hv3 := (ren_all (D := D2) (f := fK ix m.length) (ρ' := ρ ++ s)).1 hv fun b _ L hL => fin hL
  refine ⟨D2, ρ ++ s, _, c2, _, ⟨le, ⟨s, rfl⟩, fun b h1 h2 => ?_, fun b h1 h2 => ?_, ?_⟩, M3, hv3, hK⟩
  · have hni : b ∉ ix := fun hbi => (hb b hbi).2 (List.mem_append.2 (.inl (inL_iff.1 h1)))
    have hnj : b ∉ ix ++ List.range' m.length (m'.length - ix.length) := by
      intro hh
      rcases List.mem_append.1 hh with q | q
      · exact hni q
      · have := List.mem_range'_1.1 q; omega
    rw [(g3 b hnj).1, List.getElem?_append_left (by rw [Mk.lch, lm]; exact h2), (gk b hni).1]
  · have hni : b ∉ ix := fun hbi => (hb b hbi).2 (inL_iff.1 h1)
    have hnj : b ∉ ix ++ List.range' m.length (m'.length - ix.length) := by
      intro hh
      rcases List.mem_append.1 hh with q | q
      · exact hni q
      · have := List.mem_range'_1.1 q; omega
    have := (g3 b hnj).2
    show mg (overL _ _ _) b = _
    rw [this, mg_app (by rw [lm]; exact h2), (gk b hni).2]
  · rw [overL_len]
    simp only [List.length_append, lm]; omega
def spKn (S : SP P) (Gs : List Nat) : SP P where
  f ro call g args m K := cond (inL Gs g) (some (KnP P ro g args m K)) (S.f ro call g args m K)
  ok := by
    intro ro hr X call hX hcall g args m KS p hs hp D ρ chs C h vs xx M ha
    cases hg : inL Gs g with
    | true =>
      rw [hg] at hs
      simp only [cond_true, Option.some.injEq] at hs
      subst hs
      exact known_S (X := X) hp M ha
    | false => rw [hg] at hs; exact S.ok hX hcall hs hp xx M ha
noncomputable def speKn (E : SPE P) (Gs : List Nat) : SPE P where
  sp := spKn E.sp Gs
  e ro callE g args m := cond (inL Gs g) (some none) (E.e ro callE g args m)
  ok := by
    intro ro callE call hc g args m rs K h hK
    cases hg : inL Gs g with
    | true => rw [hg] at h; cases h
    | false =>
      rw [hg] at h
      obtain ⟨p, h3, h4⟩ := E.ok hc h hK
      exact ⟨p, by show cond (inL Gs g) _ _ = _; rw [hg]; exact h3, h4⟩
  no := by
    intro ro callE call g args m K h
    cases hg : inL Gs g with
    | true => rw [hg] at h; cases h
    | false => rw [hg] at h; show cond (inL Gs g) _ _ = _; rw [hg]; exact E.no h
variable {E : SPE P} {inl : List Nat} {nl n fi : Nat}
structure Ev (P : Program) (E : SPE P) (inl : List Nat) (nl n fi : Nat) (c : Code) (t : Fr) (m : Mem) (rs : Ress) : Prop where
  go : ∀ {Q : PostS}, (∀ r ∈ rs, Q r.1 r.2.1.l r.2.2) → vcC P (HE E inl nl) (runS P (HE E inl nl) n) fi c .out [] [] Q t.l m
theorem Ev.code {c : Code} {t : Fr} {m : Mem} {rs : Ress} (h : CodeE P E inl nl n c t m = some rs) : Ev P E inl nl n fi c t m rs :=
  ⟨fun hQ => cCode_ok (selfE := runF P E inl nl n) (self := runS P (HE E inl nl) n) (runF_ok n) c (Y := .out) (Z := .out) trivial h hQ⟩
theorem Ev.seq {x y : Code} {t t1 : Fr} {m m1 : Mem} {rs : Ress} (hx : Ev P E inl nl n fi x t m [(.nrm, t1, m1)]) (hy : Ev P E inl nl n fi y t1 m1 rs) : Ev P E inl nl n fi (.seq x y) t m rs := by
  refine ⟨fun {Q} hQ => ?_⟩
  have fj : ∀ a b c, findH (HE E inl nl).jo a b c = none := fun a b c => rfl
  simp only [vcC, fj]
  exact hx.go fun r hr => by rw [List.mem_singleton.1 hr]; exact hy.go hQ
theorem Ev.pieces : ∀ {k : Nat} {c : Code} {t t1 : Fr} {m m1 : Mem} {rs : Ress}, evK P E inl nl n k c t m = some (t1, m1) → Ev P E inl nl n fi (dropK k c) t1 m1 rs → Ev P E inl nl n fi c t m rs
  | 0, c, t, t1, m, m1, rs, h, hy => by cases h; exact hy
  | k + 1, .seq x y, t, t1, m, m1, rs, h, hy => by
    simp only [evK] at h
    split at h
    · rename_i t2 m2 h2
      exact Ev.seq (Ev.code h2) (Ev.pieces h hy)
    · cases h
  | _ + 1, .skip, _, _, _, _, _, h, _ => by simp [evK] at h
  | _ + 1, .region .., _, _, _, _, _, h, _ => by simp [evK] at h
  | _ + 1, .cond .., _, _, _, _, _, h, _ => by simp [evK] at h
  | _ + 1, .block .., _, _, _, _, _, h, _ => by simp [evK] at h
  | _ + 1, .loop .., _, _, _, _, _, h, _ => by simp [evK] at h
  | _ + 1, .exit .., _, _, _, _, _, h, _ => by simp [evK] at h
  | _ + 1, .ret, _, _, _, _, _, h, _ => by simp [evK] at h
  | _ + 1, .scope .., _, _, _, _, _, h, _ => by simp [evK] at h
  | _ + 1, .label .., _, _, _, _, _, h, _ => by simp [evK] at h
  | _ + 1, .rangeFunc .., _, _, _, _, _, h, _ => by simp [evK] at h
  | _ + 1, .goto .., _, _, _, _, _, h, _ => by simp [evK] at h
theorem opsSY_app {vw : Bool} {call : CallH} {yh : Nat → List V → Mem → (V → Mem → Prop) → Prop} {ops : List Oper} {K : List V → Mem → Prop} : ∀ (l1 l2 : List Oper) (t : List V) (m : Mem),
    opsSY P vw ro call yh ops K (l1 ++ l2) t m = opsSY P vw ro call yh ops (fun t m => opsSY P vw ro call yh ops K l2 t m) l1 t m
  | [], l2, t, m => rfl
  | o :: l1, l2, t, m => by
    simp only [List.cons_append, opsSY, opsSY_app l1 l2]
theorem cond_brk {b : Bool} {x y : Code} {c : Operand} {t : Fr} {m : Mem} {rs : Ress} (hc : (cOpd c).e t = .u (.b b)) (h : Ev P E inl nl n fi (cond b x y) t m rs) : Ev P E inl nl n fi (.cond c x y) t m rs := by
  refine ⟨fun {Q} hQ => ?_⟩
  rw [cOpd_e] at hc
  simp only [vcC]
  rw [hc]
  have := h.go hQ
  cases b <;> exact this
end Go.Proofs.YtalglagdgabafaaGreat

/- Runs piece by piece: rules that a program prints the use of. -/
set_option linter.unusedVariables false
namespace Go.Proofs.YtalglagdgabafaaGreat
open Go Go.Proofs
variable {P : Program} {E S : SPE P} {inl Gs : List Nat} {nl n fi : Nat}
def cSeq : Code → Bool
  | .seq .. => true
  | _ => false
def cL : Code → Code
  | .seq x _ => x
  | c => c
def cR : Code → Code
  | .seq _ y => y
  | c => c
theorem cSeq_eq {c : Code} (h : cSeq c = true) : c = .seq (cL c) (cR c) := by cases c <;> first | rfl | cases h
theorem Ev.seqP {c : Code} {t t1 : Fr} {m m1 : Mem} {rs : Ress} (hs : cSeq c = true) (hx : Ev P E inl nl n fi (cL c) t m [(.nrm, t1, m1)]) (hy : Ev P E inl nl n fi (cR c) t1 m1 rs) : Ev P E inl nl n fi c t m rs := by
  rw [cSeq_eq hs]; exact Ev.seq hx hy
theorem Ev.seqE {c : Code} {t t1 : Fr} {m m1 : Mem} {e : Ex} (he : e ≠ .nrm) (hs : cSeq c = true) (hx : Ev P E inl nl n fi (cL c) t m [(e, t1, m1)]) : Ev P E inl nl n fi c t m [(e, t1, m1)] := by
  rw [cSeq_eq hs]
  refine ⟨fun {Q} hQ => ?_⟩
  have fj : ∀ a b c, findH (HE E inl nl).jo a b c = none := fun a b c => rfl
  simp only [vcC, fj]
  refine hx.go fun r hr => ?_
  rw [List.mem_singleton.1 hr]
  have := hQ _ (List.mem_singleton_self _)
  cases e with
  | nrm => exact absurd rfl he
  | ret => exact this
  | ext j => exact this
def cCond : Code → Bool
  | .cond .. => true
  | _ => false
def cO : Code → Operand
  | .cond c _ _ => c
  | _ => .tmp 0
def cT : Code → Code
  | .cond _ x _ => x
  | c => c
def cF : Code → Code
  | .cond _ _ y => y
  | c => c
theorem cCond_eq {c : Code} (h : cCond c = true) : c = .cond (cO c) (cT c) (cF c) := by cases c <;> first | rfl | cases h
theorem Ev.condT {c : Code} {t : Fr} {m : Mem} {rs : Ress} (hs : cCond c = true) (hc : (cOpd (cO c)).e t = .u (.b true)) (h : Ev P E inl nl n fi (cT c) t m rs) : Ev P E inl nl n fi c t m rs := by
  rw [cCond_eq hs]; exact cond_brk hc h
theorem Ev.condF {c : Code} {t : Fr} {m : Mem} {rs : Ress} (hs : cCond c = true) (hc : (cOpd (cO c)).e t = .u (.b false)) (h : Ev P E inl nl n fi (cF c) t m rs) : Ev P E inl nl n fi c t m rs := by
  rw [cCond_eq hs]; exact cond_brk hc h
def cBlk : Code → Bool
  | .block .. => true
  | _ => false
def cBd : Code → Code
  | .block _ c => c
  | c => c
def cId : Code → Nat
  | .block i _ => i
  | _ => 0
theorem cBlk_eq {c : Code} (h : cBlk c = true) : c = .block (cId c) (cBd c) := by cases c <;> first | rfl | cases h
def blkE (id : Nat) : Ex → Ex
  | .ext j => cond (Nat.beq j id) .nrm (.ext j)
  | e => e
theorem Ev.blockP {c : Code} {t t1 : Fr} {m m1 : Mem} {e e2 : Ex} (hs : cBlk c = true) (he : blkE (cId c) e = e2) (h : Ev P E inl nl n fi (cBd c) t m [(e, t1, m1)]) : Ev P E inl nl n fi c t m [(e2, t1, m1)] := by
  rw [cBlk_eq hs]
  refine ⟨fun {Q} hQ => ?_⟩
  simp only [vcC]
  refine h.go fun r hr => ?_
  rw [List.mem_singleton.1 hr]
  have := hQ _ (List.mem_singleton_self _)
  subst he
  cases e with
  | nrm => exact this
  | ret => exact this
  | ext j =>
    simp only [blockS]
    simp only [blkE] at this
    cases hb : Nat.beq j (cId c) with
    | true => rw [hb] at this; exact this
    | false => rw [hb] at this; exact this
def cReg : Code → Bool
  | .region _ _ false => true
  | _ => false
def cOp : Code → List Oper
  | .region _ ops _ => ops.toList
  | _ => []
def opAt : List Oper → Nat → Oper
  | o :: _, 0 => o
  | _ :: l, n + 1 => opAt l n
  | [], _ => ⟨none, .move (.tmp 0), 0, "", #[], none⟩
def opCall (o : Oper) : Bool :=
  match o.op with
  | .call ⟨.value _, _, _⟩ => true
  | _ => false
def opF (o : Oper) : Operand :=
  match o.op with
  | .call ⟨.value f, _, _⟩ => f
  | _ => .tmp 0
def opArgs (o : Oper) : List Operand :=
  match o.op with
  | .call ⟨.value _, l, _⟩ => l.toList
  | _ => []
theorem op_split : ∀ {l : List Oper} {k : Nat}, k < l.length → l = l.take k ++ opAt l k :: l.drop (k + 1)
  | [], k, h => by simp at h
  | o :: l, 0, h => rfl
  | o :: l, k + 1, h => by
    show o :: l = o :: (l.take k ++ opAt l k :: l.drop (k + 1))
    rw [← op_split (by simpa using h)]
def okIx (ix : List Nat) (args : List V) (m : Mem) : Bool := below m.length ix && allIn ix (refsL args) && allIn ix (ix.flatMap fun b => refsA (mg m b))
noncomputable abbrev regE (P : Program) (E : SPE P) (inl : List Nat) (nl n : Nat) (L l : List Oper) (t : Fr) (m : Mem) : Option OutsF := (cOps P L l).r [] (callF P E inl (runF P E inl nl n .out) [] []) ((YE.out).h [] []) t m
structure EvO (P : Program) (E : SPE P) (inl : List Nat) (nl n : Nat) (L l : List Oper) (t : Fr) (m : Mem) (outs : OutsF) : Prop where
  go : ∀ {K : List V → Mem → Prop}, (∀ x ∈ outs, K x.1.l x.2) → opsSY P true [] (callH P (HE E inl nl) (runS P (HE E inl nl) n .out) [] []) (YC.out.h [] []) L K l t.l m
theorem callOk0 : CallEOk (callF P E inl (runF P E inl nl n .out) [] []) (callH P (HE E inl nl) (runS P (HE E inl nl) n .out) [] []) :=
  callF_ok (n := nl) (selfE := runF P E inl nl n .out) (self := runS P (HE E inl nl) n .out) (runF_ok n (Y := .out) (Z := .out) trivial)
theorem yhOk0 : YhOk ((YE.out).h [] []) (YC.out.h [] []) := YE.Ok.yh (Y := .out) (Z := .out) trivial
theorem EvO.ops {L l : List Oper} {t : Fr} {m : Mem} {outs : OutsF} (h : regE P E inl nl n L l t m = some outs) : EvO P E inl nl n L l t m outs :=
  ⟨fun hK => cOps_ok callOk0 yhOk0 h hK⟩
theorem Ev.reg {c : Code} {t : Fr} {m : Mem} {outs : OutsF} (hr : cReg c = true) (hd : ((cOp c).all fun o => !isDefer o) = true) (h : EvO P E inl nl n (cOp c) (cOp c) t m outs) : Ev P E inl nl n fi c t m (nrmR outs) := by
  obtain ⟨id, ops, rfl⟩ : ∃ id ops, c = .region id ops false := by cases c <;> first | (rename_i d; cases d <;> first | exact ⟨_, _, rfl⟩ | cases hr) | cases hr
  refine ⟨fun {Q} hQ => ?_⟩
  simp only [cOp] at *
  simp only [vcC]
  rw [hd]
  simp only [cond_true, cond_false]
  exact h.go (K := Q .nrm) fun x hx => hQ (.nrm, x.1, x.2) (List.mem_map.2 ⟨x, hx, rfl⟩)
theorem EvO.op {L l : List Oper} {k : Nat} {t t1 t2 : Fr} {m m1 : Mem} {outs : OutsF} {v : V} (hk : Nat.ble (k + 1) l.length = true)
    (h1 : regE P E inl nl n L (l.take k) t m = some [(t1, m1)]) (hg : (cG L (opAt l k)).g t1 = some (true, t2))
    (hy : yieldOf t2.l (opAt l k) = none) (hq : quietB (opAt l k) = true) (hv : (cQ P (opAt l k)).q t2 m1 = some v)
    (h2 : EvO P E inl nl n L (l.drop (k + 1)) ((cPut (opAt l k).dst).p t2 v) m1 outs) : EvO P E inl nl n L l t m outs := by
  refine ⟨fun {K} hK => ?_⟩
  have hl := op_split (Nat.le_of_ble_eq_true hk)
  suffices hs : opsSY P true [] (callH P (HE E inl nl) (runS P (HE E inl nl) n .out) [] []) (YC.out.h [] []) L K (l.take k ++ opAt l k :: l.drop (k + 1)) t.l m by rw [← hl] at hs; exact hs
  rw [opsSY_app]
  refine cOps_ok callOk0 yhOk0 h1 fun x hx => ?_
  rw [List.mem_singleton.1 hx]
  dsimp only
  simp only [opsSY]
  refine guardE_ok (cG_some hg) ?_
  simp only [cond_true]
  rw [hy]
  dsimp only
  unfold opS
  simp only [cond_true, hq]
  rw [cQ_eq] at hv
  have := h2.go hK
  rw [cPut_eq] at this
  exact quietE_ok (K := fun v => opsSY P true [] (callH P (HE E inl nl) (runS P (HE E inl nl) n .out) [] []) (YC.out.h [] []) L K (l.drop (k + 1)) (vput t2.l (opAt l k).dst v) m1) hv this
theorem EvO.not {L l : List Oper} {k : Nat} {t t1 t2 : Fr} {m m1 : Mem} {outs : OutsF} (hk : Nat.ble (k + 1) l.length = true)
    (h1 : regE P E inl nl n L (l.take k) t m = some [(t1, m1)]) (hg : (cG L (opAt l k)).g t1 = some (false, t2))
    (h2 : EvO P E inl nl n L (l.drop (k + 1)) ((cPut (opAt l k).dst).p t2 (.t [])) m1 outs) : EvO P E inl nl n L l t m outs := by
  refine ⟨fun {K} hK => ?_⟩
  have hl := op_split (Nat.le_of_ble_eq_true hk)
  suffices hs : opsSY P true [] (callH P (HE E inl nl) (runS P (HE E inl nl) n .out) [] []) (YC.out.h [] []) L K (l.take k ++ opAt l k :: l.drop (k + 1)) t.l m by rw [← hl] at hs; exact hs
  rw [opsSY_app]
  refine cOps_ok callOk0 yhOk0 h1 fun x hx => ?_
  rw [List.mem_singleton.1 hx]
  dsimp only
  simp only [opsSY]
  refine guardE_ok (cG_some hg) ?_
  simp only [cond_false]
  have := h2.go hK
  rw [cPut_eq] at this
  exact this
theorem EvO.call {L l : List Oper} {k : Nat} {t t1 t2 : Fr} {m m1 M' ms : Mem} {outs : OutsF} {args al a cc : List V} {g : FuncId} {R : V} (ix : List Nat) (hk : Nat.ble (k + 1) l.length = true)
    (h1 : regE P (speKn S Gs) inl nl n L (l.take k) t m = some [(t1, m1)]) (hg : (cG L (opAt l k)).g t1 = some (true, t2))
    (hc : opCall (opAt l k) = true) (hf : (cOpd (opF (opAt l k))).e t2 = .f g a cc) (hin : inL Gs g = true) (hargs : a ++ evA t2 (cOpds (opArgs (opAt l k))) ++ cc = args)
    (hn : ix.Nodup) (hix : okIx ix args m1 = true) (hm : subM m1 ix = ms) (ha : renL (fun b => posL ix b 0) args = al) (hp : PRun P g ms al fun x m' => x = R ∧ m' = M')
    (h2 : EvO P (speKn S Gs) inl nl n L (l.drop (k + 1)) ((cPut (opAt l k).dst).p t2 (renV (fK ix m1.length) R)) (backM m1 ix M') outs) : EvO P (speKn S Gs) inl nl n L l t m outs := by
  refine ⟨fun {K} hK => ?_⟩
  have hl := op_split (Nat.le_of_ble_eq_true hk)
  suffices hs : opsSY P true [] (callH P (HE (speKn S Gs) inl nl) (runS P (HE (speKn S Gs) inl nl) n .out) [] []) (YC.out.h [] []) L K (l.take k ++ opAt l k :: l.drop (k + 1)) t.l m by rw [← hl] at hs; exact hs
  rw [opsSY_app]
  refine cOps_ok callOk0 yhOk0 h1 fun x hx => ?_
  rw [List.mem_singleton.1 hx]
  dsimp only
  simp only [opsSY]
  refine guardE_ok (cG_some hg) ?_
  simp only [cond_true]
  generalize hoo : opAt l k = o at *
  obtain ⟨dst, op, ty, pos, after, guard⟩ := o
  obtain ⟨f, al', tys, rfl⟩ : ∃ f al' tys, op = .call ⟨.value f, al', tys⟩ := by
    unfold opCall at hc
    split at hc
    · rename_i f l tys he; exact ⟨f, l, tys, he⟩
    · cases hc
  have hf : evS t2.l f = .f g a cc := by rw [← cOpd_e]; exact hf
  have hargs : a ++ al'.toList.map (evS t2.l) ++ cc = args := by rw [← evA_eq]; exact hargs
  have hy : yieldOf t2.l (⟨dst, .call ⟨.value f, al', tys⟩, ty, pos, after, guard⟩ : Oper) = none := by unfold yieldOf; simp only [hf]
  rw [hy]
  dsimp only
  unfold opS
  have hq : quietB (⟨dst, .call ⟨.value f, al', tys⟩, ty, pos, after, guard⟩ : Oper) = false := rfl
  simp only [cond_true, hq, cond_false]
  unfold effS
  simp only [hf]
  rw [hargs]
  unfold callH
  have e : (HE (speKn S Gs) inl nl).sp.f ([] ++ []) (callH0 P (HE (speKn S Gs) inl nl) (runS P (HE (speKn S Gs) inl nl) n .out) [] []) g args m1 = fun K => some (KnP P [] g args m1 K) := by
    funext K
    show cond (inL Gs g) _ _ = _
    rw [hin]; rfl
  rw [e]
  subst hm ha
  simp only [okIx, Bool.and_eq_true] at hix
  refine ⟨ix, R, M', hn, fun b hb => ⟨below_iff hix.1.1 b hb, by simp⟩, fun b hb c hc => allIn_iff hix.2 c (List.mem_flatMap.2 ⟨b, hb, hc⟩), allIn_iff hix.1.2, hp, ?_⟩
  have := h2.go hK
  rw [cPut_eq] at this
  exact this
noncomputable def endKT (P : Program) (fn : Func) (m : Mem) (r : Res) : Option (V × Mem) :=
  match retF P fn r with
  | some x => endE false m.length x
  | none => none
theorem Ev.runT (hmix : P.follows .mixedOrders = true) {f : FuncId} {fn : Func} (hf : P.funcs[f]? = some fn) (hn : (fn.name == "runtime.NumGoroutine") = false) {c : Code} (hc : fn.body = some c) {m : Mem} {args : List V} {r : Res} (h : Ev P E inl nl n f c (frameF P fn args) m [r]) {y : V × Mem} (he : endKT P fn m r = some y) : PRun P f m args fun x m' => x = y.1 ∧ m' = y.2 := by
  refine funSG hmix (H := HE E inl nl) (n := n + 1) (gc := true) hf hn hc ?_
  show vcC P (HE E inl nl) (runS P (HE E inl nl) n) f c .out [] [] _ _ m
  rw [← frameF_l]
  refine h.go fun x hx => ?_
  rw [List.mem_singleton.1 hx]
  unfold endKT at he
  split at he
  · rename_i z hz
    exact retF_ok hz (endE_ok he ⟨rfl, rfl⟩)
  · cases he
end Go.Proofs.YtalglagdgabafaaGreat

/- Runs piece by piece: regions that draw their order, with calls that are known. -/
set_option linter.unusedVariables false
namespace Go.Proofs.YtalglagdgabafaaGreat
open Go Go.Proofs
variable {P : Program} {E S : SPE P} {inl Gs : List Nat} {nl n fi : Nat}
abbrev DSt := Nat × List Nat × List (Nat × List Nat) × Fr × Mem
noncomputable def dr1 (P : Program) (E : SPE P) (inl : List Nat) (nl n : Nat) (ops : List Oper) (s : DSt) : Option DSt :=
  match s with
  | (0, _) => none
  | (k + 1, done, held, t, m) => match nextQ ops done with
    | some i => (match ops[i]? with
      | none => none
      | some o => match (cG ops o).g t with
        | some (true, t') => (match qsF P o t' m with
          | some [v] => some (k, i :: done, cond (pureOp o) held ((i, srcF t' o) :: held), (cPut o.dst).p t' v, m)
          | _ => none)
        | some (false, t') => some (k, i :: done, held, (cPut o.dst).p t' (.t []), m)
        | none => none)
    | none => (match readies ops done with
      | [i] => (match ops[i]? with
        | none => none
        | some o => match (cG ops o).g t with
          | some (true, t') => (match esF P o (heldB ops i held ++ [] ++ []) (callF P E inl (runF P E inl nl n .out) [] (heldB ops i held ++ [])) t' m with
            | some [r] => some (k, i :: done, held, (cPut o.dst).p t' r.1, r.2)
            | _ => none)
          | some (false, t') => some (k, i :: done, held, (cPut o.dst).p t' (.t []), m)
          | none => none)
      | _ => none)
noncomputable def drK (P : Program) (E : SPE P) (inl : List Nat) (nl n : Nat) (ops : List Oper) : Nat → DSt → Option DSt
  | 0, s => some s
  | j + 1, s => match dr1 P E inl nl n ops s with
    | some s' => drK P E inl nl n ops j s'
    | none => none
structure EvD (P : Program) (E : SPE P) (inl : List Nat) (nl n : Nat) (ops : List Oper) (s : DSt) (outs : OutsF) : Prop where
  go : ∀ {K : List V → Mem → Prop}, (∀ x ∈ outs, K x.1.l x.2) → drawS P [] [] (callH P (HE E inl nl) (runS P (HE E inl nl) n .out) []) ops K s.1 s.2.1 s.2.2.1 s.2.2.2.1.l s.2.2.2.2
theorem callOkH {hr : List Nat} : CallEOk (callF P E inl (runF P E inl nl n .out) [] hr) (callH P (HE E inl nl) (runS P (HE E inl nl) n .out) [] hr) :=
  callF_ok (n := nl) (selfE := runF P E inl nl n .out) (self := runS P (HE E inl nl) n .out) (runF_ok n (Y := .out) (Z := .out) trivial)
theorem EvD.code {ops : List Oper} {k : Nat} {done : List Nat} {held : List (Nat × List Nat)} {t : Fr} {m : Mem} {outs : OutsF} (h : (cDraw P ops k done).r [] [] (callF P E inl (runF P E inl nl n .out) []) held t m = some outs) : EvD P E inl nl n ops (k, done, held, t, m) outs :=
  ⟨fun hK => cDraw_ok (callE := callF P E inl (runF P E inl nl n .out) []) (fun h => callOkH (hr := h)) h hK⟩
theorem EvD.step {ops : List Oper} {s s' : DSt} {outs : OutsF} (h : dr1 P E inl nl n ops s = some s') (h2 : EvD P E inl nl n ops s' outs) : EvD P E inl nl n ops s outs := by
  obtain ⟨k, done, held, t, m⟩ := s
  cases k with
  | zero => cases h
  | succ k =>
    refine ⟨fun {K} hK => ?_⟩
    unfold dr1 at h
    dsimp only at h ⊢
    simp only [drawS]
    split at h
    · rename_i i hq
      rw [hq]
      dsimp only
      split at h
      · cases h
      · rename_i o ho
        rw [ho]
        dsimp only
        split at h
        · rename_i t' hg
          split at h
          · rename_i v hv
            cases h
            refine guardE_ok (cG_some hg) ?_
            simp only [cond_true]
            rw [qsF_eq] at hv
            refine quietsE_ok hv fun v' hv' => ?_
            rw [List.mem_singleton.1 hv']
            have := h2.go hK
            dsimp only at this
            rw [cPut_eq, srcF_eq] at this
            exact this
          · cases h
        · rename_i t' hg
          cases h
          have := h2.go hK
          dsimp only at this
          rw [cPut_eq] at this
          exact guardE_ok (cG_some hg) this
        · cases h
    · rename_i hq
      rw [hq]
      dsimp only
      split at h
      · rename_i i hr
        rw [hr]
        dsimp only [conjL]
        split at h
        · cases h
        · rename_i o ho
          rw [ho]
          dsimp only
          split at h
          · rename_i t' hg
            split at h
            · rename_i r hv
              cases h
              refine guardE_ok (cG_some hg) ?_
              simp only [cond_true]
              rw [esF_eq] at hv
              refine effE_ok callOkH hv fun r' hr' => ?_
              rw [List.mem_singleton.1 hr']
              have := h2.go hK
              dsimp only at this
              rw [cPut_eq] at this
              exact this
            · cases h
          · rename_i t' hg
            cases h
            have := h2.go hK
            dsimp only at this
            rw [cPut_eq] at this
            exact guardE_ok (cG_some hg) this
          · cases h
      · cases h
theorem EvD.steps {ops : List Oper} {outs : OutsF} : ∀ {j : Nat} {s s' : DSt}, drK P E inl nl n ops j s = some s' → EvD P E inl nl n ops s' outs → EvD P E inl nl n ops s outs
  | 0, s, s', h, h2 => by cases h; exact h2
  | j + 1, s, s', h, h2 => by
    simp only [drK] at h
    split at h
    · rename_i s1 h1
      exact EvD.step h1 (EvD.steps h h2)
    · cases h
noncomputable def drE (P : Program) (E : SPE P) (inl : List Nat) (nl n : Nat) (ops : List Oper) (i : Nat) (s : DSt) : Option DSt :=
  match s with
  | (0, _) => none
  | (k + 1, done, held, t, m) => (match ops[i]? with
    | none => none
    | some o => match (cG ops o).g t with
      | some (true, t') => (match esF P o (heldB ops i held ++ [] ++ []) (callF P E inl (runF P E inl nl n .out) [] (heldB ops i held ++ [])) t' m with
        | some [r] => some (k, i :: done, held, (cPut o.dst).p t' r.1, r.2)
        | _ => none)
      | some (false, t') => some (k, i :: done, held, (cPut o.dst).p t' (.t []), m)
      | none => none)
theorem drE_ok {ops : List Oper} {i k : Nat} {done : List Nat} {held : List (Nat × List Nat)} {t : Fr} {m : Mem} {s' : DSt} {outs : OutsF} (h : drE P E inl nl n ops i (k + 1, done, held, t, m) = some s') (h2 : EvD P E inl nl n ops s' outs) {K : List V → Mem → Prop} (hK : ∀ x ∈ outs, K x.1.l x.2) :
    (match ops[i]? with
      | none => False
      | some o => guardS ops o t.l
          (fun t => effS P (heldB ops i held ++ [] ++ []) (callH P (HE E inl nl) (runS P (HE E inl nl) n .out) [] (heldB ops i held ++ [])) t m o fun v m' => drawS P [] [] (callH P (HE E inl nl) (runS P (HE E inl nl) n .out) []) ops K k (i :: done) held (vput t o.dst v) m')
          (fun t => drawS P [] [] (callH P (HE E inl nl) (runS P (HE E inl nl) n .out) []) ops K k (i :: done) held (vput t o.dst (.t [])) m)) := by
  unfold drE at h
  dsimp only at h
  split at h
  · cases h
  · rename_i o ho
    split at h
    · rename_i t' hg
      split at h
      · rename_i r hv
        cases h
        refine guardE_ok (cG_some hg) ?_
        simp only [cond_true]
        rw [esF_eq] at hv
        refine effE_ok callOkH hv fun r' hr' => ?_
        rw [List.mem_singleton.1 hr']
        have := h2.go hK
        dsimp only at this
        rw [cPut_eq] at this
        exact this
      · cases h
    · rename_i t' hg
      cases h
      have := h2.go hK
      dsimp only at this
      rw [cPut_eq] at this
      exact guardE_ok (cG_some hg) this
    · cases h
structure EvE (P : Program) (E : SPE P) (inl : List Nat) (nl n : Nat) (ops : List Oper) (i k : Nat) (done : List Nat) (held : List (Nat × List Nat)) (t : Fr) (m : Mem) (outs : OutsF) : Prop where
  go : ∀ {K : List V → Mem → Prop}, (∀ x ∈ outs, K x.1.l x.2) →
    (match ops[i]? with
      | none => False
      | some o => guardS ops o t.l
          (fun t => effS P (heldB ops i held ++ [] ++ []) (callH P (HE E inl nl) (runS P (HE E inl nl) n .out) [] (heldB ops i held ++ [])) t m o fun v m' => drawS P [] [] (callH P (HE E inl nl) (runS P (HE E inl nl) n .out) []) ops K k (i :: done) held (vput t o.dst v) m')
          (fun t => drawS P [] [] (callH P (HE E inl nl) (runS P (HE E inl nl) n .out) []) ops K k (i :: done) held (vput t o.dst (.t [])) m))
theorem EvE.step {ops : List Oper} {i k : Nat} {done : List Nat} {held : List (Nat × List Nat)} {t : Fr} {m : Mem} {s' : DSt} {outs : OutsF} (h : drE P E inl nl n ops i (k + 1, done, held, t, m) = some s') (h2 : EvD P E inl nl n ops s' outs) : EvE P E inl nl n ops i k done held t m outs :=
  ⟨fun hK => drE_ok h h2 hK⟩
def twoR (l : List Nat) (i j : Nat) : Bool :=
  match l with
  | [a, b] => Nat.beq a i && Nat.beq b j
  | _ => false
theorem EvD.two {ops : List Oper} {k : Nat} {done : List Nat} {held : List (Nat × List Nat)} {t : Fr} {m : Mem} {o1 o2 : OutsF} (i j : Nat) (hq : nextQ ops done = none) (hr : twoR (readies ops done) i j = true)
    (e1 : EvE P E inl nl n ops i k done held t m o1) (e2 : EvE P E inl nl n ops j k done held t m o2) : EvD P E inl nl n ops (k + 1, done, held, t, m) (o1 ++ o2) := by
  refine ⟨fun {K} hK => ?_⟩
  have hr1 : readies ops done = [i, j] := by
    revert hr
    unfold twoR
    split
    · rename_i a b he
      intro hr
      simp only [Bool.and_eq_true] at hr
      rw [he, Nat.eq_of_beq_eq_true hr.1, Nat.eq_of_beq_eq_true hr.2]
    · intro hr; cases hr
  dsimp only
  simp only [drawS]
  rw [hq]
  dsimp only
  rw [hr1]
  dsimp only [conjL]
  exact ⟨e1.go fun x hx => hK x (List.mem_append.2 (.inl hx)), e2.go fun x hx => hK x (List.mem_append.2 (.inr hx))⟩
def oneR1 (l : List Nat) (i : Nat) : Bool :=
  match l with
  | [j] => Nat.beq j i
  | _ => false
theorem EvD.one {ops : List Oper} {k : Nat} {done : List Nat} {held : List (Nat × List Nat)} {t : Fr} {m : Mem} {outs : OutsF} (i : Nat) (hq : nextQ ops done = none) (hr : oneR1 (readies ops done) i = true) (e : EvE P E inl nl n ops i k done held t m outs) : EvD P E inl nl n ops (k + 1, done, held, t, m) outs := by
  refine ⟨fun {K} hK => ?_⟩
  have hr1 : readies ops done = [i] := by
    revert hr
    cases readies ops done with
    | nil => intro hr; cases hr
    | cons x l => cases l with
      | nil => intro hr; rw [Nat.eq_of_beq_eq_true hr]
      | cons y l => intro hr; cases hr
  dsimp only
  simp only [drawS]
  rw [hq]
  dsimp only
  rw [hr1]
  dsimp only [conjL]
  exact e.go hK
theorem EvE.call {ops : List Oper} {k : Nat} {done : List Nat} {held : List (Nat × List Nat)} {t t2 : Fr} {m M' ms : Mem} {outs : OutsF} {args al a cc : List V} {g : FuncId} {R : V} (i : Nat) (ix : List Nat) (hk : Nat.ble (i + 1) ops.length = true)
    (hg : (cG ops (opAt ops i)).g t = some (true, t2))
    (hc : opCall (opAt ops i) = true) (hf : (cOpd (opF (opAt ops i))).e t2 = .f g a cc) (hin : inL Gs g = true) (hargs : a ++ evA t2 (cOpds (opArgs (opAt ops i))) ++ cc = args)
    (hn : ix.Nodup) (hix : okIx ix args m = true) (hd : disj (heldB ops i held) ix = true) (hm : subM m ix = ms) (ha : renL (fun b => posL ix b 0) args = al) (hp : PRun P g ms al fun x m' => x = R ∧ m' = M')
    (h2 : EvD P (speKn S Gs) inl nl n ops (k, i :: done, held, (cPut (opAt ops i).dst).p t2 (renV (fK ix m.length) R), backM m ix M') outs) : EvE P (speKn S Gs) inl nl n ops i k done held t m outs := by
  refine ⟨fun {K} hK => ?_⟩
  have ho : ops[i]? = some (opAt ops i) := by
    have e := op_split (Nat.le_of_ble_eq_true hk)
    have hl : (ops.take i).length = i := by rw [List.length_take]; have := Nat.le_of_ble_eq_true hk; omega
    rw [e, List.getElem?_append_right (by omega), hl, Nat.sub_self, ← e]
    simp
  rw [ho]
  dsimp only
  refine guardE_ok (cG_some hg) ?_
  simp only [cond_true]
  generalize hoo : opAt ops i = o at *
  obtain ⟨dst, op, ty, pos, after, guard⟩ := o
  obtain ⟨f, al', tys, rfl⟩ : ∃ f al' tys, op = .call ⟨.value f, al', tys⟩ := by
    unfold opCall at hc
    split at hc
    · rename_i f l tys he; exact ⟨f, l, tys, he⟩
    · cases hc
  have hf : evS t2.l f = .f g a cc := by rw [← cOpd_e]; exact hf
  have hargs : a ++ al'.toList.map (evS t2.l) ++ cc = args := by rw [← evA_eq]; exact hargs
  unfold effS
  simp only [hf]
  rw [hargs]
  unfold callH
  have e : (HE (speKn S Gs) inl nl).sp.f ((heldB ops i held ++ []) ++ []) (callH0 P (HE (speKn S Gs) inl nl) (runS P (HE (speKn S Gs) inl nl) n .out) [] (heldB ops i held ++ [])) g args m = fun K => some (KnP P ((heldB ops i held ++ []) ++ []) g args m K) := by
    funext K
    show cond (inL Gs g) _ _ = _
    rw [hin]; rfl
  rw [e]
  subst hm ha
  simp only [okIx, Bool.and_eq_true] at hix
  refine ⟨ix, R, M', hn, fun b hb => ⟨below_iff hix.1.1 b hb, by simpa using disj_iff hd b hb⟩, fun b hb c hc => allIn_iff hix.2 c (List.mem_flatMap.2 ⟨b, hb, hc⟩), allIn_iff hix.1.2, hp, ?_⟩
  have := h2.go hK
  dsimp only at this
  rw [cPut_eq] at this
  exact this
def cRegD : Code → Bool
  | .region _ _ true => true
  | _ => false
theorem Ev.regD {c : Code} {t : Fr} {m : Mem} {outs outs2 : OutsF} (hr : cRegD c = true) (hd : ((cOp c).all fun o => !isDefer o) = true) (hb : (drawB (cOp c) (cOp c).length [] && Region.noSelect (cOp c).toArray) = true)
    (h : EvD P E inl nl n (cOp c) ((cOp c).length, [], [], t, m) outs) (hcn : agreeF (rlen m) outs = some outs2) : Ev P E inl nl n fi c t m (nrmR outs2) := by
  obtain ⟨id, ops, rfl⟩ : ∃ id ops, c = .region id ops true := by cases c <;> first | (rename_i d; cases d <;> first | exact ⟨_, _, rfl⟩ | cases hr) | cases hr
  refine ⟨fun {Q} hQ => ?_⟩
  simp only [cOp] at *
  simp only [vcC]
  rw [hd]
  simp only [cond_true]
  rw [hb]
  simp only [cond_true]
  rw [rlen_eq] at hcn
  exact h.go (K := canonS m.length (Q .nrm)) (agreeF_ok hcn fun y hy => hQ (.nrm, y.1, y.2) (List.mem_map.2 ⟨y, hy, rfl⟩))
def canonAll (n : Nat) (r : Fr × Mem) : OutsF → Prop
  | [] => True
  | x :: l => canonH n x.1 x.2 = some r ∧ canonAll n r l
theorem canonAll_ok {n : Nat} {r : Fr × Mem} : ∀ {l : OutsF}, canonAll n r l → ∀ x ∈ l, canonH n x.1 x.2 = some r
  | [], _, x, hx => by cases hx
  | y :: l, h, x, hx => by
    rcases List.mem_cons.1 hx with rfl | hx
    · exact h.1
    · exact canonAll_ok h.2 x hx
theorem Ev.regD2 {c : Code} {t t3 : Fr} {m m3 : Mem} {outs : OutsF} (hr : cRegD c = true) (hd : ((cOp c).all fun o => !isDefer o) = true) (hb : (drawB (cOp c) (cOp c).length [] && Region.noSelect (cOp c).toArray) = true)
    (h : EvD P E inl nl n (cOp c) ((cOp c).length, [], [], t, m) outs) (hcn : canonAll (rlen m) (t3, m3) outs) : Ev P E inl nl n fi c t m [(.nrm, t3, m3)] := by
  obtain ⟨id, ops, rfl⟩ : ∃ id ops, c = .region id ops true := by cases c <;> first | (rename_i d; cases d <;> first | exact ⟨_, _, rfl⟩ | cases hr) | cases hr
  refine ⟨fun {Q} hQ => ?_⟩
  simp only [cOp] at *
  simp only [vcC]
  rw [hd]
  simp only [cond_true]
  rw [hb]
  simp only [cond_true]
  rw [rlen_eq] at hcn
  exact h.go (K := canonS m.length (Q .nrm)) fun x hx => canonH_ok (canonAll_ok hcn x hx) (hQ _ (List.mem_singleton_self _))
structure EvL (P : Program) (E : SPE P) (inl : List Nat) (nl n fi : Nat) (n0 : Nat) (c : Code) (k : Nat) (t : Fr) (m : Mem) (rs : Ress) : Prop where
  go : ∀ {Q : PostS}, (∀ r ∈ rs, Q r.1 r.2.1.l r.2.2) → rnds (some n0) (fun Q => vcC P (HE E inl nl) (runS P (HE E inl nl) n) fi c .out [] [] Q) Q k t.l m
theorem EvL.round {n0 k : Nat} {c : Code} {t t1 t2 : Fr} {m m1 m2 : Mem} {rs : Ress} (h : Ev P E inl nl n fi c t m [(.nrm, t1, m1)]) (hc : canonH n0 t1 m1 = some (t2, m2)) (h2 : EvL P E inl nl n fi n0 c k t2 m2 rs) : EvL P E inl nl n fi n0 c (k + 1) t m rs := by
  refine ⟨fun {Q} hQ => ?_⟩
  unfold rnds
  refine h.go fun r hr => ?_
  rw [List.mem_singleton.1 hr]
  exact canonH_ok (K := rnds (some n0) (fun Q => vcC P (HE E inl nl) (runS P (HE E inl nl) n) fi c .out [] [] Q) Q k) hc (h2.go hQ)
theorem EvL.last {n0 k : Nat} {c : Code} {t t1 : Fr} {m m1 : Mem} {e : Ex} (he : e ≠ .nrm) (h : Ev P E inl nl n fi c t m [(e, t1, m1)]) : EvL P E inl nl n fi n0 c (k + 1) t m [(e, t1, m1)] := by
  refine ⟨fun {Q} hQ => ?_⟩
  unfold rnds
  refine h.go fun r hr => ?_
  rw [List.mem_singleton.1 hr]
  have := hQ _ (List.mem_singleton_self _)
  cases e with
  | nrm => exact absurd rfl he
  | ret => exact this
  | ext j => exact this
def cLoop : Code → Bool
  | .loop _ => true
  | _ => false
def cLp : Code → Code
  | .loop c => c
  | c => c
theorem Ev.loopP {n0 : Nat} {c : Code} {t : Fr} {m : Mem} {rs : Ress} (hs : cLoop c = true) (hn : rlen m = n0) (h : EvL P E inl nl n fi n0 (cLp c) nl t m rs) : Ev P E inl nl n fi c t m rs := by
  obtain ⟨b, rfl⟩ : ∃ b, c = .loop b := by cases c <;> first | exact ⟨_, rfl⟩ | cases hs
  refine ⟨fun {Q} hQ => ?_⟩
  have fl : ∀ a b c, findH (HE E inl nl).lo a b c = none := fun a b c => rfl
  simp only [vcC, fl]
  rw [rlen_eq] at hn
  subst hn
  exact h.go hQ
end Go.Proofs.YtalglagdgabafaaGreat

/- Runs piece by piece: frames and memories told by what is new in them; operations known under a hypothesis. -/
set_option linter.unusedVariables false
namespace Go.Proofs.YtalglagdgabafaaGreat
open Go Go.Proofs
variable {P : Program} {E S : SPE P} {inl Gs : List Nat} {nl n fi : Nat}
noncomputable def puF : Fr → List (Nat × V) → Fr
  | t, [] => t
  | t, (i, v) :: l => puF ((acc i).s t v) l
def paM : Mem → List (Nat × AB) → Mem → Mem
  | m, [], e => m ++ e
  | m, (i, a) :: l, e => paM (ms m i a) l e
theorem symE {x : Option V} {b c : Bool} (h : x = some (.u (.b b))) (hb : b = c) : x = some (.u (.b c)) := by rw [h, hb]
theorem symN {x : Option V} {b c d : Bool} (h : x = some (.u (.b (not b)))) (hb : b = c) (hd : (not c) = d) : x = some (.u (.b d)) := by rw [h, hb, hd]
theorem eqF_self (x : Int) : eqF x x = true := by rw [eqF_eq]; simp
end Go.Proofs.YtalglagdgabafaaGreat

/- A closed run, piece by piece. -/
set_option linter.unusedVariables false
set_option maxRecDepth 1000000
namespace Go.Proofs.YtalglagdgabafaaGreat
open Go Go.Proofs
noncomputable def aw15_t0 : Fr := Fr.of [.u (.b false), .r 10 0, .u (.b true), .z, .z, .z, .z, .z, .z, .z, .z, .z, .z, .z, .t [.a [.r 0 0, .r 3 0, .r 5 0, .r 7 0, .r 9 0], .u (.b true)], .t [.a [.r 0 0, .r 3 0, .r 5 0, .r 7 0, .r 9 0], .u (.b true)], .a [.r 0 0, .r 3 0, .r 5 0, .r 7 0, .r 9 0], .u (.b true), .z, .z, .z, .z, .z, .z, .z, .z, .z, .z, .z, .z, .z, .z, .z, .z, .z, .z, .z, .z, .z, .z, .z, .z, .z, .z, .z, .z, .z, .z, .z, .z, .z, .z, .z, .z, .z, .z, .z, .z, .z, .z, .z, .z, .z, .z, .z, .z, .z, .z, .z, .z, .z, .z, .z, .z, .z, .z, .z, .z, .z, .z, .z, .z, .z, .z, .z, .z, .z, .z, .z, .z, .z, .z, .z, .z, .z, .z, .z, .z, .z, .z, .z, .z, .z, .z, .z, .z, .z, .z, .z, .z, .z, .z, .z, .z, .z, .z, .z, .z, .z]
def aw15_m0 : Mem := [.c [.i 4, .w 1, .i 2, .w 2, .i 3, .i 200, .i 1, .i 500, .r 3 0, .r 5 0, .r 7 0, .r 9 0, .nl 19],
  .w 146 7 [[.n 3, .n 2, .n 10, .l 2 [[.n 1, .n 3], [.n 2, .n 1]], .n 2, .n 3, .n 5], [.n 4, .n 1, .n 7, .l 2 [[.n 3, .n 2]], .n 0, .n 0, .n 3]],
  .w 152 4 [[.n 1, .n 1, .n 1, .n 1000], [.n 1, .n 1, .n 0, .n 0]],
  .c [.w 4, .i 562],
  .w 191 5 [[.n 0, .n 0, .n 0, .n 0, .n 0], [.n 1, .n 0, .n 0, .n 0, .n 60], [.n 2, .n 0, .n 0, .n 0, .n 500], [.n 3, .n 0, .n 0, .n 0, .n 2]],
  .c [.w 6, .n .i64 33 [0, 120, 80, 40, 0, 0, 0, 0, 0, 0, 0, 0, 0, 0, 0, 0, 0, 0, 0, 0, 0, 0, 0, 0, 0, 0, 0, 0, 0, 0, 0, 0, 0]],
  .w 191 5 [[.n 1, .n 0, .n 1, .n 1, .n 60], [.n 1, .n 0, .n 1, .n 2, .n 40], [.n 1, .n 0, .n 1, .n 3, .n 20], [.n 2, .n 0, .n 1, .n 1, .n 60], [.n 2, .n 0, .n 1, .n 2, .n 40], [.n 2, .n 0, .n 1, .n 3, .n 20]],
  .c [.nl 3, .m 8, .i 256, .i 1],
  .p .n 1 false [],
  .c [.nl 4, .nm],
  .c [.r 0 0, .r 3 0, .r 5 0, .r 7 0, .r 9 0]]
theorem aw15_0 : evK Tryz.prog (speWhole whp) (List.range 600) 300 60 2 (dropK 0 (bodyOf Tryz.f15)) (frame0F Tryz.prog Tryz.f15 []) (([] : Mem)) = some (aw15_t0, aw15_m0) := by kernel_rfl
noncomputable def aw15_t1 : Fr := Fr.of [.u (.b false), .r 10 0, .u (.b true), .i 1, .i 0, .z, .z, .z, .z, .z, .z, .z, .z, .z, .t [.a [.r 0 0, .r 3 0, .r 5 0, .r 7 0, .r 9 0], .u (.b true)], .t [.a [.r 0 0, .r 3 0, .r 5 0, .r 7 0, .r 9 0], .u (.b true)], .a [.r 0 0, .r 3 0, .r 5 0, .r 7 0, .r 9 0], .u (.b true), .u (.b true), .u (.b false), .t [.i 1, .i 0], .r 10 0, .r 0 0, .a [.i 0, .i 1, .i 2, .i 0, .i 2, .i 0, .i 1, .i 2, .i 100, .i 50, .i 10, .i 20, .i 0, .w 11, .nl 2, .i 0, .i 0, .i 0, .i 0], .t [.i 1, .i 0], .i 1, .i 0, .z, .z, .z, .z, .z, .z, .z, .z, .z, .z, .z, .z, .z, .z, .z, .z, .z, .z, .z, .z, .z, .z, .z, .z, .z, .z, .z, .z, .z, .z, .z, .z, .z, .z, .z, .z, .z, .z, .z, .z, .z, .z, .z, .z, .z, .z, .z, .z, .z, .z, .z, .z, .z, .z, .z, .z, .z, .z, .z, .z, .z, .z, .z, .z, .z, .z, .z, .z, .z, .z, .z, .z, .z, .z, .z, .z, .z, .z, .z, .z, .z, .z, .z, .z, .z, .z, .z, .z, .z, .z, .z, .z]
def aw15_m1 : Mem := [.c [.i 4, .w 1, .i 2, .w 2, .i 3, .i 200, .i 1, .i 500, .r 3 0, .r 5 0, .r 7 0, .r 9 0, .w 12],
  .w 146 7 [[.n 3, .n 2, .n 10, .l 2 [[.n 1, .n 3], [.n 2, .n 1]], .n 2, .n 3, .n 5], [.n 4, .n 1, .n 7, .l 2 [[.n 3, .n 2]], .n 0, .n 0, .n 3]],
  .w 152 4 [[.n 1, .n 1, .n 1, .n 1000], [.n 1, .n 1, .n 0, .n 0]],
  .c [.w 13, .i 562],
  .w 191 5 [[.n 0, .n 0, .n 0, .n 0, .n 0], [.n 1, .n 0, .n 0, .n 0, .n 60], [.n 2, .n 0, .n 0, .n 0, .n 500], [.n 3, .n 0, .n 0, .n 0, .n 2]],
  .c [.w 14, .n .i64 33 [0, 120, 80, 40, 0, 0, 0, 0, 0, 0, 0, 0, 0, 0, 0, 0, 0, 0, 0, 0, 0, 0, 0, 0, 0, 0, 0, 0, 0, 0, 0, 0, 0]],
  .w 191 5 [[.n 1, .n 0, .n 1, .n 1, .n 60], [.n 1, .n 0, .n 1, .n 2, .n 40], [.n 1, .n 0, .n 1, .n 3, .n 20], [.n 2, .n 0, .n 1, .n 1, .n 60], [.n 2, .n 0, .n 1, .n 2, .n 40], [.n 2, .n 0, .n 1, .n 3, .n 20]],
  .c [.w 15, .m 8, .i 256, .i 2],
  .p .n 1 false [(.n 1, [.n 0])],
  .c [.nl 4, .nm],
  .c [.r 0 0, .r 3 0, .r 5 0, .r 7 0, .r 9 0],
  .w 106 2 [[.n 1, .n 5]],
  .w 33 19 [[.n 1, .n 1, .n 2, .n 0, .n 2, .n 0, .n 1, .n 2, .n 100, .n 50, .n 10, .n 20, .n 3, .l 2 [[.n 1, .n 5]], .l 2 [], .n 1, .n 10, .n 0, .n 0]],
  .w 191 5 [[.n 0, .n 0, .n 0, .n 0, .n 3], [.n 1, .n 0, .n 0, .n 0, .n 60], [.n 2, .n 0, .n 0, .n 0, .n 397], [.n 3, .n 0, .n 0, .n 0, .n 2], [.n 2097153, .n 0, .n 0, .n 0, .n 100]],
  .w 191 5 [[.n 1, .n 0, .n 1, .n 1, .n 60], [.n 1, .n 0, .n 1, .n 2, .n 40], [.n 1, .n 0, .n 1, .n 3, .n 20], [.n 2, .n 0, .n 1, .n 1, .n 55], [.n 2, .n 0, .n 1, .n 2, .n 40], [.n 2, .n 0, .n 1, .n 3, .n 20], [.n 2097153, .n 0, .n 1, .n 1, .n 5]],
  .w 136 3 [[.n 10, .n 1, .n 3]]]
theorem aw15_1 : evK Tryz.prog (speWhole whp) (List.range 600) 300 60 2 (dropK 2 (bodyOf Tryz.f15)) (aw15_t0) (aw15_m0) = some (aw15_t1, aw15_m1) := by kernel_rfl
noncomputable def aw15_t2 : Fr := Fr.of [.u (.b false), .r 10 0, .u (.b true), .i 1, .i 0, .i 0, .i 10, .i 0, .z, .z, .z, .z, .z, .z, .t [.a [.r 0 0, .r 3 0, .r 5 0, .r 7 0, .r 9 0], .u (.b true)], .t [.a [.r 0 0, .r 3 0, .r 5 0, .r 7 0, .r 9 0], .u (.b true)], .a [.r 0 0, .r 3 0, .r 5 0, .r 7 0, .r 9 0], .u (.b true), .u (.b true), .u (.b false), .t [.i 1, .i 0], .r 10 0, .r 0 0, .a [.i 0, .i 1, .i 2, .i 0, .i 2, .i 0, .i 1, .i 2, .i 100, .i 50, .i 10, .i 20, .i 0, .w 11, .nl 2, .i 0, .i 0, .i 0, .i 0], .t [.i 1, .i 0], .i 1, .i 0, .r 10 0, .r 0 0, .i 0, .t [.i 10, .i 0], .r 10 1, .r 3 0, .t [.i 10, .i 0], .i 10, .i 0, .z, .z, .z, .z, .z, .z, .z, .z, .z, .z, .z, .z, .z, .z, .z, .z, .z, .z, .z, .z, .z, .z, .z, .z, .z, .z, .z, .z, .z, .z, .z, .z, .z, .z, .z, .z, .z, .z, .z, .z, .z, .z, .z, .z, .z, .z, .z, .z, .z, .z, .z, .z, .z, .z, .z, .z, .z, .z, .z, .z, .z, .z, .z, .z, .z, .z, .z, .z, .z, .z, .z, .z, .z, .z, .z, .z, .z, .z, .z, .z, .z, .z, .z]
def aw15_m2 : Mem := [.c [.i 4, .w 1, .i 2, .w 2, .i 3, .i 200, .i 1, .i 500, .r 3 0, .r 5 0, .r 7 0, .r 9 0, .w 12],
  .w 146 7 [[.n 3, .n 2, .n 10, .l 2 [[.n 1, .n 3], [.n 2, .n 1]], .n 2, .n 3, .n 5], [.n 4, .n 1, .n 7, .l 2 [[.n 3, .n 2]], .n 0, .n 0, .n 3]],
  .w 152 4 [[.n 1, .n 1, .n 1, .n 1000], [.n 1, .n 1, .n 0, .n 0]],
  .c [.w 16, .i 562],
  .w 191 5 [[.n 0, .n 0, .n 0, .n 0, .n 0], [.n 1, .n 0, .n 0, .n 0, .n 60], [.n 2, .n 0, .n 0, .n 0, .n 500], [.n 3, .n 0, .n 0, .n 0, .n 2]],
  .c [.w 14, .n .i64 33 [0, 120, 80, 40, 0, 0, 0, 0, 0, 0, 0, 0, 0, 0, 0, 0, 0, 0, 0, 0, 0, 0, 0, 0, 0, 0, 0, 0, 0, 0, 0, 0, 0]],
  .w 191 5 [[.n 1, .n 0, .n 1, .n 1, .n 60], [.n 1, .n 0, .n 1, .n 2, .n 40], [.n 1, .n 0, .n 1, .n 3, .n 20], [.n 2, .n 0, .n 1, .n 1, .n 60], [.n 2, .n 0, .n 1, .n 2, .n 40], [.n 2, .n 0, .n 1, .n 3, .n 20]],
  .c [.w 17, .m 8, .i 256, .i 3],
  .p .n 1 false [(.n 2, [.n 0])],
  .c [.nl 4, .nm],
  .c [.r 0 0, .r 3 0, .r 5 0, .r 7 0, .r 9 0],
  .w 106 2 [[.n 1, .n 5]],
  .w 33 19 [[.n 1, .n 1, .n 2, .n 0, .n 2, .n 0, .n 1, .n 2, .n 100, .n 50, .n 10, .n 20, .n 3, .l 2 [[.n 1, .n 5]], .l 2 [], .n 2, .n 23, .n 1, .n 0]],
  .w 191 5 [[.n 0, .n 0, .n 0, .n 0, .n 3], [.n 1, .n 0, .n 0, .n 0, .n 60], [.n 2, .n 0, .n 0, .n 0, .n 397], [.n 3, .n 0, .n 0, .n 0, .n 2], [.n 2097153, .n 0, .n 0, .n 0, .n 100]],
  .w 191 5 [[.n 1, .n 0, .n 1, .n 1, .n 60], [.n 1, .n 0, .n 1, .n 2, .n 40], [.n 1, .n 0, .n 1, .n 3, .n 20], [.n 2, .n 0, .n 1, .n 1, .n 55], [.n 2, .n 0, .n 1, .n 2, .n 40], [.n 2, .n 0, .n 1, .n 3, .n 20], [.n 2097153, .n 0, .n 1, .n 1, .n 5]],
  .x,
  .w 191 5 [[.n 0, .n 0, .n 0, .n 0, .n 3], [.n 1, .n 0, .n 0, .n 0, .n 10], [.n 2, .n 0, .n 0, .n 0, .n 397], [.n 3, .n 0, .n 0, .n 0, .n 2], [.n 2097153, .n 0, .n 0, .n 0, .n 150]],
  .w 136 3 [[.n 23, .n 2, .n 3]]]
theorem aw15_2 : evK Tryz.prog (speWhole whp) (List.range 600) 300 60 2 (dropK 4 (bodyOf Tryz.f15)) (aw15_t1) (aw15_m1) = some (aw15_t2, aw15_m2) := by kernel_rfl
noncomputable def aw15_t3 : Fr := Fr.of [.u (.b false), .r 10 0, .u (.b true), .i 1, .i 0, .i 0, .i 10, .i 0, .i 0, .i 160, .i 0, .z, .z, .z, .t [.a [.r 0 0, .r 3 0, .r 5 0, .r 7 0, .r 9 0], .u (.b true)], .t [.a [.r 0 0, .r 3 0, .r 5 0, .r 7 0, .r 9 0], .u (.b true)], .a [.r 0 0, .r 3 0, .r 5 0, .r 7 0, .r 9 0], .u (.b true), .u (.b true), .u (.b false), .t [.i 1, .i 0], .r 10 0, .r 0 0, .a [.i 0, .i 1, .i 2, .i 0, .i 2, .i 0, .i 1, .i 2, .i 100, .i 50, .i 10, .i 20, .i 0, .w 11, .nl 2, .i 0, .i 0, .i 0, .i 0], .t [.i 1, .i 0], .i 1, .i 0, .r 10 0, .r 0 0, .i 0, .t [.i 10, .i 0], .r 10 1, .r 3 0, .t [.i 10, .i 0], .i 10, .i 0, .r 10 0, .r 0 0, .i 0, .t [.i 160, .i 0], .r 10 1, .r 3 0, .t [.i 160, .i 0], .i 160, .i 0, .z, .z, .z, .z, .z, .z, .z, .z, .z, .z, .z, .z, .z, .z, .z, .z, .z, .z, .z, .z, .z, .z, .z, .z, .z, .z, .z, .z, .z, .z, .z, .z, .z, .z, .z, .z, .z, .z, .z, .z, .z, .z, .z, .z, .z, .z, .z, .z, .z, .z, .z, .z, .z, .z, .z, .z, .z, .z, .z, .z, .z, .z, .z, .z, .z, .z, .z, .z, .z, .z, .z, .z, .z, .z]
def aw15_m3 : Mem := [.c [.i 4, .w 1, .i 2, .w 2, .i 3, .i 200, .i 1, .i 500, .r 3 0, .r 5 0, .r 7 0, .r 9 0, .w 12],
  .w 146 7 [[.n 3, .n 2, .n 10, .l 2 [[.n 1, .n 3], [.n 2, .n 1]], .n 2, .n 3, .n 5], [.n 4, .n 1, .n 7, .l 2 [[.n 3, .n 2]], .n 0, .n 0, .n 3]],
  .w 152 4 [[.n 1, .n 1, .n 1, .n 1000], [.n 1, .n 1, .n 0, .n 0]],
  .c [.w 18, .i 562],
  .w 191 5 [[.n 0, .n 0, .n 0, .n 0, .n 0], [.n 1, .n 0, .n 0, .n 0, .n 60], [.n 2, .n 0, .n 0, .n 0, .n 500], [.n 3, .n 0, .n 0, .n 0, .n 2]],
  .c [.w 19, .n .i64 33 [0, 120, 80, 40, 0, 0, 0, 0, 0, 0, 0, 0, 0, 0, 0, 0, 0, 0, 0, 0, 0, 0, 0, 0, 0, 0, 0, 0, 0, 0, 0, 0, 0]],
  .w 191 5 [[.n 1, .n 0, .n 1, .n 1, .n 60], [.n 1, .n 0, .n 1, .n 2, .n 40], [.n 1, .n 0, .n 1, .n 3, .n 20], [.n 2, .n 0, .n 1, .n 1, .n 60], [.n 2, .n 0, .n 1, .n 2, .n 40], [.n 2, .n 0, .n 1, .n 3, .n 20]],
  .c [.v 17 3 0 0 false, .m 8, .i 256, .i 3],
  .p .n 1 false [],
  .c [.w 20, .m 21],
  .c [.r 0 0, .r 3 0, .r 5 0, .r 7 0, .r 9 0],
  .w 106 2 [[.n 1, .n 5]],
  .w 33 19 [[.n 1, .n 1, .n 2, .n 0, .n 2, .n 0, .n 1, .n 2, .n 100, .n 50, .n 10, .n 20, .n 3, .l 2 [[.n 1, .n 5]], .l 2 [], .n 3, .n 0, .n 1, .n 0]],
  .w 191 5 [[.n 0, .n 0, .n 0, .n 0, .n 3], [.n 1, .n 0, .n 0, .n 0, .n 60], [.n 2, .n 0, .n 0, .n 0, .n 397], [.n 3, .n 0, .n 0, .n 0, .n 2], [.n 2097153, .n 0, .n 0, .n 0, .n 100]],
  .w 191 5 [[.n 1, .n 0, .n 1, .n 1, .n 60], [.n 1, .n 0, .n 1, .n 2, .n 40], [.n 1, .n 0, .n 1, .n 3, .n 20], [.n 2, .n 0, .n 1, .n 1, .n 55], [.n 2, .n 0, .n 1, .n 2, .n 40], [.n 2, .n 0, .n 1, .n 3, .n 20], [.n 2097153, .n 0, .n 1, .n 1, .n 5]],
  .x,
  .w 191 5 [[.n 0, .n 0, .n 0, .n 0, .n 3], [.n 1, .n 0, .n 0, .n 0, .n 10], [.n 2, .n 0, .n 0, .n 0, .n 397], [.n 3, .n 0, .n 0, .n 0, .n 2], [.n 2097153, .n 0, .n 0, .n 0, .n 150]],
  .w 136 3 [[.n 23, .n 2, .n 3]],
  .w 191 5 [[.n 0, .n 0, .n 0, .n 0, .n 3], [.n 1, .n 0, .n 0, .n 0, .n 160], [.n 2, .n 0, .n 0, .n 0, .n 397], [.n 3, .n 0, .n 0, .n 0, .n 2], [.n 2097153, .n 0, .n 0, .n 0, .n 0]],
  .w 191 5 [[.n 1, .n 0, .n 1, .n 1, .n 60], [.n 1, .n 0, .n 1, .n 2, .n 40], [.n 1, .n 0, .n 1, .n 3, .n 20], [.n 2, .n 0, .n 1, .n 1, .n 55], [.n 2, .n 0, .n 1, .n 2, .n 40], [.n 2, .n 0, .n 1, .n 3, .n 20], [.n 2, .n 0, .n 2, .n 1, .n 5]],
  .w 54 4 [[.n 9, .n 2, .n 1, .n 3]],
  .p (.a 2) 1 false [(.a [2, 1], [.n 0])]]
theorem aw15_3 : evK Tryz.prog (speWhole whp) (List.range 600) 300 60 2 (dropK 6 (bodyOf Tryz.f15)) (aw15_t2) (aw15_m2) = some (aw15_t3, aw15_m3) := by kernel_rfl
noncomputable def aw15_t4 : Fr := Fr.of [.u (.b false), .r 10 0, .u (.b true), .i 1, .i 0, .i 0, .i 10, .i 0, .i 0, .i 160, .i 0, .i 2, .i 0, .z, .t [.a [.r 0 0, .r 3 0, .r 5 0, .r 7 0, .r 9 0], .u (.b true)], .t [.a [.r 0 0, .r 3 0, .r 5 0, .r 7 0, .r 9 0], .u (.b true)], .a [.r 0 0, .r 3 0, .r 5 0, .r 7 0, .r 9 0], .u (.b true), .u (.b true), .u (.b false), .t [.i 1, .i 0], .r 10 0, .r 0 0, .a [.i 0, .i 1, .i 2, .i 0, .i 2, .i 0, .i 1, .i 2, .i 100, .i 50, .i 10, .i 20, .i 0, .w 11, .nl 2, .i 0, .i 0, .i 0, .i 0], .t [.i 1, .i 0], .i 1, .i 0, .r 10 0, .r 0 0, .i 0, .t [.i 10, .i 0], .r 10 1, .r 3 0, .t [.i 10, .i 0], .i 10, .i 0, .r 10 0, .r 0 0, .i 0, .t [.i 160, .i 0], .r 10 1, .r 3 0, .t [.i 160, .i 0], .i 160, .i 0, .t [.i 2, .i 0], .r 10 0, .r 0 0, .a [.i 0, .i 1, .i 2, .i 0, .i 2, .i 0, .i 1, .i 2, .i 100, .i 50, .i 10, .i 20, .i 0, .w 22, .nl 2, .i 0, .i 0, .i 0, .i 0], .t [.i 2, .i 0], .i 2, .i 0, .z, .z, .z, .z, .z, .z, .z, .z, .z, .z, .z, .z, .z, .z, .z, .z, .z, .z, .z, .z, .z, .z, .z, .z, .z, .z, .z, .z, .z, .z, .z, .z, .z, .z, .z, .z, .z, .z, .z, .z, .z, .z, .z, .z, .z, .z, .z, .z, .z, .z, .z, .z, .z, .z, .z, .z, .z, .z, .z, .z, .z, .z, .z, .z, .z, .z, .z]
def aw15_m4 : Mem := [.c [.i 4, .w 1, .i 2, .w 2, .i 3, .i 200, .i 1, .i 500, .r 3 0, .r 5 0, .r 7 0, .r 9 0, .w 23],
  .w 146 7 [[.n 3, .n 2, .n 10, .l 2 [[.n 1, .n 3], [.n 2, .n 1]], .n 2, .n 3, .n 5], [.n 4, .n 1, .n 7, .l 2 [[.n 3, .n 2]], .n 0, .n 0, .n 3]],
  .w 152 4 [[.n 1, .n 1, .n 1, .n 1000], [.n 1, .n 1, .n 0, .n 0]],
  .c [.w 24, .i 562],
  .w 191 5 [[.n 0, .n 0, .n 0, .n 0, .n 0], [.n 1, .n 0, .n 0, .n 0, .n 60], [.n 2, .n 0, .n 0, .n 0, .n 500], [.n 3, .n 0, .n 0, .n 0, .n 2]],
  .c [.w 25, .n .i64 33 [0, 120, 80, 40, 0, 0, 0, 0, 0, 0, 0, 0, 0, 0, 0, 0, 0, 0, 0, 0, 0, 0, 0, 0, 0, 0, 0, 0, 0, 0, 0, 0, 0]],
  .w 191 5 [[.n 1, .n 0, .n 1, .n 1, .n 60], [.n 1, .n 0, .n 1, .n 2, .n 40], [.n 1, .n 0, .n 1, .n 3, .n 20], [.n 2, .n 0, .n 1, .n 1, .n 60], [.n 2, .n 0, .n 1, .n 2, .n 40], [.n 2, .n 0, .n 1, .n 3, .n 20]],
  .c [.w 26, .m 8, .i 256, .i 4],
  .p .n 1 false [(.n 3, [.n 0])],
  .c [.w 20, .m 21],
  .c [.r 0 0, .r 3 0, .r 5 0, .r 7 0, .r 9 0],
  .w 106 2 [[.n 1, .n 5]],
  .x,
  .w 191 5 [[.n 0, .n 0, .n 0, .n 0, .n 3], [.n 1, .n 0, .n 0, .n 0, .n 60], [.n 2, .n 0, .n 0, .n 0, .n 397], [.n 3, .n 0, .n 0, .n 0, .n 2], [.n 2097153, .n 0, .n 0, .n 0, .n 100]],
  .w 191 5 [[.n 1, .n 0, .n 1, .n 1, .n 60], [.n 1, .n 0, .n 1, .n 2, .n 40], [.n 1, .n 0, .n 1, .n 3, .n 20], [.n 2, .n 0, .n 1, .n 1, .n 55], [.n 2, .n 0, .n 1, .n 2, .n 40], [.n 2, .n 0, .n 1, .n 3, .n 20], [.n 2097153, .n 0, .n 1, .n 1, .n 5]],
  .x,
  .w 191 5 [[.n 0, .n 0, .n 0, .n 0, .n 3], [.n 1, .n 0, .n 0, .n 0, .n 10], [.n 2, .n 0, .n 0, .n 0, .n 397], [.n 3, .n 0, .n 0, .n 0, .n 2], [.n 2097153, .n 0, .n 0, .n 0, .n 150]],
  .x,
  .w 191 5 [[.n 0, .n 0, .n 0, .n 0, .n 3], [.n 1, .n 0, .n 0, .n 0, .n 160], [.n 2, .n 0, .n 0, .n 0, .n 397], [.n 3, .n 0, .n 0, .n 0, .n 2], [.n 2097153, .n 0, .n 0, .n 0, .n 0]],
  .w 191 5 [[.n 1, .n 0, .n 1, .n 1, .n 60], [.n 1, .n 0, .n 1, .n 2, .n 40], [.n 1, .n 0, .n 1, .n 3, .n 20], [.n 2, .n 0, .n 1, .n 1, .n 55], [.n 2, .n 0, .n 1, .n 2, .n 40], [.n 2, .n 0, .n 1, .n 3, .n 20], [.n 2, .n 0, .n 2, .n 1, .n 5]],
  .w 54 4 [[.n 9, .n 2, .n 1, .n 3]],
  .p (.a 2) 1 false [(.a [2, 1], [.n 0])],
  .w 106 2 [[.n 1, .n 5]],
  .w 33 19 [[.n 1, .n 1, .n 2, .n 0, .n 2, .n 0, .n 1, .n 2, .n 100, .n 50, .n 10, .n 20, .n 3, .l 2 [[.n 1, .n 5]], .l 2 [], .n 3, .n 0, .n 1, .n 0], [.n 2, .n 1, .n 2, .n 0, .n 2, .n 0, .n 1, .n 2, .n 100, .n 50, .n 10, .n 20, .n 3, .l 2 [[.n 1, .n 5]], .l 2 [], .n 1, .n 19, .n 0, .n 0]],
  .w 191 5 [[.n 0, .n 0, .n 0, .n 0, .n 6], [.n 1, .n 0, .n 0, .n 0, .n 160], [.n 2, .n 0, .n 0, .n 0, .n 294], [.n 3, .n 0, .n 0, .n 0, .n 2], [.n 2097153, .n 0, .n 0, .n 0, .n 0], [.n 2097154, .n 0, .n 0, .n 0, .n 100]],
  .w 191 5 [[.n 1, .n 0, .n 1, .n 1, .n 60], [.n 1, .n 0, .n 1, .n 2, .n 40], [.n 1, .n 0, .n 1, .n 3, .n 20], [.n 2, .n 0, .n 1, .n 1, .n 50], [.n 2, .n 0, .n 1, .n 2, .n 40], [.n 2, .n 0, .n 1, .n 3, .n 20], [.n 2, .n 0, .n 2, .n 1, .n 5], [.n 2097154, .n 0, .n 1, .n 1, .n 5]],
  .w 136 3 [[.n 19, .n 3, .n 5]]]
theorem aw15_4 : evK Tryz.prog (speWhole whp) (List.range 600) 300 60 1 (dropK 8 (bodyOf Tryz.f15)) (aw15_t3) (aw15_m3) = some (aw15_t4, aw15_m4) := by kernel_rfl
noncomputable def aw15_t5 : Fr := Fr.of [.u (.b false), .r 10 0, .u (.b true), .i 1, .i 0, .i 0, .i 10, .i 0, .i 0, .i 160, .i 0, .i 2, .i 0, .z, .t [.a [.r 0 0, .r 3 0, .r 5 0, .r 7 0, .r 9 0], .u (.b true)], .t [.a [.r 0 0, .r 3 0, .r 5 0, .r 7 0, .r 9 0], .u (.b true)], .a [.r 0 0, .r 3 0, .r 5 0, .r 7 0, .r 9 0], .u (.b true), .u (.b true), .u (.b false), .t [.i 1, .i 0], .r 10 0, .r 0 0, .a [.i 0, .i 1, .i 2, .i 0, .i 2, .i 0, .i 1, .i 2, .i 100, .i 50, .i 10, .i 20, .i 0, .w 11, .nl 2, .i 0, .i 0, .i 0, .i 0], .t [.i 1, .i 0], .i 1, .i 0, .r 10 0, .r 0 0, .i 0, .t [.i 10, .i 0], .r 10 1, .r 3 0, .t [.i 10, .i 0], .i 10, .i 0, .r 10 0, .r 0 0, .i 0, .t [.i 160, .i 0], .r 10 1, .r 3 0, .t [.i 160, .i 0], .i 160, .i 0, .t [.i 2, .i 0], .r 10 0, .r 0 0, .a [.i 0, .i 1, .i 2, .i 0, .i 2, .i 0, .i 1, .i 2, .i 100, .i 50, .i 10, .i 20, .i 0, .w 22, .nl 2, .i 0, .i 0, .i 0, .i 0], .t [.i 2, .i 0], .i 2, .i 0, .a [.r 0 0, .r 3 0, .r 5 0, .r 7 0, .r 9 0], .a [.i 0, .i 0, .i 10, .i 0, .i 0, .i 0, .i 0, .i 0, .i 0, .i 0, .i 0, .i 0, .i 0, .i 0, .i 0, .i 0, .i 0, .nl 2, .nl 2, .i 0, .i 0, .i 0, .i 0], .t [.i 19, .i 0, .i 0], .z, .z, .z, .z, .z, .z, .z, .z, .z, .z, .z, .z, .z, .z, .z, .z, .z, .z, .z, .z, .z, .z, .z, .z, .z, .z, .z, .z, .z, .z, .z, .z, .z, .z, .z, .z, .z, .z, .z, .z, .z, .z, .z, .z, .z, .z, .z, .z, .z, .z, .z, .z, .z, .z, .z, .z, .z, .z, .z, .z, .z, .z, .z, .z]
def aw15_m5 : Mem := [.c [.i 4, .w 1, .i 2, .w 2, .i 3, .i 200, .i 1, .i 500, .r 3 0, .r 5 0, .r 7 0, .r 9 0, .w 23],
  .w 146 7 [[.n 3, .n 2, .n 10, .l 2 [[.n 1, .n 3], [.n 2, .n 1]], .n 2, .n 3, .n 5], [.n 4, .n 1, .n 7, .l 2 [[.n 3, .n 2]], .n 0, .n 0, .n 3]],
  .w 152 4 [[.n 1, .n 1, .n 1, .n 1000], [.n 1, .n 1, .n 0, .n 0]],
  .c [.w 27, .i 562],
  .w 191 5 [[.n 0, .n 0, .n 0, .n 0, .n 0], [.n 1, .n 0, .n 0, .n 0, .n 60], [.n 2, .n 0, .n 0, .n 0, .n 500], [.n 3, .n 0, .n 0, .n 0, .n 2]],
  .c [.w 28, .n .i64 33 [0, 120, 80, 40, 0, 0, 0, 0, 0, 0, 0, 0, 0, 0, 0, 0, 0, 0, 0, 0, 0, 0, 0, 0, 0, 0, 0, 0, 0, 0, 0, 0, 0]],
  .w 191 5 [[.n 1, .n 0, .n 1, .n 1, .n 60], [.n 1, .n 0, .n 1, .n 2, .n 40], [.n 1, .n 0, .n 1, .n 3, .n 20], [.n 2, .n 0, .n 1, .n 1, .n 60], [.n 2, .n 0, .n 1, .n 2, .n 40], [.n 2, .n 0, .n 1, .n 3, .n 20]],
  .c [.v 26 3 0 0 false, .m 8, .i 256, .i 4],
  .p .n 1 false [],
  .c [.w 29, .m 21],
  .c [.r 0 0, .r 3 0, .r 5 0, .r 7 0, .r 9 0],
  .w 106 2 [[.n 1, .n 5]],
  .x,
  .w 191 5 [[.n 0, .n 0, .n 0, .n 0, .n 3], [.n 1, .n 0, .n 0, .n 0, .n 60], [.n 2, .n 0, .n 0, .n 0, .n 397], [.n 3, .n 0, .n 0, .n 0, .n 2], [.n 2097153, .n 0, .n 0, .n 0, .n 100]],
  .w 191 5 [[.n 1, .n 0, .n 1, .n 1, .n 60], [.n 1, .n 0, .n 1, .n 2, .n 40], [.n 1, .n 0, .n 1, .n 3, .n 20], [.n 2, .n 0, .n 1, .n 1, .n 55], [.n 2, .n 0, .n 1, .n 2, .n 40], [.n 2, .n 0, .n 1, .n 3, .n 20], [.n 2097153, .n 0, .n 1, .n 1, .n 5]],
  .x,
  .w 191 5 [[.n 0, .n 0, .n 0, .n 0, .n 3], [.n 1, .n 0, .n 0, .n 0, .n 10], [.n 2, .n 0, .n 0, .n 0, .n 397], [.n 3, .n 0, .n 0, .n 0, .n 2], [.n 2097153, .n 0, .n 0, .n 0, .n 150]],
  .x,
  .w 191 5 [[.n 0, .n 0, .n 0, .n 0, .n 3], [.n 1, .n 0, .n 0, .n 0, .n 160], [.n 2, .n 0, .n 0, .n 0, .n 397], [.n 3, .n 0, .n 0, .n 0, .n 2], [.n 2097153, .n 0, .n 0, .n 0, .n 0]],
  .w 191 5 [[.n 1, .n 0, .n 1, .n 1, .n 60], [.n 1, .n 0, .n 1, .n 2, .n 40], [.n 1, .n 0, .n 1, .n 3, .n 20], [.n 2, .n 0, .n 1, .n 1, .n 55], [.n 2, .n 0, .n 1, .n 2, .n 40], [.n 2, .n 0, .n 1, .n 3, .n 20], [.n 2, .n 0, .n 2, .n 1, .n 5]],
  .x,
  .p (.a 2) 1 false [(.a [2, 1], [.n 0]), (.a [2, 2], [.n 1])],
  .w 106 2 [[.n 1, .n 5]],
  .w 33 19 [[.n 1, .n 1, .n 2, .n 0, .n 2, .n 0, .n 1, .n 2, .n 100, .n 50, .n 10, .n 20, .n 3, .l 2 [[.n 1, .n 5]], .l 2 [], .n 3, .n 0, .n 1, .n 0], [.n 2, .n 1, .n 2, .n 0, .n 2, .n 0, .n 1, .n 2, .n 100, .n 50, .n 10, .n 20, .n 3, .l 2 [[.n 1, .n 5]], .l 2 [], .n 7, .n 0, .n 0, .n 0]],
  .w 191 5 [[.n 0, .n 0, .n 0, .n 0, .n 6], [.n 1, .n 0, .n 0, .n 0, .n 160], [.n 2, .n 0, .n 0, .n 0, .n 294], [.n 3, .n 0, .n 0, .n 0, .n 2], [.n 2097153, .n 0, .n 0, .n 0, .n 0], [.n 2097154, .n 0, .n 0, .n 0, .n 100]],
  .w 191 5 [[.n 1, .n 0, .n 1, .n 1, .n 60], [.n 1, .n 0, .n 1, .n 2, .n 40], [.n 1, .n 0, .n 1, .n 3, .n 20], [.n 2, .n 0, .n 1, .n 1, .n 50], [.n 2, .n 0, .n 1, .n 2, .n 40], [.n 2, .n 0, .n 1, .n 3, .n 20], [.n 2, .n 0, .n 2, .n 1, .n 5], [.n 2097154, .n 0, .n 1, .n 1, .n 5]],
  .w 136 3 [[.n 19, .n 3, .n 5]],
  .w 191 5 [[.n 0, .n 0, .n 0, .n 0, .n 6], [.n 1, .n 0, .n 0, .n 0, .n 160], [.n 2, .n 0, .n 0, .n 0, .n 394], [.n 3, .n 0, .n 0, .n 0, .n 2], [.n 2097153, .n 0, .n 0, .n 0, .n 0], [.n 2097154, .n 0, .n 0, .n 0, .n 0]],
  .w 191 5 [[.n 1, .n 0, .n 1, .n 1, .n 60], [.n 1, .n 0, .n 1, .n 2, .n 40], [.n 1, .n 0, .n 1, .n 3, .n 20], [.n 2, .n 0, .n 1, .n 1, .n 55], [.n 2, .n 0, .n 1, .n 2, .n 40], [.n 2, .n 0, .n 1, .n 3, .n 20], [.n 2, .n 0, .n 2, .n 1, .n 5]],
  .w 54 4 [[.n 9, .n 2, .n 1, .n 3], [.n 19, .n 2, .n 2, .n 7]]]
theorem aw15_5 : evK Tryz.prog (speWhole whp) (List.range 600) 300 60 1 (dropK 9 (bodyOf Tryz.f15)) (aw15_t4) (aw15_m4) = some (aw15_t5, aw15_m5) := by kernel_rfl
theorem aw15_6 : endK Tryz.prog Tryz.f15 [] (CodeE Tryz.prog (speWhole whp) (List.range 600) 300 60 (dropK 10 (bodyOf Tryz.f15)) (aw15_t5) (aw15_m5)) = some (.u (.b true), []) := by kernel_rfl
theorem aw15_c0 : CodeE Tryz.prog (speWhole whp) (List.range 600) 300 60 (dropK 0 (bodyOf Tryz.f15)) (frame0F Tryz.prog Tryz.f15 []) (([] : Mem)) = CodeE Tryz.prog (speWhole whp) (List.range 600) 300 60 (dropK 2 (bodyOf Tryz.f15)) aw15_t0 aw15_m0 := evK_chain aw15_0
theorem aw15_c1 : CodeE Tryz.prog (speWhole whp) (List.range 600) 300 60 (dropK 2 (bodyOf Tryz.f15)) (aw15_t0) (aw15_m0) = CodeE Tryz.prog (speWhole whp) (List.range 600) 300 60 (dropK 4 (bodyOf Tryz.f15)) aw15_t1 aw15_m1 := evK_chain aw15_1
theorem aw15_c2 : CodeE Tryz.prog (speWhole whp) (List.range 600) 300 60 (dropK 4 (bodyOf Tryz.f15)) (aw15_t1) (aw15_m1) = CodeE Tryz.prog (speWhole whp) (List.range 600) 300 60 (dropK 6 (bodyOf Tryz.f15)) aw15_t2 aw15_m2 := evK_chain aw15_2
theorem aw15_c3 : CodeE Tryz.prog (speWhole whp) (List.range 600) 300 60 (dropK 6 (bodyOf Tryz.f15)) (aw15_t2) (aw15_m2) = CodeE Tryz.prog (speWhole whp) (List.range 600) 300 60 (dropK 8 (bodyOf Tryz.f15)) aw15_t3 aw15_m3 := evK_chain aw15_3
theorem aw15_c4 : CodeE Tryz.prog (speWhole whp) (List.range 600) 300 60 (dropK 8 (bodyOf Tryz.f15)) (aw15_t3) (aw15_m3) = CodeE Tryz.prog (speWhole whp) (List.range 600) 300 60 (dropK 9 (bodyOf Tryz.f15)) aw15_t4 aw15_m4 := evK_chain aw15_4
theorem aw15_c5 : CodeE Tryz.prog (speWhole whp) (List.range 600) 300 60 (dropK 9 (bodyOf Tryz.f15)) (aw15_t4) (aw15_m4) = CodeE Tryz.prog (speWhole whp) (List.range 600) 300 60 (dropK 10 (bodyOf Tryz.f15)) aw15_t5 aw15_m5 := evK_chain aw15_5
theorem aw15_run : PRun Tryz.prog 15 [] [] fun x m => x = .u (.b true) ∧ m = [] :=
  evalF (P := Tryz.prog) (by kernel_rfl) (speWhole whp) (r := (.u (.b true), [])) (inl := List.range 600) (nl := 300) (n := 61) Tryz.func15 (by kernel_rfl) (funF_of (c := (bodyOf Tryz.f15)) (by kernel_rfl) ((congrArg (endK Tryz.prog Tryz.f15 []) (aw15_c0.trans (aw15_c1.trans (aw15_c2.trans (aw15_c3.trans (aw15_c4.trans aw15_c5)))))).trans aw15_6))
end Go.Proofs.YtalglagdgabafaaGreat

/- A run, piece by piece: printed by program (ez2.py). -/
set_option linter.unusedVariables false
set_option maxRecDepth 1000000
namespace Go.Proofs.YtalglagdgabafaaGreat
open Go Go.Proofs
noncomputable section
structure NbV where
  c1 : Int
  c2 : List (List U)
  c3 : Int
  c4 : List (List U)
  c5 : Int
  c6 : Int
  c7 : Int
  c8 : Int
  a9 : Int
  a10 : Int
  a11 : Int
  a12 : Int
  a13 : Int
  a14 : Int
  a15 : Int
  a16 : Int
  a17 : Int
  a18 : Int
  a19 : Int
  a20 : Int
  a21 : Int
  a22 : Int
  a23 : Int
  a24 : Int
  a25 : Int
  a26 : List (List U)
  a27 : List (List U)
  a28 : Int
  a29 : Int
  a30 : Int
  a31 : Int
  e : Int
structure NbH (v : NbV) (b1 b2 : Bool) (e : Int) (z q : Bool) : Prop where
  hF : PRun Tryz.prog 21 [] [.a [.i v.c1, .u (.l 7 v.c2), .i v.c3, .u (.l 4 v.c4), .i v.c5, .i v.c6, .i v.c7, .i v.c8]] fun x m => x = .u (.b b1) ∧ m = []
  hG : bif b1 then PRun Tryz.prog 16 [.w 46 23 [[.n v.a9, .n v.a10, .n v.a11, .n v.a12, .n v.a13, .n v.a14, .n v.a15, .n v.a16, .n v.a17, .n v.a18, .n v.a19, .n v.a20, .n v.a21, .n v.a22, .n v.a23, .n v.a24, .n v.a25, .l 2 v.a26, .l 2 v.a27, .n v.a28, .n v.a29, .n v.a30, .n v.a31]]] [.w 0, .i 1] fun x m => x = .u (.b b2) ∧ m = [.w 46 23 [[.n v.a9, .n v.a10, .n v.a11, .n v.a12, .n v.a13, .n v.a14, .n v.a15, .n v.a16, .n v.a17, .n v.a18, .n v.a19, .n v.a20, .n v.a21, .n v.a22, .n v.a23, .n v.a24, .n v.a25, .l 2 v.a26, .l 2 v.a27, .n v.a28, .n v.a29, .n v.a30, .n v.a31]]] else True
  hC : bif b1 && b2 then PRun Tryz.prog 73 [] [.a [.i v.c1, .u (.l 7 v.c2), .i v.c3, .u (.l 4 v.c4), .i v.c5, .i v.c6, .i v.c7, .i v.c8]] fun x m => x = .i e ∧ m = [] else True
  hK : bif b1 && b2 then PRun Tryz.prog 24 [] [.a [.i v.c1, .u (.l 7 v.c2), .i v.c3, .u (.l 4 v.c4), .i v.c5, .i v.c6, .i v.c7, .i v.c8]] fun x m => x = .i e ∧ m = [] else True
  he : eqF e 0 = z
noncomputable abbrev nbFev := Ev Tryz.prog (speKn (speWhole whp) [7, 8, 9, 11, 12, 13, 15, 16, 17, 21, 22, 23, 24, 25, 26, 27, 28]) (List.range 600) 300 60 5
noncomputable abbrev nbFevO := EvO Tryz.prog (speKn (speWhole whp) [7, 8, 9, 11, 12, 13, 15, 16, 17, 21, 22, 23, 24, 25, 26, 27, 28]) (List.range 600) 300 60
def nbFT0 (v : NbV) : Fr := frameF Tryz.prog Tryz.f5 [.a [.i v.c1, .u (.l 7 v.c2), .i v.c3, .u (.l 4 v.c4), .i v.c5, .i v.c6, .i v.c7, .i v.c8], .a [.i v.a9, .i v.a10, .i v.a11, .i v.a12, .i v.a13, .i v.a14, .i v.a15, .i v.a16, .i v.a17, .i v.a18, .i v.a19, .i v.a20, .i v.a21, .i v.a22, .i v.a23, .i v.a24, .i v.a25, .u (.l 2 v.a26), .u (.l 2 v.a27), .i v.a28, .i v.a29, .i v.a30, .i v.a31]]
def nbFM0 (v : NbV) : Mem := []
noncomputable abbrev nbFC1 : Code := bodyOf Tryz.f5
def nbFT1 (v : NbV) : Fr := puF (nbFT0 v) [(2, .r 0 0), (3, .r 1 0), (4, .u (.b false))]
def nbFM2 (v : NbV) : Mem := [.c [.i v.c1, .u (.l 7 v.c2), .i v.c3, .u (.l 4 v.c4), .i v.c5, .i v.c6, .i v.c7, .i v.c8],
  .c [.i v.a9, .i v.a10, .i v.a11, .i v.a12, .i v.a13, .i v.a14, .i v.a15, .i v.a16, .i v.a17, .i v.a18, .i v.a19, .i v.a20, .i v.a21, .i v.a22, .i v.a23, .i v.a24, .i v.a25, .u (.l 2 v.a26), .u (.l 2 v.a27), .i v.a28, .i v.a29, .i v.a30, .i v.a31]]
noncomputable abbrev nbFC2 : Code := dropK 1 nbFC1
noncomputable abbrev nbFC3 : Code := cL nbFC2
noncomputable abbrev nbFC4 : Code := cL nbFC3
def nbFT3 (v : NbV) : Fr := puF (nbFT1 v) [(25, .a [.i v.c1, .u (.l 7 v.c2), .i v.c3, .u (.l 4 v.c4), .i v.c5, .i v.c6, .i v.c7, .i v.c8])]
def nbFT4 (v : NbV) : Fr := puF (nbFT3 v) [(26, .u (.b false)), (27, .u (.b true)), (28, .u (.b true)), (29, .t []), (30, .t [])]
def nbFT5 (v : NbV) : Fr := puF (nbFT4 v) [(31, .t []), (32, .t []), (33, .u (.b true))]
theorem nbFn1 (v : NbV) (H : NbH v false false 0 true false) : nbFevO (cOp nbFC4) (((cOp nbFC4).drop 2).drop 5) ((cPut (opAt ((cOp nbFC4).drop 2) 4).dst).p (nbFT4 v) (.t [])) ((nbFM2 v)) [((nbFT5 v), (nbFM2 v))] := EvO.ops (by kernel_rfl)
theorem nbFn2 (v : NbV) (H : NbH v false false 0 true false) : nbFevO (cOp nbFC4) ((cOp nbFC4).drop 2) ((cPut (opAt (cOp nbFC4) 1).dst).p (nbFT3 v) (renV (fK [] ((nbFM2 v)).length) (.u (.b false)))) (backM (nbFM2 v) [] ([])) [((nbFT5 v), (nbFM2 v))] := EvO.not (k := 4) (t1 := (nbFT4 v)) (t2 := (nbFT4 v)) (m1 := (nbFM2 v)) (by kernel_rfl) (by kernel_rfl) (by kernel_rfl) (nbFn1 v H)
theorem nbFn3 (v : NbV) (H : NbH v false false 0 true false) : nbFevO (cOp nbFC4) (cOp nbFC4) ((nbFT1 v)) ((nbFM2 v)) [((nbFT5 v), (nbFM2 v))] := EvO.call (k := 1) (t1 := (nbFT3 v)) (m1 := (nbFM2 v)) (args := [.a [.i v.c1, .u (.l 7 v.c2), .i v.c3, .u (.l 4 v.c4), .i v.c5, .i v.c6, .i v.c7, .i v.c8]]) (a := []) (cc := []) _ (by kernel_rfl) (by kernel_rfl) (by kernel_rfl) (by kernel_rfl) (by kernel_rfl) (by kernel_rfl) (by kernel_rfl) (by decide) (by kernel_rfl) (by kernel_rfl) (by kernel_rfl) H.hF (nbFn2 v H)
theorem nbFn4 (v : NbV) (H : NbH v false false 0 true false) : nbFev nbFC4 (nbFT1 v) (nbFM2 v) [(.nrm, (nbFT5 v), (nbFM2 v))] := Ev.reg (outs := [((nbFT5 v), (nbFM2 v))]) (by kernel_rfl) (by kernel_rfl) (nbFn3 v H)
noncomputable abbrev nbFC5 : Code := cR nbFC3
noncomputable abbrev nbFC6 : Code := cT nbFC5
noncomputable abbrev nbFC7 : Code := cL nbFC6
def nbFT6 (v : NbV) : Fr := puF (nbFT5 v) []
def nbFT7 (v : NbV) : Fr := puF (nbFT5 v) [(4, .u (.b true)), (34, .u (.b true))]
theorem nbFn5 (v : NbV) (H : NbH v false false 0 true false) : nbFevO (cOp nbFC7) ((cOp nbFC7).drop 1) ((cPut (opAt (cOp nbFC7) 0).dst).p (nbFT6 v) (renV (fK [] ((nbFM2 v)).length) (.u (.b true)))) (backM (nbFM2 v) [] ([])) [((nbFT7 v), (nbFM2 v))] := EvO.ops (by kernel_rfl)
theorem nbFn6 (v : NbV) (H : NbH v false false 0 true false) : nbFevO (cOp nbFC7) (cOp nbFC7) ((nbFT5 v)) ((nbFM2 v)) [((nbFT7 v), (nbFM2 v))] := EvO.call (k := 0) (t1 := (nbFT6 v)) (m1 := (nbFM2 v)) (args := []) (a := []) (cc := []) _ (by kernel_rfl) (by kernel_rfl) (by kernel_rfl) (by kernel_rfl) (by kernel_rfl) (by kernel_rfl) (by kernel_rfl) (by decide) (by kernel_rfl) (by kernel_rfl) (by kernel_rfl) aw15_run (nbFn5 v H)
theorem nbFn7 (v : NbV) (H : NbH v false false 0 true false) : nbFev nbFC7 (nbFT5 v) (nbFM2 v) [(.nrm, (nbFT7 v), (nbFM2 v))] := Ev.reg (outs := [((nbFT7 v), (nbFM2 v))]) (by kernel_rfl) (by kernel_rfl) (nbFn6 v H)
noncomputable abbrev nbFC8 : Code := cR nbFC6
def nbFT8 (v : NbV) : Fr := puF (nbFT7 v) []
theorem nbFn8 (v : NbV) (H : NbH v false false 0 true false) : nbFev nbFC8 (nbFT7 v) (nbFM2 v) [(.ret, (nbFT8 v), (nbFM2 v))] := Ev.code (by kernel_rfl)
theorem nbFn9 (v : NbV) (H : NbH v false false 0 true false) : nbFev nbFC6 (nbFT5 v) (nbFM2 v) [(.ret, (nbFT8 v), (nbFM2 v))] := Ev.seqP (by kernel_rfl) (nbFn7 v H) (nbFn8 v H)
theorem nbFn10 (v : NbV) (H : NbH v false false 0 true false) : nbFev nbFC5 (nbFT5 v) (nbFM2 v) [(.ret, (nbFT8 v), (nbFM2 v))] := Ev.condT (by kernel_rfl) (by kernel_rfl) (nbFn9 v H)
theorem nbFn11 (v : NbV) (H : NbH v false false 0 true false) : nbFev nbFC3 (nbFT1 v) (nbFM2 v) [(.ret, (nbFT8 v), (nbFM2 v))] := Ev.seqP (by kernel_rfl) (nbFn4 v H) (nbFn10 v H)
theorem nbFn12 (v : NbV) (H : NbH v false false 0 true false) : nbFev nbFC2 (nbFT1 v) (nbFM2 v) [(.ret, (nbFT8 v), (nbFM2 v))] := Ev.seqE (by intro h; cases h) (by kernel_rfl) (nbFn11 v H)
theorem nbFn13 (v : NbV) (H : NbH v false false 0 true false) : nbFev nbFC1 (nbFT0 v) (nbFM0 v) [(.ret, (nbFT8 v), (nbFM2 v))] := Ev.pieces (k := 1) (t1 := (nbFT1 v)) (m1 := (nbFM2 v)) (by kernel_rfl) (nbFn12 v H)
theorem nb_F (v : NbV) (H : NbH v false false 0 true false) : PRun Tryz.prog 5 [] [.a [.i v.c1, .u (.l 7 v.c2), .i v.c3, .u (.l 4 v.c4), .i v.c5, .i v.c6, .i v.c7, .i v.c8], .a [.i v.a9, .i v.a10, .i v.a11, .i v.a12, .i v.a13, .i v.a14, .i v.a15, .i v.a16, .i v.a17, .i v.a18, .i v.a19, .i v.a20, .i v.a21, .i v.a22, .i v.a23, .i v.a24, .i v.a25, .u (.l 2 v.a26), .u (.l 2 v.a27), .i v.a28, .i v.a29, .i v.a30, .i v.a31]] fun x m => x = .u (.b true) ∧ m = [] :=
  Ev.runT (by kernel_rfl) Tryz.func5 (by kernel_rfl) (c := nbFC1) (by kernel_rfl) (r := (.ret, (nbFT8 v), (nbFM2 v))) (nbFn13 v H) (y := (.u (.b true), [])) (by kernel_rfl)
noncomputable abbrev nbGev := Ev Tryz.prog (speKn (speWhole whp) [7, 8, 9, 11, 12, 13, 15, 16, 17, 21, 22, 23, 24, 25, 26, 27, 28]) (List.range 600) 300 60 5
noncomputable abbrev nbGevO := EvO Tryz.prog (speKn (speWhole whp) [7, 8, 9, 11, 12, 13, 15, 16, 17, 21, 22, 23, 24, 25, 26, 27, 28]) (List.range 600) 300 60
def nbGT0 (v : NbV) : Fr := frameF Tryz.prog Tryz.f5 [.a [.i v.c1, .u (.l 7 v.c2), .i v.c3, .u (.l 4 v.c4), .i v.c5, .i v.c6, .i v.c7, .i v.c8], .a [.i v.a9, .i v.a10, .i v.a11, .i v.a12, .i v.a13, .i v.a14, .i v.a15, .i v.a16, .i v.a17, .i v.a18, .i v.a19, .i v.a20, .i v.a21, .i v.a22, .i v.a23, .i v.a24, .i v.a25, .u (.l 2 v.a26), .u (.l 2 v.a27), .i v.a28, .i v.a29, .i v.a30, .i v.a31]]
def nbGM0 (v : NbV) : Mem := []
noncomputable abbrev nbGC1 : Code := bodyOf Tryz.f5
def nbGT1 (v : NbV) : Fr := puF (nbFT1 v) []
def nbGM2 (v : NbV) : Mem := [.c [.i v.c1, .u (.l 7 v.c2), .i v.c3, .u (.l 4 v.c4), .i v.c5, .i v.c6, .i v.c7, .i v.c8],
  .c [.i v.a9, .i v.a10, .i v.a11, .i v.a12, .i v.a13, .i v.a14, .i v.a15, .i v.a16, .i v.a17, .i v.a18, .i v.a19, .i v.a20, .i v.a21, .i v.a22, .i v.a23, .i v.a24, .i v.a25, .u (.l 2 v.a26), .u (.l 2 v.a27), .i v.a28, .i v.a29, .i v.a30, .i v.a31]]
noncomputable abbrev nbGC2 : Code := dropK 1 nbGC1
noncomputable abbrev nbGC3 : Code := cL nbGC2
noncomputable abbrev nbGC4 : Code := cL nbGC3
def nbGT3 (v : NbV) : Fr := puF (nbFT3 v) []
def nbGT4 (v : NbV) : Fr := puF (nbGT3 v) [(26, .u (.b true)), (27, .u (.b false)), (28, .u (.b false)), (29, .a [.i v.a9, .i v.a10, .i v.a11, .i v.a12, .i v.a13, .i v.a14, .i v.a15, .i v.a16, .i v.a17, .i v.a18, .i v.a19, .i v.a20, .i v.a21, .i v.a22, .i v.a23, .i v.a24, .i v.a25, .u (.l 2 v.a26), .u (.l 2 v.a27), .i v.a28, .i v.a29, .i v.a30, .i v.a31]), (30, .w 2)]
def nbGM5 (v : NbV) : Mem := paM (nbGM2 v) [] [.w 46 23 [[.n v.a9, .n v.a10, .n v.a11, .n v.a12, .n v.a13, .n v.a14, .n v.a15, .n v.a16, .n v.a17, .n v.a18, .n v.a19, .n v.a20, .n v.a21, .n v.a22, .n v.a23, .n v.a24, .n v.a25, .l 2 v.a26, .l 2 v.a27, .n v.a28, .n v.a29, .n v.a30, .n v.a31]]]
def nbGT6 (v : NbV) : Fr := puF (nbGT4 v) [(31, .u (.b false)), (32, .u (.b true)), (33, .u (.b true))]
theorem nbGn1 (v : NbV) (H : NbH v true false 0 true false) : nbGevO (cOp nbGC4) (((cOp nbGC4).drop 2).drop 5) ((cPut (opAt ((cOp nbGC4).drop 2) 4).dst).p (nbGT4 v) (renV (fK [2] ((nbGM5 v)).length) (.u (.b false)))) (backM (nbGM5 v) [2] ([.w 46 23 [[.n v.a9, .n v.a10, .n v.a11, .n v.a12, .n v.a13, .n v.a14, .n v.a15, .n v.a16, .n v.a17, .n v.a18, .n v.a19, .n v.a20, .n v.a21, .n v.a22, .n v.a23, .n v.a24, .n v.a25, .l 2 v.a26, .l 2 v.a27, .n v.a28, .n v.a29, .n v.a30, .n v.a31]]])) [((nbGT6 v), (nbGM5 v))] := EvO.ops (by kernel_rfl)
theorem nbGn2 (v : NbV) (H : NbH v true false 0 true false) : nbGevO (cOp nbGC4) ((cOp nbGC4).drop 2) ((cPut (opAt (cOp nbGC4) 1).dst).p (nbGT3 v) (renV (fK [] ((nbGM2 v)).length) (.u (.b true)))) (backM (nbGM2 v) [] ([])) [((nbGT6 v), (nbGM5 v))] := EvO.call (k := 4) (t1 := (nbGT4 v)) (m1 := (nbGM5 v)) (args := [.w 2, .i 1]) (a := []) (cc := []) _ (by kernel_rfl) (by kernel_rfl) (by kernel_rfl) (by kernel_rfl) (by kernel_rfl) (by kernel_rfl) (by kernel_rfl) (by decide) (by kernel_rfl) (by kernel_rfl) (by kernel_rfl) H.hG (nbGn1 v H)
theorem nbGn3 (v : NbV) (H : NbH v true false 0 true false) : nbGevO (cOp nbGC4) (cOp nbGC4) ((nbGT1 v)) ((nbGM2 v)) [((nbGT6 v), (nbGM5 v))] := EvO.call (k := 1) (t1 := (nbGT3 v)) (m1 := (nbGM2 v)) (args := [.a [.i v.c1, .u (.l 7 v.c2), .i v.c3, .u (.l 4 v.c4), .i v.c5, .i v.c6, .i v.c7, .i v.c8]]) (a := []) (cc := []) _ (by kernel_rfl) (by kernel_rfl) (by kernel_rfl) (by kernel_rfl) (by kernel_rfl) (by kernel_rfl) (by kernel_rfl) (by decide) (by kernel_rfl) (by kernel_rfl) (by kernel_rfl) H.hF (nbGn2 v H)
theorem nbGn4 (v : NbV) (H : NbH v true false 0 true false) : nbGev nbGC4 (nbGT1 v) (nbGM2 v) [(.nrm, (nbGT6 v), (nbGM5 v))] := Ev.reg (outs := [((nbGT6 v), (nbGM5 v))]) (by kernel_rfl) (by kernel_rfl) (nbGn3 v H)
noncomputable abbrev nbGC5 : Code := cR nbGC3
noncomputable abbrev nbGC6 : Code := cT nbGC5
noncomputable abbrev nbGC7 : Code := cL nbGC6
def nbGT7 (v : NbV) : Fr := puF (nbGT6 v) []
def nbGT8 (v : NbV) : Fr := puF (nbGT6 v) [(4, .u (.b true)), (34, .u (.b true))]
theorem nbGn5 (v : NbV) (H : NbH v true false 0 true false) : nbGevO (cOp nbGC7) ((cOp nbGC7).drop 1) ((cPut (opAt (cOp nbGC7) 0).dst).p (nbGT7 v) (renV (fK [] ((nbGM5 v)).length) (.u (.b true)))) (backM (nbGM5 v) [] ([])) [((nbGT8 v), (nbGM5 v))] := EvO.ops (by kernel_rfl)
theorem nbGn6 (v : NbV) (H : NbH v true false 0 true false) : nbGevO (cOp nbGC7) (cOp nbGC7) ((nbGT6 v)) ((nbGM5 v)) [((nbGT8 v), (nbGM5 v))] := EvO.call (k := 0) (t1 := (nbGT7 v)) (m1 := (nbGM5 v)) (args := []) (a := []) (cc := []) _ (by kernel_rfl) (by kernel_rfl) (by kernel_rfl) (by kernel_rfl) (by kernel_rfl) (by kernel_rfl) (by kernel_rfl) (by decide) (by kernel_rfl) (by kernel_rfl) (by kernel_rfl) aw15_run (nbGn5 v H)
theorem nbGn7 (v : NbV) (H : NbH v true false 0 true false) : nbGev nbGC7 (nbGT6 v) (nbGM5 v) [(.nrm, (nbGT8 v), (nbGM5 v))] := Ev.reg (outs := [((nbGT8 v), (nbGM5 v))]) (by kernel_rfl) (by kernel_rfl) (nbGn6 v H)
noncomputable abbrev nbGC8 : Code := cR nbGC6
def nbGT9 (v : NbV) : Fr := puF (nbGT6 v) [(4, .u (.b true)), (34, .u (.b true))]
theorem nbGn8 (v : NbV) (H : NbH v true false 0 true false) : nbGev nbGC8 (nbGT8 v) (nbGM5 v) [(.ret, (nbGT9 v), (nbGM5 v))] := Ev.code (by kernel_rfl)
theorem nbGn9 (v : NbV) (H : NbH v true false 0 true false) : nbGev nbGC6 (nbGT6 v) (nbGM5 v) [(.ret, (nbGT9 v), (nbGM5 v))] := Ev.seqP (by kernel_rfl) (nbGn7 v H) (nbGn8 v H)
theorem nbGn10 (v : NbV) (H : NbH v true false 0 true false) : nbGev nbGC5 (nbGT6 v) (nbGM5 v) [(.ret, (nbGT9 v), (nbGM5 v))] := Ev.condT (by kernel_rfl) (by kernel_rfl) (nbGn9 v H)
theorem nbGn11 (v : NbV) (H : NbH v true false 0 true false) : nbGev nbGC3 (nbGT1 v) (nbGM2 v) [(.ret, (nbGT9 v), (nbGM5 v))] := Ev.seqP (by kernel_rfl) (nbGn4 v H) (nbGn10 v H)
theorem nbGn12 (v : NbV) (H : NbH v true false 0 true false) : nbGev nbGC2 (nbGT1 v) (nbGM2 v) [(.ret, (nbGT9 v), (nbGM5 v))] := Ev.seqE (by intro h; cases h) (by kernel_rfl) (nbGn11 v H)
theorem nbGn13 (v : NbV) (H : NbH v true false 0 true false) : nbGev nbGC1 (nbGT0 v) (nbGM0 v) [(.ret, (nbGT9 v), (nbGM5 v))] := Ev.pieces (k := 1) (t1 := (nbGT1 v)) (m1 := (nbGM2 v)) (by kernel_rfl) (nbGn12 v H)
theorem nb_G (v : NbV) (H : NbH v true false 0 true false) : PRun Tryz.prog 5 [] [.a [.i v.c1, .u (.l 7 v.c2), .i v.c3, .u (.l 4 v.c4), .i v.c5, .i v.c6, .i v.c7, .i v.c8], .a [.i v.a9, .i v.a10, .i v.a11, .i v.a12, .i v.a13, .i v.a14, .i v.a15, .i v.a16, .i v.a17, .i v.a18, .i v.a19, .i v.a20, .i v.a21, .i v.a22, .i v.a23, .i v.a24, .i v.a25, .u (.l 2 v.a26), .u (.l 2 v.a27), .i v.a28, .i v.a29, .i v.a30, .i v.a31]] fun x m => x = .u (.b true) ∧ m = [] :=
  Ev.runT (by kernel_rfl) Tryz.func5 (by kernel_rfl) (c := nbGC1) (by kernel_rfl) (r := (.ret, (nbGT9 v), (nbGM5 v))) (nbGn13 v H) (y := (.u (.b true), [])) (by kernel_rfl)
end
end Go.Proofs.YtalglagdgabafaaGreat
