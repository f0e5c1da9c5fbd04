/-
  Plain mathematics of graphs: reachability by Warshall's steps. No program in sight.
-/
namespace Go.Proofs.Ythehbamfjglodaa
abbrev EdgeL := List (Int × Int)

/-- There is an edge from a to b. -/
def adj (e : EdgeL) (a b : Nat) : Bool := e.any fun p => p.1 == (a : Int) && p.2 == (b : Int)
/-- Warshall: ways whose inner nodes are below k. -/
def W (e : EdgeL) : Nat → Nat → Nat → Bool
  | 0, i, j => adj e i j
  | k + 1, i, j => W e k i j || (W e k i k && W e k k j)

/-- Every edge is between nodes below n. -/
def Ok (n : Nat) (e : EdgeL) : Prop := ∀ p ∈ e, 0 ≤ p.1 ∧ p.1 < n ∧ 0 ≤ p.2 ∧ p.2 < n

theorem adj_true {e : EdgeL} {a b : Nat} : adj e a b = true ↔ ((a : Int), (b : Int)) ∈ e := by
  simp [adj, List.any_eq_true, Prod.exists]
theorem adj_lt {n : Nat} {e : EdgeL} (h : Ok n e) {a b : Nat} (hab : adj e a b = true) : a < n ∧ b < n := by
  have := h _ (adj_true.1 hab)
  simp at this
  omega
theorem W_lt {n : Nat} {e : EdgeL} (h : Ok n e) (k : Nat) : ∀ {i j : Nat}, W e k i j = true → i < n ∧ j < n := by
  induction k with
  | zero => intro i j hw; exact adj_lt h hw
  | succ k ih =>
    intro i j hw
    simp only [W, Bool.or_eq_true, Bool.and_eq_true] at hw
    rcases hw with hw | ⟨h1, h2⟩
    · exact ih hw
    · exact ⟨(ih h1).1, (ih h2).2⟩
theorem W_out {n : Nat} {e : EdgeL} (h : Ok n e) (k i j : Nat) (hi : n ≤ i) : W e k i j = false := by
  cases hw : W e k i j with
  | false => rfl
  | true => have := W_lt h k hw; omega

theorem adj_snoc (e : EdgeL) (p : Int × Int) (a b : Nat) : adj (e ++ [p]) a b = (adj e a b || (p.1 == (a : Int) && p.2 == (b : Int))) := by
  simp [adj, List.any_append]


/-- The bits of 'reach' behind m rounds of the outer loop; within one, behind i rounds of the inner one. -/
def RchRel (E : EdgeL) (m : Nat) (rch : Nat → Nat) : Prop := (∀ i, rch i < 18446744073709551616) ∧ ∀ i j, (rch i).testBit j = W E m i j
def RchIn (E : EdgeL) (m i : Nat) (rch : Nat → Nat) : Prop := (∀ i, rch i < 18446744073709551616) ∧ ∀ i' j, (rch i').testBit j = if i' < i then W E (m + 1) i' j else W E m i' j
def upd (f : Nat → Nat) (i v : Nat) : Nat → Nat := fun k => if k = i then v else f k
theorem or_lt (a b : Nat) (ha : a < 18446744073709551616) (hb : b < 18446744073709551616) : a ||| b < 18446744073709551616 :=
  Nat.or_lt_two_pow (n := 64) ha hb
theorem RchIn.start {E : EdgeL} {m : Nat} {rch : Nat → Nat} (h : RchRel E m rch) : RchIn E m 0 rch := ⟨h.1, fun i j => by rw [if_neg (by omega)]; exact h.2 i j⟩
theorem RchIn.done {E : EdgeL} {n m : Nat} {rch : Nat → Nat} (hok : Ok n E) (h : RchIn E m n rch) : RchRel E (m + 1) rch := ⟨h.1, fun i j => by
  rw [h.2]
  split
  · rfl
  · rename_i hi
    rw [W_out hok m i j (by omega), W_out hok (m + 1) i j (by omega)]⟩
theorem W_succ_self (E : EdgeL) (m j : Nat) : W E (m + 1) m j = W E m m j := by
  simp only [W]
  cases W E m m j <;> cases W E m m m <;> rfl
theorem RchIn.mm {E : EdgeL} {m i : Nat} {rch : Nat → Nat} (h : RchIn E m i rch) (j : Nat) : (rch m).testBit j = W E m m j := by
  rw [h.2]; split
  · exact W_succ_self E m j
  · rfl
theorem RchIn.yes {E : EdgeL} {m i : Nat} {rch : Nat → Nat} (h : RchIn E m i rch) (ht : (rch i).testBit m = true) : RchIn E m (i + 1) (upd rch i (rch i ||| rch m)) := by
  refine ⟨fun k => ?_, fun k j => ?_⟩
  · unfold upd; split
    · exact or_lt _ _ (h.1 i) (h.1 m)
    · exact h.1 k
  · have h2 := h.2 i m
    rw [if_neg (by omega), ht] at h2
    unfold upd; split
    · rename_i hk; subst hk
      rw [Nat.testBit_or, h.mm, h.2, if_neg (by omega), if_pos (by omega)]
      simp only [W, ← h2, Bool.true_and]
    · rename_i hk
      rw [h.2]
      by_cases hki : k < i
      · rw [if_pos hki, if_pos (by omega)]
      · rw [if_neg hki, if_neg (by omega)]
theorem RchIn.no {E : EdgeL} {m i : Nat} {rch : Nat → Nat} (h : RchIn E m i rch) (ht : (rch i).testBit m = false) : RchIn E m (i + 1) rch := by
  refine ⟨h.1, fun k j => ?_⟩
  have h2 := h.2 i m
  rw [if_neg (by omega), ht] at h2
  rw [h.2]
  by_cases hki : k < i
  · rw [if_pos hki, if_pos (by omega)]
  · by_cases hk : k = i
    · subst hk
      rw [if_neg hki, if_pos (by omega)]
      simp only [W, ← h2, Bool.false_and, Bool.or_false]
    · rw [if_neg hki, if_neg (by omega)]

theorem W_mono (E : EdgeL) (k : Nat) {i j : Nat} (h : W E k i j = true) : W E (k + 1) i j = true := by simp [W, h]
/-- what is found stays closed under going on over a node that was allowed -/
theorem W_closed (E : EdgeL) (k : Nat) : ∀ {i m j : Nat}, m < k → W E k i m = true → W E k m j = true → W E k i j = true := by
  induction k with
  | zero => intro i m j hm; omega
  | succ k ih =>
    intro i m j hm h1 h2
    simp only [W, Bool.or_eq_true, Bool.and_eq_true] at h1 h2 ⊢
    by_cases hmk : m = k
    · subst hmk
      have a1 : W E m i m = true := h1.elim id (·.1)
      have a2 : W E m m j = true := h2.elim id (·.2)
      exact .inr ⟨a1, a2⟩
    · have hm' : m < k := by omega
      rcases h1 with h1 | ⟨h1, h1'⟩ <;> rcases h2 with h2 | ⟨h2, h2'⟩
      · exact .inl (ih hm' h1 h2)
      · exact .inr ⟨ih hm' h1 h2, h2'⟩
      · exact .inr ⟨h1, ih hm' h1' h2⟩
      · exact .inr ⟨h1, h2'⟩
theorem W_trans {n : Nat} {E : EdgeL} (hok : Ok n E) {i m j : Nat} (h1 : W E n i m = true) (h2 : W E n m j = true) : W E n i j = true :=
  W_closed E n (W_lt hok n h1).2 h1 h2

/-- Two nodes in one component. -/
def tog (E : EdgeL) (n i k : Nat) : Bool := i == k || (W E n i k && W E n k i)
theorem tog_refl (E : EdgeL) (n i : Nat) : tog E n i i = true := by simp [tog]
theorem tog_symm {E : EdgeL} {n i k : Nat} (h : tog E n i k = true) : tog E n k i = true := by
  simp only [tog, Bool.or_eq_true, Bool.and_eq_true, beq_iff_eq] at h ⊢
  rcases h with h | h
  · exact .inl h.symm
  · exact .inr ⟨h.2, h.1⟩
theorem tog_trans {E : EdgeL} {n i j k : Nat} (hok : Ok n E) (h : tog E n i j = true) (h' : tog E n j k = true) : tog E n i k = true := by
  simp only [tog, Bool.or_eq_true, Bool.and_eq_true, beq_iff_eq] at h h' ⊢
  rcases h with rfl | h
  · exact h'
  · rcases h' with rfl | h'
    · exact .inr h
    · exact .inr ⟨W_trans hok h.1 h'.1, W_trans hok h'.2 h.2⟩
/-- The least node of its component. -/
def isHead (E : EdgeL) (n i : Nat) : Bool := (List.range i).all fun j => !tog E n j i
def headsTo (E : EdgeL) (n k : Nat) : List Nat := (List.range k).filter (isHead E n)
def compTo (E : EdgeL) (n i k : Nat) : List Nat := (List.range k).filter (tog E n i)
abbrev heads (E : EdgeL) (n : Nat) : List Nat := headsTo E n n
abbrev comp (E : EdgeL) (n i : Nat) : List Nat := compTo E n i n
/-- What 'seen' holds behind i rounds. -/
def seenAt (E : EdgeL) (n i x : Nat) : Bool := (headsTo E n i).any fun h => tog E n h x

theorem mem_headsTo {E : EdgeL} {n k h : Nat} : h ∈ headsTo E n k ↔ h < k ∧ isHead E n h = true := by simp [headsTo]
theorem isHead_iff {E : EdgeL} {n i : Nat} : isHead E n i = true ↔ ∀ j, j < i → tog E n j i = false := by
  simp [isHead, List.all_eq_true]
/-- some node of the component, not above i, is a head -/
theorem head_below {E : EdgeL} {n : Nat} (hok : Ok n E) : ∀ (i : Nat), ∃ h, h ≤ i ∧ isHead E n h = true ∧ tog E n h i = true := by
  intro i
  induction i using Nat.strongRecOn with
  | _ i ih =>
    by_cases hh : isHead E n i = true
    · exact ⟨i, Nat.le_refl _, hh, tog_refl E n i⟩
    · have : ∃ j, j < i ∧ tog E n j i = true := by
        refine Classical.byContradiction fun hne => hh (isHead_iff.2 fun j hj => ?_)
        cases ht : tog E n j i with
        | false => rfl
        | true => exact absurd ⟨j, hj, ht⟩ hne
      obtain ⟨j, hj, ht⟩ := this
      obtain ⟨h, hle, hh', ht'⟩ := ih j hj
      exact ⟨h, by omega, hh', tog_trans hok ht' ht⟩
theorem seen_self {E : EdgeL} {n : Nat} (hok : Ok n E) (i : Nat) : seenAt E n i i = !isHead E n i := by
  cases hh : isHead E n i with
  | true =>
    simp only [seenAt, Bool.not_true, List.any_eq_false]
    intro h hm
    have := isHead_iff.1 hh h (mem_headsTo.1 hm).1
    simp [this]
  | false =>
    obtain ⟨h, hle, hh', ht⟩ := head_below hok i
    have hne : h ≠ i := by rintro rfl; rw [hh] at hh'; cases hh'
    simp only [seenAt, Bool.not_false, List.any_eq_true]
    exact ⟨h, mem_headsTo.2 ⟨by omega, hh'⟩, ht⟩
theorem headsTo_succ (E : EdgeL) (n i : Nat) : headsTo E n (i + 1) = headsTo E n i ++ (if isHead E n i then [i] else []) := by
  simp only [headsTo, List.range_succ, List.filter_append, List.filter_cons, List.filter_nil]
theorem seen_succ (E : EdgeL) (n i x : Nat) : seenAt E n (i + 1) x = (seenAt E n i x || (isHead E n i && tog E n i x)) := by
  simp only [seenAt, headsTo_succ, List.any_append]
  cases isHead E n i <;> simp
theorem compTo_succ (E : EdgeL) (n i k : Nat) : compTo E n i (k + 1) = compTo E n i k ++ (if tog E n i k then [k] else []) := by
  simp only [compTo, List.range_succ, List.filter_append, List.filter_cons, List.filter_nil]
theorem compTo_self {E : EdgeL} {n i : Nat} (h : isHead E n i = true) : compTo E n i i = [] := by
  rw [compTo, List.filter_eq_nil_iff]
  intro j hj ht
  have := isHead_iff.1 h j (by simpa using hj)
  rw [tog_symm ht] at this
  cases this

/-! ### the first error of a graph -/
def nodeB (N x : Int) : Bool := decide (0 ≤ x ∧ x < N)
def beforeB (a b : Int × Int) : Bool := decide (a.1 < b.1 ∨ a.1 = b.1 ∧ a.2 < b.2)
/-- the error at edge number i: 2 range, 8 order, 0 none -/
def edgeErr (N : Int) (E : EdgeL) (i : Nat) : Int :=
  if !(nodeB N (E[i]?.getD (0, 0)).1 && nodeB N (E[i]?.getD (0, 0)).2) then 2
  else if i ≠ 0 ∧ beforeB (E[i - 1]?.getD (0, 0)) (E[i]?.getD (0, 0)) = false then 8 else 0
def checkL (N : Int) (E : EdgeL) : Int × Int :=
  if N < 0 ∨ 64 < N then (2, 0)
  else match (List.range E.length).find? (fun i => edgeErr N E i != 0) with
    | some i => (edgeErr N E i, i)
    | none => (0, 0)
theorem checkL_out {N : Int} {E : EdgeL} (h : N < 0 ∨ 64 < N) : checkL N E = (2, 0) := by simp [checkL, h]
theorem checkL_at {N : Int} {E : EdgeL} (h : ¬ (N < 0 ∨ 64 < N)) {k : Nat} (hk : k < E.length) (he : edgeErr N E k ≠ 0) (hb : ∀ j, j < k → edgeErr N E j = 0) : checkL N E = (edgeErr N E k, (k : Int)) := by
  have : (List.range E.length).find? (fun i => edgeErr N E i != 0) = some k := by
    rw [List.find?_range_eq_some]
    exact ⟨by simp [he], by simpa using hk, fun j hj => by simp [hb j hj]⟩
  simp [checkL, h, this]
theorem checkL_ok {N : Int} {E : EdgeL} (h : ¬ (N < 0 ∨ 64 < N)) (hb : ∀ j, j < E.length → edgeErr N E j = 0) : checkL N E = (0, 0) := by
  have : (List.range E.length).find? (fun i => edgeErr N E i != 0) = none := by
    rw [List.find?_eq_none]
    intro j hj
    simp [hb j (by simpa using hj)]
  simp [checkL, h, this]
theorem checkL_valid {N : Int} {E : EdgeL} (h : (checkL N E).1 = 0) : 0 ≤ N ∧ N ≤ 64 ∧ ∀ j, j < E.length → edgeErr N E j = 0 := by
  by_cases ho : N < 0 ∨ 64 < N
  · rw [checkL_out ho] at h; cases h
  · refine ⟨by omega, by omega, fun j hj => ?_⟩
    cases hf : (List.range E.length).find? (fun i => edgeErr N E i != 0) with
    | none =>
      have := List.find?_eq_none.1 hf j (by simpa using hj)
      simpa using this
    | some i =>
      have h2 := List.find?_some hf
      simp [checkL, ho, hf] at h h2
      exact absurd h h2
theorem edgeErr_bad {N : Int} {E : EdgeL} {k : Nat} {x y : Int} (hk : E[k]? = some (x, y)) (h : (nodeB N x && nodeB N y) = false) : edgeErr N E k = 2 := by simp [edgeErr, hk, h]
theorem edgeErr_order {N : Int} {E : EdgeL} {k : Nat} {x y x' y' : Int} (hk : E[k + 1]? = some (x, y)) (hj : E[k]? = some (x', y')) (h1 : nodeB N x = true) (h2 : nodeB N y = true) (h : beforeB (x', y') (x, y) = false) : edgeErr N E (k + 1) = 8 := by
  simp [edgeErr, hk, hj, h, h1, h2]
theorem edgeErr_first {N : Int} {E : EdgeL} {x y : Int} (hk : E[0]? = some (x, y)) (h1 : nodeB N x = true) (h2 : nodeB N y = true) : edgeErr N E 0 = 0 := by simp [edgeErr, hk, h1, h2]
theorem edgeErr_fine {N : Int} {E : EdgeL} {k : Nat} {x y x' y' : Int} (hk : E[k + 1]? = some (x, y)) (hj : E[k]? = some (x', y')) (h1 : nodeB N x = true) (h2 : nodeB N y = true) (h : beforeB (x', y') (x, y) = true) : edgeErr N E (k + 1) = 0 := by
  simp [edgeErr, hk, hj, h, h1, h2]
/-- a valid graph's edges are between its nodes -/
theorem ok_of_check {n : Nat} {E : EdgeL} (h : (checkL n E).1 = 0) : n ≤ 64 ∧ Ok n E := by
  obtain ⟨h0, h1, h2⟩ := checkL_valid h
  refine ⟨by omega, fun p hp => ?_⟩
  obtain ⟨j, hj⟩ := List.mem_iff_getElem?.1 hp
  have := h2 j (List.getElem?_eq_some_iff.1 hj).1
  simp only [edgeErr, hj, Option.getD_some] at this
  cases h3 : nodeB n p.1 <;> cases h4 : nodeB n p.2 <;> simp [h3, h4] at this
  simp [nodeB] at h3 h4
  omega

/-! ### the order of the components -/
/-- The first number below n that meets p; -1 if there is none. -/
def findIx (p : Nat → Bool) (n : Nat) : Int := match (List.range n).find? p with | some j => (j : Int) | none => -1
theorem findIx_some {p : Nat → Bool} {n k : Nat} (hk : k < n) (hp : p k = true) (hb : ∀ j, j < k → p j = false) : findIx p n = k := by
  have : (List.range n).find? p = some k := by
    rw [List.find?_range_eq_some]
    exact ⟨hp, by simpa using hk, fun j hj => by simp [hb j hj]⟩
  simp [findIx, this]
theorem findIx_none {p : Nat → Bool} {n : Nat} (hb : ∀ j, j < n → p j = false) : findIx p n = -1 := by
  have : (List.range n).find? p = none := by
    rw [List.find?_eq_none]
    intro j hj
    simp [hb j (by simpa using hj)]
  simp [findIx, this]

/-- no other one that is left reaches h -/
def stops (E : EdgeL) (m : Nat) (hs : List Nat) (h j : Nat) : Bool := hs[j]?.getD 0 != h && W E m (hs[j]?.getD 0) h
def freeAt (E : EdgeL) (m : Nat) (hs : List Nat) (h : Nat) : Bool := !decide (0 ≤ findIx (stops E m hs h) hs.length)


theorem findIx_ge {p : Nat → Bool} {n : Nat} : 0 ≤ findIx p n ↔ ∃ j, j < n ∧ p j = true := by
  unfold findIx
  cases h : (List.range n).find? p with
  | none =>
    have := List.find?_eq_none.1 h
    constructor
    · intro h; simp at h
    · rintro ⟨j, hj, hp⟩; exact absurd hp (this j (by simpa using hj))
  | some k =>
    have h1 := List.find?_some h
    have h2 := List.mem_of_find?_eq_some h
    exact ⟨fun _ => ⟨k, by simpa using h2, h1⟩, fun _ => by simp⟩
theorem findIx_spec {p : Nat → Bool} {n : Nat} (h : ∃ j, j < n ∧ p j = true) : ∃ k : Nat, findIx p n = k ∧ k < n ∧ p k = true := by
  unfold findIx
  cases hf : (List.range n).find? p with
  | none =>
    obtain ⟨j, hj, hp⟩ := h
    exact absurd hp (List.find?_eq_none.1 hf j (by simpa using hj))
  | some k => exact ⟨k, rfl, by simpa using List.mem_of_find?_eq_some hf, List.find?_some hf⟩
theorem freeAt_iff {E : EdgeL} {m h : Nat} {hs : List Nat} : freeAt E m hs h = true ↔ ∀ k ∈ hs, k = h ∨ W E m k h = false := by
  simp only [freeAt, Bool.not_eq_true', decide_eq_false_iff_not, findIx_ge]
  constructor
  · intro hn k hk
    obtain ⟨j, hj⟩ := List.mem_iff_getElem?.1 hk
    refine Classical.byContradiction fun hc => hn ⟨j, (List.getElem?_eq_some_iff.1 hj).1, ?_⟩
    simp only [not_or, Bool.not_eq_false] at hc
    simp [stops, hj, hc.1, hc.2]
  · rintro hall ⟨j, hj, hp⟩
    simp only [stops, List.getElem?_eq_getElem hj, Option.getD_some, Bool.and_eq_true, bne_iff_ne, ne_eq] at hp
    rcases hall _ (List.getElem_mem hj) with h | h
    · exact hp.1 h
    · rw [h] at hp; exact absurd hp.2 (by simp)

def pickIx (E : EdgeL) (n : Nat) (hs : List Nat) : Int := findIx (fun j => freeAt E n hs (hs[j]?.getD 0)) hs.length
def orderL (E : EdgeL) (n : Nat) : Nat → List Nat → List Nat
  | 0, _ => []
  | f + 1, hs => if hs = [] then [] else hs[(pickIx E n hs).toNat]?.getD 0 :: orderL E n f (hs.eraseIdx (pickIx E n hs).toNat)
def order (E : EdgeL) (n : Nat) : List Nat := orderL E n (heads E n).length (heads E n)

theorem head_unique {E : EdgeL} {n h h' : Nat} (hh : isHead E n h = true) (hh' : isHead E n h' = true) (ht : tog E n h h' = true) : h = h' := by
  rcases Nat.lt_trichotomy h h' with hl | hl | hl
  · rw [isHead_iff.1 hh' h hl] at ht; cases ht
  · exact hl
  · exact absurd (tog_symm ht) (by rw [isHead_iff.1 hh h' hl]; simp)
theorem exists_free {E : EdgeL} {n : Nat} (hok : Ok n E) : ∀ (l : List Nat), l ≠ [] → (∀ h ∈ l, isHead E n h = true) → ∃ h ∈ l, ∀ k ∈ l, k = h ∨ W E n k h = false := by
  intro l
  induction l with
  | nil => intro h; exact absurd rfl h
  | cons x t ih =>
    intro _ hh
    by_cases ht : t = []
    · subst ht
      exact ⟨x, by simp, fun k hk => .inl (by simpa using hk)⟩
    · obtain ⟨m, hm, hmin⟩ := ih ht fun h hm => hh h (List.mem_cons_of_mem _ hm)
      by_cases hx : x ≠ m ∧ W E n x m = true
      · refine ⟨x, by simp, fun k hk => ?_⟩
        rcases List.mem_cons.1 hk with rfl | hk
        · exact .inl rfl
        · cases hkx : W E n k x with
          | false => exact .inr rfl
          | true =>
            have hkm := W_trans hok hkx hx.2
            rcases hmin k hk with rfl | h
            · refine absurd (head_unique (hh x (by simp)) (hh k (List.mem_cons_of_mem _ hk)) ?_) hx.1
              simp [tog, hx.2, hkx]
            · rw [h] at hkm; cases hkm
      · refine ⟨m, List.mem_cons_of_mem _ hm, fun k hk => ?_⟩
        rcases List.mem_cons.1 hk with rfl | hk
        · by_cases e : k = m
          · exact .inl e
          · cases hw : W E n k m with
            | false => exact .inr rfl
            | true => exact absurd ⟨e, hw⟩ hx
        · exact hmin k hk
theorem pick_spec {E : EdgeL} {n : Nat} (hok : Ok n E) {hs : List Nat} (hne : hs ≠ []) (hh : ∀ h ∈ hs, isHead E n h = true) :
    ∃ i : Nat, pickIx E n hs = i ∧ i < hs.length ∧ ∀ k ∈ hs, k = hs[i]?.getD 0 ∨ W E n k (hs[i]?.getD 0) = false := by
  obtain ⟨h, hm, hmin⟩ := exists_free hok hs hne hh
  obtain ⟨j, hj⟩ := List.mem_iff_getElem?.1 hm
  obtain ⟨i, hi, hil, hp⟩ := findIx_spec (p := fun j => freeAt E n hs (hs[j]?.getD 0)) (n := hs.length) ⟨j, (List.getElem?_eq_some_iff.1 hj).1, by simp only [hj, Option.getD_some]; exact freeAt_iff.2 hmin⟩
  exact ⟨i, hi, hil, freeAt_iff.1 hp⟩
theorem orderL_step {E : EdgeL} {n i : Nat} {hs : List Nat} (hp : pickIx E n hs = i) (hi : i < hs.length) :
    orderL E n hs.length hs = hs[i]?.getD 0 :: orderL E n (hs.eraseIdx i).length (hs.eraseIdx i) := by
  have hl : hs.length = (hs.eraseIdx i).length + 1 := by rw [List.length_eraseIdx, if_pos hi]; omega
  rw [hl, orderL, if_neg (by rintro rfl; simp at hi), hp]
  rfl
theorem orderL_nil (E : EdgeL) (n : Nat) : orderL E n ([] : List Nat).length [] = [] := rfl

/-! ### components as lists, and which one a node is in -/
def compI (E : EdgeL) (n h : Nat) : List Int := (comp E n h).map fun (k : Nat) => (k : Int)
theorem compTo_first {E : EdgeL} {n h : Nat} (hh : isHead E n h = true) : ∀ (d : Nat), (compTo E n h (h + 1 + d))[0]? = some h := by
  intro d
  induction d with
  | zero => rw [Nat.add_zero, compTo_succ, compTo_self hh, tog_refl]; rfl
  | succ d ih =>
    rw [← Nat.add_assoc, compTo_succ, List.getElem?_append_left (List.getElem?_eq_some_iff.1 ih).1]
    exact ih
theorem comp_first {E : EdgeL} {n h : Nat} (hh : isHead E n h = true) (hn : h < n) : (comp E n h)[0]? = some h := by
  have := compTo_first hh (n - (h + 1))
  rwa [show h + 1 + (n - (h + 1)) = n by omega] at this
theorem compI_first {E : EdgeL} {n h : Nat} (hh : isHead E n h = true) (hn : h < n) : (compI E n h)[0]? = some (h : Int) := by
  rw [compI, List.getElem?_map, comp_first hh hn]; rfl
theorem mem_comp {E : EdgeL} {n h k : Nat} : k ∈ comp E n h ↔ k < n ∧ tog E n h k = true := by simp [compTo]
theorem compI_get {E : EdgeL} {n h j : Nat} {x : Int} (hx : (compI E n h)[j]? = some x) : ∃ k : Nat, x = k ∧ (comp E n h)[j]? = some k ∧ k < n ∧ tog E n h k = true := by
  rw [compI, List.getElem?_map] at hx
  cases hk : (comp E n h)[j]? with
  | none => rw [hk] at hx; cases hx
  | some k =>
    rw [hk] at hx
    injection hx with hx
    have := mem_comp.1 (List.mem_of_getElem? hk)
    exact ⟨k, hx.symm, rfl, this.1, this.2⟩
theorem compI_length (E : EdgeL) (n h : Nat) : (compI E n h).length = (comp E n h).length := by simp [compI]
theorem comp_length_le (E : EdgeL) (n h : Nat) : (comp E n h).length ≤ n := by
  have := List.length_filter_le (tog E n h) (List.range n)
  simpa [compTo] using this
/-- each node of a component that is placed already knows its place -/
def PartOk (E : EdgeL) (n : Nat) (ds : List Nat) (pf : Nat → Nat) : Prop := ∀ x, x < n → ∀ j h, ds[j]? = some h → tog E n h x = true → pf x = j
theorem PartOk.step {E : EdgeL} {n h : Nat} {ds : List Nat} {pf pf' : Nat → Nat} (hok : Ok n E) (hp : PartOk E n ds pf) (hh : isHead E n h = true) (hd : ∀ d ∈ ds, isHead E n d = true) (hnd : h ∉ ds)
    (h1 : ∀ x, x < n → tog E n h x = true → pf' x = ds.length) (h2 : ∀ x, x < n → tog E n h x = false → pf' x = pf x) : PartOk E n (ds ++ [h]) pf' := by
  intro x hx j d hj ht
  by_cases hjl : j < ds.length
  · rw [List.getElem?_append_left hjl] at hj
    have hdm := List.mem_of_getElem? hj
    have hf : tog E n h x = false := by
      cases hc : tog E n h x with
      | false => rfl
      | true =>
        have := head_unique (hd d hdm) hh (tog_trans hok ht (tog_symm hc))
        rw [this] at hdm
        exact absurd hdm hnd
    rw [h2 x hx hf]
    exact hp x hx j d hj ht
  · have hlt := (List.getElem?_eq_some_iff.1 hj).1
    have : j = ds.length := by simp at hlt; omega
    subst this
    simp at hj
    subst hj
    exact h1 x hx ht
theorem heads_nodup (E : EdgeL) (n : Nat) : (heads E n).Nodup := List.Nodup.sublist List.filter_sublist List.nodup_range
theorem heads_lt {E : EdgeL} {n h : Nat} (hm : h ∈ heads E n) : h < n ∧ isHead E n h = true := mem_headsTo.1 hm
/-- what is left and what is placed: nothing stands twice -/
structure Split (E : EdgeL) (n : Nat) (hs ds : List Nat) : Prop where
  sub : hs.Sublist (heads E n)
  old : ∀ d ∈ ds, d ∈ heads E n
  apart : ∀ d ∈ ds, d ∉ hs
  eq : ds ++ orderL E n hs.length hs = order E n
theorem Split.start (E : EdgeL) (n : Nat) : Split E n (heads E n) [] := ⟨List.Sublist.refl _, fun d hd => absurd hd (by simp), fun d hd => absurd hd (by simp), rfl⟩
theorem Split.nodup {E : EdgeL} {n : Nat} {hs ds : List Nat} (h : Split E n hs ds) : hs.Nodup := (heads_nodup E n).sublist h.sub
theorem Split.step {E : EdgeL} {n i : Nat} {hs ds : List Nat} (h : Split E n hs ds) (hp : pickIx E n hs = i) (hi : i < hs.length) : Split E n (hs.eraseIdx i) (ds ++ [hs[i]]) := by
  have hm : hs[i] ∈ hs := List.getElem_mem hi
  refine ⟨(List.eraseIdx_sublist ..).trans h.sub, fun d hd => ?_, fun d hd => ?_, ?_⟩
  · rcases List.mem_append.1 hd with hd | hd
    · exact h.old d hd
    · rw [List.mem_singleton.1 hd]; exact h.sub.subset hm
  · rcases List.mem_append.1 hd with hd | hd
    · exact fun hc => h.apart d hd ((List.eraseIdx_sublist ..).subset hc)
    · rw [List.mem_singleton.1 hd]
      intro hc
      obtain ⟨j, hj⟩ := List.mem_iff_getElem?.1 hc
      rw [List.getElem?_eraseIdx] at hj
      have hnd := h.nodup
      have key : ∀ j, j ≠ i → hs[j]? = some hs[i] → False := fun j hji hj => by
        obtain ⟨hjl, hjv⟩ := List.getElem?_eq_some_iff.1 hj
        exact hji ((List.getElem_inj hnd).1 hjv)
      split at hj
      · exact key j (by omega) hj
      · exact key (j + 1) (by omega) hj
  · rw [List.append_assoc, ← h.eq, orderL_step hp hi]
    simp [hi]
theorem orderL_le (E : EdgeL) (n : Nat) : ∀ (f : Nat) (hs : List Nat), (orderL E n f hs).length ≤ f := by
  intro f
  induction f with
  | zero => intro hs; simp [orderL]
  | succ f ih =>
    intro hs
    rw [orderL]
    split
    · simp
    · simp only [List.length_cons]
      have := ih (hs.eraseIdx (pickIx E n hs).toNat)
      omega
theorem order_le (E : EdgeL) (n : Nat) : (order E n).length ≤ n := by
  have h1 := orderL_le E n (heads E n).length (heads E n)
  have h2 := List.length_filter_le (isHead E n) (List.range n)
  simp [headsTo] at h1 h2 ⊢
  unfold order
  simp only [headsTo]
  omega
end Go.Proofs.Ythehbamfjglodaa
