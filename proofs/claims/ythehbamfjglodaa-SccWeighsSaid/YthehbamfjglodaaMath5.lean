/-
  Plain mathematics of graphs, continued: what the statements say of components, levels and the graph of the components.
-/
import Derived.Test.YthehbamfjglodaaMath4
namespace Go.Proofs.Ythehbamfjglodaa

/-! ### edges listed row by row -/
/-- the edges of the first t of row a; of the first a rows -/
def rowE (f : Nat → Nat → Bool) (a t : Nat) : EdgeL := ((List.range t).filter (f a)).map fun (b : Nat) => ((a : Int), (b : Int))
def rowsE (f : Nat → Nat → Bool) (n a : Nat) : EdgeL := (List.range a).flatMap fun a => rowE f a n
theorem rowE_succ (f : Nat → Nat → Bool) (a t : Nat) : rowE f a (t + 1) = rowE f a t ++ (if f a t = true then [((a : Int), (t : Int))] else []) := by
  unfold rowE
  rw [List.range_succ, List.filter_append, List.map_append, List.filter_cons, List.filter_nil]
  split <;> rfl
theorem rowsE_succ (f : Nat → Nat → Bool) (n a : Nat) : rowsE f n (a + 1) = rowsE f n a ++ rowE f a n := by
  unfold rowsE; rw [List.range_succ, List.flatMap_append]; simp
theorem rowE_le (f : Nat → Nat → Bool) (a t : Nat) : (rowE f a t).length ≤ t := by
  have := List.length_filter_le (f a) (List.range t)
  simpa [rowE] using this
theorem rowsE_le (f : Nat → Nat → Bool) (n : Nat) : ∀ a, (rowsE f n a).length ≤ a * n := by
  intro a
  induction a with
  | zero => simp [rowsE]
  | succ a ih =>
    have := rowE_le f a n
    rw [rowsE_succ, List.length_append, Nat.add_mul]
    omega
theorem mem_rowE {f : Nat → Nat → Bool} {a t : Nat} {p : Int × Int} : p ∈ rowE f a t ↔ ∃ b, b < t ∧ f a b = true ∧ p = ((a : Int), (b : Int)) := by
  simp only [rowE, List.mem_map, List.mem_filter, List.mem_range]
  constructor
  · rintro ⟨b, ⟨h1, h2⟩, rfl⟩; exact ⟨b, h1, h2, rfl⟩
  · rintro ⟨b, h1, h2, rfl⟩; exact ⟨b, ⟨h1, h2⟩, rfl⟩
theorem mem_rowsE {f : Nat → Nat → Bool} {n a : Nat} {p : Int × Int} : p ∈ rowsE f n a ↔ ∃ x b, x < a ∧ b < n ∧ f x b = true ∧ p = ((x : Int), (b : Int)) := by
  simp only [rowsE, List.mem_flatMap, List.mem_range, mem_rowE]
  constructor
  · rintro ⟨x, hx, b, h1, h2, h3⟩; exact ⟨x, b, hx, h1, h2, h3⟩
  · rintro ⟨x, b, hx, h1, h2, h3⟩; exact ⟨x, hx, b, h1, h2, h3⟩
theorem adj_rows (f : Nat → Nat → Bool) (n i j : Nat) : adj (rowsE f n n) i j = true ↔ i < n ∧ j < n ∧ f i j = true := by
  rw [adj_true, mem_rowsE]
  constructor
  · rintro ⟨x, b, h1, h2, h3, h4⟩
    injection h4 with e1 e2
    have : i = x := by omega
    have : j = b := by omega
    subst i; subst j
    exact ⟨h1, h2, h3⟩
  · rintro ⟨h1, h2, h3⟩; exact ⟨i, j, h1, h2, h3, rfl⟩
def Before (a b : Int × Int) : Prop := a.1 < b.1 ∨ a.1 = b.1 ∧ a.2 < b.2
theorem rowE_sorted (f : Nat → Nat → Bool) (a t : Nat) : (rowE f a t).Pairwise Before := by
  unfold rowE
  rw [List.pairwise_map]
  refine (List.Pairwise.filter _ List.pairwise_lt_range).imp fun {x y} h => ?_
  right
  exact ⟨rfl, by simpa using h⟩
theorem rowsE_sorted (f : Nat → Nat → Bool) (n : Nat) : ∀ a, (rowsE f n a).Pairwise Before := by
  intro a
  induction a with
  | zero => simp [rowsE]
  | succ a ih =>
    rw [rowsE_succ, List.pairwise_append]
    refine ⟨ih, rowE_sorted f a n, fun p hp q hq => ?_⟩
    obtain ⟨x, b, h1, _, _, rfl⟩ := mem_rowsE.1 hp
    obtain ⟨c, _, _, rfl⟩ := mem_rowE.1 hq
    left
    simp only []
    omega
/-- strictly ascending edges between nodes: a valid graph -/
theorem check_sorted {n : Nat} {E : EdgeL} (hn : n ≤ 64) (hok : Ok n E) (hs : E.Pairwise Before) : checkL n E = (0, 0) := by
  refine checkL_ok (by omega) fun j hj => ?_
  have hin : ∀ i (hi : i < E.length), (nodeB n (E[i]?.getD (0, 0)).1 && nodeB n (E[i]?.getD (0, 0)).2) = true := fun i hi => by
    rw [List.getElem?_eq_getElem hi, Option.getD_some]
    have := hok _ (List.getElem_mem hi)
    simp [nodeB]; omega
  unfold edgeErr
  rw [hin j hj]
  simp only [Bool.not_true, Bool.false_eq_true, if_false]
  rw [if_neg]
  rintro ⟨h0, hb⟩
  have hp := List.pairwise_iff_getElem.1 hs (j - 1) j (by omega) hj (by omega)
  rw [List.getElem?_eq_getElem hj, List.getElem?_eq_getElem (show j - 1 < E.length by omega), Option.getD_some, Option.getD_some] at hb
  unfold beforeB at hb
  have := of_decide_eq_false hb
  exact this hp
theorem rowsE_ok (f : Nat → Nat → Bool) (n : Nat) : Ok n (rowsE f n n) := by
  intro p hp
  obtain ⟨x, b, h1, h2, _, rfl⟩ := mem_rowsE.1 hp
  simp only []
  omega
theorem check_rows {n : Nat} (hn : n ≤ 64) (f : Nat → Nat → Bool) : checkL n (rowsE f n n) = (0, 0) := check_sorted hn (rowsE_ok f n) (rowsE_sorted f n n)

/-! ### the order is topological -/
theorem orderL_topo {E : EdgeL} {n : Nat} (hok : Ok n E) : ∀ (f : Nat) (hs : List Nat), hs.length = f → hs.Nodup → (∀ h ∈ hs, isHead E n h = true) → (orderL E n f hs).Pairwise fun a b => W E n b a = false := by
  intro f
  induction f with
  | zero => intro hs _ _ _; simp [orderL]
  | succ f ih =>
    intro hs hl hnd hh
    have hne : hs ≠ [] := by rintro rfl; simp at hl
    obtain ⟨i, hp, hi, hmin⟩ := pick_spec hok hne hh
    rw [orderL, if_neg hne, hp]
    simp only [Int.toNat_natCast]
    have hlen : (hs.eraseIdx i).length = f := by rw [List.length_eraseIdx, if_pos hi]; omega
    refine List.pairwise_cons.2 ⟨fun b hb => ?_, ih _ hlen (hnd.sublist (List.eraseIdx_sublist ..)) fun h hm => hh h ((List.eraseIdx_sublist ..).subset hm)⟩
    have hb2 := (orderL_perm E n f _ hlen).mem_iff.1 hb
    have hb3 := (List.eraseIdx_sublist hs i).subset hb2
    rcases hmin b hb3 with e | e
    · exfalso
      rw [List.getElem?_eq_getElem hi, Option.getD_some] at e
      obtain ⟨j, hj⟩ := List.mem_iff_getElem?.1 hb2
      rw [List.getElem?_eraseIdx] at hj
      split at hj
      · obtain ⟨h1, h2⟩ := List.getElem?_eq_some_iff.1 hj
        have := (List.getElem_inj hnd).1 (h2.trans e)
        omega
      · obtain ⟨h1, h2⟩ := List.getElem?_eq_some_iff.1 hj
        have := (List.getElem_inj hnd).1 (h2.trans e)
        omega
    · exact e
theorem order_topo {E : EdgeL} {n : Nat} (hok : Ok n E) : (order E n).Pairwise fun a b => W E n b a = false :=
  orderL_topo hok _ _ rfl (heads_nodup E n) fun h hm => (heads_lt hm).2
theorem W_of_adj {E : EdgeL} (n : Nat) {a b : Nat} (h : adj E a b = true) : W E n a b = true := by
  induction n with
  | zero => exact h
  | succ n ih => exact W_mono E n ih
theorem W_tog {E : EdgeL} {n h a b h' : Nat} (hok : Ok n E) (h1 : tog E n h a = true) (h2 : W E n a b = true) (h3 : tog E n h' b = true) : W E n h h' = true := by
  have e1 : W E n h b = true := by
    simp only [tog, Bool.or_eq_true, Bool.and_eq_true, beq_iff_eq] at h1
    rcases h1 with rfl | h1
    · exact h2
    · exact W_trans hok h1.1 h2
  simp only [tog, Bool.or_eq_true, Bool.and_eq_true, beq_iff_eq] at h3
  rcases h3 with rfl | h3
  · exact e1
  · exact W_trans hok e1 h3.2
/-- ways lead from an earlier component to a later one -/
theorem W_part_le {E : EdgeL} {n a b : Nat} (hok : Ok n E) (h : W E n a b = true) : partIx E n a ≤ partIx E n b := by
  obtain ⟨ha, hb⟩ := W_lt hok n h
  obtain ⟨x, hx, tx⟩ := part_get hok ha
  obtain ⟨y, hy, ty⟩ := part_get hok hb
  refine Nat.le_of_not_lt fun hlt => ?_
  obtain ⟨h1, e1⟩ := List.getElem?_eq_some_iff.1 hx
  obtain ⟨h2, e2⟩ := List.getElem?_eq_some_iff.1 hy
  have hp := List.pairwise_iff_getElem.1 (order_topo hok) _ _ h2 h1 hlt
  rw [e1, e2, W_tog hok tx h ty] at hp
  cases hp
theorem part_le {E : EdgeL} {n a b : Nat} (hok : Ok n E) (h : adj E a b = true) : partIx E n a ≤ partIx E n b := W_part_le hok (W_of_adj n h)
theorem part_lt {E : EdgeL} {n x : Nat} (hok : Ok n E) (hx : x < n) : partIx E n x < (order E n).length := by
  obtain ⟨h, hj, _⟩ := part_get hok hx
  exact (List.getElem?_eq_some_iff.1 hj).1
theorem part_tog {E : EdgeL} {n x y : Nat} (hok : Ok n E) (hx : x < n) (hy : y < n) : partIx E n x = partIx E n y ↔ tog E n x y = true := by
  obtain ⟨h, hj, ht⟩ := part_get hok hx
  obtain ⟨h', hj', ht'⟩ := part_get hok hy
  constructor
  · intro e
    rw [e, hj'] at hj
    injection hj with hj
    subst hj
    exact tog_trans hok (tog_symm ht) ht'
  · intro e
    exact part_eq hok hy hj (tog_trans hok ht e)
/-- an edge between nodes is one between their components -/
theorem edgeK_of_adj {E : EdgeL} {n a b : Nat} (hok : Ok n E) (h : adj E a b = true) : edgeK E n (partIx E n a) (partIx E n b) = true := by
  obtain ⟨ha, hb⟩ := adj_lt hok h
  obtain ⟨x, hx, tx⟩ := part_get hok ha
  obtain ⟨y, hy, ty⟩ := part_get hok hb
  unfold edgeK edgeH
  rw [hx, hy]
  simp only [Option.getD_some, List.any_eq_true]
  exact ⟨a, mem_comp.2 ⟨ha, tx⟩, b, mem_comp.2 ⟨hb, ty⟩, h⟩
theorem edgeK_spec {E : EdgeL} {n i k : Nat} (hok : Ok n E) (hi : i < (order E n).length) (hk : k < (order E n).length) (h : edgeK E n i k = true) :
    ∃ a b, adj E a b = true ∧ a < n ∧ b < n ∧ partIx E n a = i ∧ partIx E n b = k := by
  unfold edgeK edgeH at h
  rw [List.getElem?_eq_getElem hi, List.getElem?_eq_getElem hk] at h
  simp only [Option.getD_some, List.any_eq_true] at h
  obtain ⟨a, ha, b, hb, hab⟩ := h
  obtain ⟨ha1, ha2⟩ := mem_comp.1 ha
  obtain ⟨hb1, hb2⟩ := mem_comp.1 hb
  exact ⟨a, b, hab, ha1, hb1, (part_eq hok ha1 (List.getElem?_eq_getElem hi) ha2).symm, (part_eq hok hb1 (List.getElem?_eq_getElem hk) hb2).symm⟩
theorem edgeK_le {E : EdgeL} {n i k : Nat} (hok : Ok n E) (hi : i < (order E n).length) (hk : k < (order E n).length) (h : edgeK E n i k = true) : i ≤ k := by
  obtain ⟨a, b, hab, _, _, rfl, rfl⟩ := edgeK_spec hok hi hk h
  exact part_le hok hab

/-! ### levels -/
theorem lvIn_congr (E : EdgeL) (n : Nat) {g g' : Nat → Nat} (x : Nat) (h : ∀ t, x < t → g t = g' t) : ∀ t, lvIn E n g x t = lvIn E n g' x t := by
  intro t
  induction t with
  | zero => rfl
  | succ t ih =>
    rw [lvIn, lvIn, ih]
    by_cases hx : x < t
    · rw [h t hx]
    · rw [if_neg (by omega), if_neg (by omega)]
theorem lvIn_ge (E : EdgeL) (n : Nat) (g : Nat → Nat) (x : Nat) : ∀ k t, t < k → x < t → edgeK E n x t = true → g t + 1 ≤ lvIn E n g x k := by
  intro k
  induction k with
  | zero => intro t h; omega
  | succ k ih =>
    intro t htk hxt he
    rw [lvIn]
    by_cases e : t = k
    · subst e
      rw [if_pos ⟨hxt, he⟩]
      exact Nat.le_max_right _ _
    · have := ih t (by omega) hxt he
      split
      · exact Nat.le_trans this (Nat.le_max_left _ _)
      · exact this
theorem lvUp_keep (E : EdgeL) (n k : Nat) (x : Nat) : ∀ j d, k ≤ x + j → j + d ≤ k → lvUp E n k (j + d) x = lvUp E n k j x := by
  intro j d
  induction d with
  | zero => intros; rfl
  | succ d ih =>
    intro h1 h2
    rw [← Nat.add_assoc, lvUp]
    unfold upd
    rw [if_neg (by omega)]
    exact ih h1 (by omega)
/-- the level of a component, once found -/
theorem lvUp_eq (E : EdgeL) (n k x : Nat) (hx : x < k) : lvUp E n k k x = lvIn E n (lvUp E n k k) x k := by
  have h1 : lvUp E n k k x = lvUp E n k (k - x) x := by
    have := lvUp_keep E n k x (k - x) x (by omega) (by omega)
    rwa [show k - x + x = k by omega] at this
  have h2 : k - x = (k - x - 1) + 1 := by omega
  rw [h1, h2, lvUp]
  unfold upd
  rw [if_pos (by omega), show k - 1 - (k - x - 1) = x by omega]
  refine lvIn_congr E n x (fun t ht => ?_) k
  by_cases htk : t < k
  · have := lvUp_keep E n k t (k - x - 1) (x + 1) (by omega) (by omega)
    rw [show k - x - 1 + (x + 1) = k by omega] at this
    exact this.symm
  · have hz : ∀ j, lvUp E n k j t = 0 := by
      intro j
      induction j with
      | zero => rfl
      | succ j ih =>
        rw [lvUp]; unfold upd
        by_cases e : t = k - 1 - j
        · exfalso; omega
        · rw [if_neg e]; exact ih
    rw [hz, hz]
theorem level_gt {E : EdgeL} {n k i t : Nat} (hi : i < t) (ht : t < k) (h : edgeK E n i t = true) : lvUp E n k k t < lvUp E n k k i := by
  rw [lvUp_eq E n k i (by omega)]
  exact lvIn_ge E n _ i k t ht hi h

/-! ### the graph of the components -/
theorem condTo_rows (E : EdgeL) (n k : Nat) : ∀ q, condTo E n k q = rowsE (fun i j => i != j && edgeK E n i j) k q := fun q => rfl
theorem cond_check {E : EdgeL} {n : Nat} (hn : (order E n).length ≤ 64) : checkL ((order E n).length : Nat) (condTo E n (order E n).length (order E n).length) = (0, 0) := by
  rw [condTo_rows]; exact check_rows hn _
theorem cond_adj {E : EdgeL} {n i j : Nat} : adj (condTo E n (order E n).length (order E n).length) i j = true ↔ i < (order E n).length ∧ j < (order E n).length ∧ i ≠ j ∧ edgeK E n i j = true := by
  rw [condTo_rows, adj_rows]; simp
theorem cond_W {E : EdgeL} {n : Nat} (hok : Ok n E) : ∀ (m i j : Nat), W (condTo E n (order E n).length (order E n).length) m i j = true → i < j := by
  intro m
  induction m with
  | zero =>
    intro i j h
    obtain ⟨h1, h2, h3, h4⟩ := cond_adj.1 h
    have := edgeK_le hok h1 h2 h4
    omega
  | succ m ih =>
    intro i j h
    simp only [W, Bool.or_eq_true, Bool.and_eq_true] at h
    rcases h with h | ⟨h1, h2⟩
    · exact ih i j h
    · have := ih _ _ h1; have := ih _ _ h2; omega
theorem cond_order {E : EdgeL} {n : Nat} (hok : Ok n E) (hn : (order E n).length ≤ 64) : (orderS ((order E n).length : Nat) (condTo E n (order E n).length (order E n).length)).2 = 0 := by
  rw [orderS_ok (by rw [cond_check hn])]
  refine loopAny_false fun q _ => ?_
  cases h : W (condTo E n (order E n).length (order E n).length) (order E n).length q q with
  | false => rfl
  | true => have := cond_W hok _ _ _ h; omega

/-! ### loops -/
theorem loops_any {E : EdgeL} {n : Nat} (hok : Ok n E) : (loopsN E n).any id = loopAny E n n := by
  rw [Bool.eq_iff_iff]
  simp only [loopsN, List.any_map, List.any_eq_true, loopAny, List.mem_range, Function.comp, id]
  constructor
  · rintro ⟨h, hm, hw⟩; exact ⟨h, (order_heads E n h hm).1, hw⟩
  · rintro ⟨x, hx, hw⟩
    obtain ⟨h, hj, ht⟩ := part_get hok hx
    exact ⟨h, List.mem_of_getElem? hj, W_tog hok ht hw ht⟩

/-! ### each node once -/
def allT (E : EdgeL) (n : Nat) : List Nat := ((order E n).map (comp E n)).flatten
theorem allN_eq (E : EdgeL) (n : Nat) : allN E n = (allT E n).map fun (x : Nat) => (x : Int) := by
  unfold allN allT
  rw [List.map_flatten, List.map_map]; rfl
theorem comp_nodup (E : EdgeL) (n h : Nat) : (comp E n h).Nodup := List.Nodup.sublist List.filter_sublist List.nodup_range
theorem allT_nodup {E : EdgeL} {n : Nat} (hok : Ok n E) : (allT E n).Nodup := by
  unfold allT
  unfold List.Nodup
  rw [List.pairwise_flatten]
  refine ⟨fun l hl => ?_, ?_⟩
  · obtain ⟨h, _, rfl⟩ := List.mem_map.1 hl
    exact comp_nodup E n h
  · rw [List.pairwise_map]
    refine (order_nodup E n).imp_of_mem fun {a b} ha hb hne => ?_
    intro x hx y hy hxy
    subst hxy
    obtain ⟨h1, h2⟩ := mem_comp.1 hx
    obtain ⟨_, h3⟩ := mem_comp.1 hy
    exact hne (head_unique (order_heads E n a ha).2 (order_heads E n b hb).2 (tog_trans hok h2 (tog_symm h3)))
theorem mem_allT {E : EdgeL} {n x : Nat} (hok : Ok n E) : x ∈ allT E n ↔ x < n := by
  unfold allT
  simp only [List.mem_flatten, List.mem_map]
  constructor
  · rintro ⟨l, ⟨h, _, rfl⟩, hx⟩; exact (mem_comp.1 hx).1
  · intro hx
    obtain ⟨h, hj, ht⟩ := part_get hok hx
    exact ⟨_, ⟨h, List.mem_of_getElem? hj, rfl⟩, mem_comp.2 ⟨hx, ht⟩⟩
theorem allT_length {E : EdgeL} {n : Nat} (hok : Ok n E) : (allT E n).length = n := by
  have hp : (allT E n).Perm (List.range n) := (List.perm_ext_iff_of_nodup (allT_nodup hok) List.nodup_range).2 fun x => by rw [mem_allT hok, List.mem_range]
  rw [hp.length_eq, List.length_range]
end Go.Proofs.Ythehbamfjglodaa
