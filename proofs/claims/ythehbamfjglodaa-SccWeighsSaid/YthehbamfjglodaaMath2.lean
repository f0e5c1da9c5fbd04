/-
  Plain mathematics of graphs, continued: what each function of the program answers.
-/
import Derived.Test.YthehbamfjglodaaMath
namespace Go.Proofs.Ythehbamfjglodaa
theorem pick_lt (E : EdgeL) (n : Nat) (hs : List Nat) (h : hs ≠ []) : (pickIx E n hs).toNat < hs.length := by
  have hp : 0 < hs.length := List.length_pos_iff.2 h
  unfold pickIx findIx
  split
  · rename_i j hj
    have := List.mem_of_find?_eq_some hj
    simpa using this
  · simpa using hp
theorem erase_perm (l : List Nat) : ∀ (i : Nat) (h : i < l.length), (l[i] :: l.eraseIdx i).Perm l := by
  induction l with
  | nil => intro i h; simp at h
  | cons x t ih =>
    intro i h
    cases i with
    | zero => simp
    | succ i =>
      simp only [List.getElem_cons_succ, List.eraseIdx_cons_succ]
      exact (List.Perm.swap _ _ _).trans (List.Perm.cons _ (ih i (by simpa using h)))
theorem orderL_perm (E : EdgeL) (n : Nat) : ∀ (f : Nat) (hs : List Nat), hs.length = f → (orderL E n f hs).Perm hs := by
  intro f
  induction f with
  | zero => intro hs h; rw [List.eq_nil_of_length_eq_zero h]; exact List.Perm.refl _
  | succ f ih =>
    intro hs h
    have hne : hs ≠ [] := by rintro rfl; simp at h
    have hl := pick_lt E n hs hne
    rw [orderL, if_neg hne, List.getElem?_eq_getElem hl, Option.getD_some]
    exact (List.Perm.cons _ (ih _ (by rw [List.length_eraseIdx, if_pos hl]; omega))).trans (erase_perm hs _ hl)
theorem order_perm (E : EdgeL) (n : Nat) : (order E n).Perm (heads E n) := orderL_perm E n _ _ rfl
theorem order_heads (E : EdgeL) (n : Nat) : ∀ h ∈ order E n, h < n ∧ isHead E n h = true := fun _ hm => heads_lt ((order_perm E n).mem_iff.1 hm)
theorem order_nodup (E : EdgeL) (n : Nat) : (order E n).Nodup := (order_perm E n).nodup_iff.2 (heads_nodup E n)
/-- The components in order; none of a graph that is not valid. -/
def partsL (N : Int) (E : EdgeL) : List (List Int) := if (checkL N E).1 = 0 then (order E N.toNat).map (compI E N.toNat) else []
theorem partsL_ok {n : Nat} {E : EdgeL} (h : (checkL n E).1 = 0) : partsL n E = (order E n).map (compI E n) := by simp [partsL, h]
theorem partsL_bad {N : Int} {E : EdgeL} (h : (checkL N E).1 ≠ 0) : partsL N E = [] := by simp [partsL, h]
def loopsN (E : EdgeL) (n : Nat) : List Bool := (order E n).map fun h => W E n h h
def loopsL (N : Int) (E : EdgeL) : List Bool := if (checkL N E).1 = 0 then loopsN E N.toNat else []
theorem loopsL_ok {n : Nat} {E : EdgeL} (h : (checkL n E).1 = 0) : loopsL n E = loopsN E n := by simp [loopsL, h]
theorem loopsL_bad {N : Int} {E : EdgeL} (h : (checkL N E).1 ≠ 0) : loopsL N E = [] := by simp [loopsL, h]
/-- an edge from a component to another one -/
def edgeH (E : EdgeL) (n h h' : Nat) : Bool := (comp E n h).any fun a => (comp E n h').any fun b => adj E a b
/-- by the components' numbers -/
def edgeK (E : EdgeL) (n : Nat) (i k : Nat) : Bool := edgeH E n ((order E n)[i]?.getD 0) ((order E n)[k]?.getD 0)
/-- the nodes that one reaches -/
def reachN (E : EdgeL) (n a k : Nat) : List Int := ((List.range k).filter (W E n a)).map fun (x : Nat) => (x : Int)
def reachL (N : Int) (E : EdgeL) (a : Int) : List Int × Int :=
  if (checkL N E).1 = 0 then (if 0 ≤ a ∧ a < N then (reachN E N.toNat a.toNat N.toNat, 0) else ([], 2)) else ([], (checkL N E).1)
theorem reachL_bad {N a : Int} {E : EdgeL} (h : (checkL N E).1 ≠ 0) : reachL N E a = ([], (checkL N E).1) := by simp [reachL, h]
theorem reachL_out {N a : Int} {E : EdgeL} (h : (checkL N E).1 = 0) (ha : ¬ (0 ≤ a ∧ a < N)) : reachL N E a = ([], 2) := by simp [reachL, h, ha]
theorem reachL_in {n a : Nat} {E : EdgeL} (h : (checkL n E).1 = 0) (ha : a < n) : reachL n E a = (reachN E n a n, 0) := by
  have h2 : (0 : Int) ≤ a ∧ (a : Int) < n := by omega
  simp [reachL, h, ha]
theorem reachN_succ (E : EdgeL) (n a k : Nat) : reachN E n a (k + 1) = reachN E n a k ++ (if W E n a k then [(k : Int)] else []) := by
  unfold reachN
  rw [List.range_succ, List.filter_append, List.map_append, List.filter_cons, List.filter_nil]
  split <;> rfl
theorem reachN_le (E : EdgeL) (n a k : Nat) : (reachN E n a k).length ≤ k := by
  have := List.length_filter_le (W E n a) (List.range k)
  simpa [reachN] using this
def loopAny (E : EdgeL) (n k : Nat) : Bool := (List.range k).any fun i => W E n i i
theorem loopAny_true {E : EdgeL} {n q k : Nat} (hq : q < k) (h : W E n q q = true) : loopAny E n k = true := by
  simp only [loopAny, List.any_eq_true]
  exact ⟨q, by simpa using hq, h⟩
theorem loopAny_false {E : EdgeL} {n k : Nat} (h : ∀ q, q < k → W E n q q = false) : loopAny E n k = false := by
  simp only [loopAny, List.any_eq_false]
  intro q hq
  simp [h q (by simpa using hq)]
/-- All nodes, component by component. -/
def allN (E : EdgeL) (n : Nat) : List Int := ((order E n).map (compI E n)).flatten
def orderS (N : Int) (E : EdgeL) : List Int × Int :=
  if (checkL N E).1 = 0 then (if loopAny E N.toNat N.toNat then ([], 16) else (allN E N.toNat, 0)) else ([], (checkL N E).1)
theorem orderS_bad {N : Int} {E : EdgeL} (h : (checkL N E).1 ≠ 0) : orderS N E = ([], (checkL N E).1) := by simp [orderS, h]
theorem orderS_loop {n : Nat} {E : EdgeL} (h : (checkL n E).1 = 0) (hl : loopAny E n n = true) : orderS n E = ([], 16) := by simp [orderS, h, hl]
theorem orderS_ok {n : Nat} {E : EdgeL} (h : (checkL n E).1 = 0) (hl : loopAny E n n = false) : orderS n E = (allN E n, 0) := by simp [orderS, h, hl]
theorem comps_le (E : EdgeL) (n : Nat) : ∀ hs : List Nat, ((hs.map (compI E n)).flatten).length ≤ hs.length * n := by
  intro hs
  induction hs with
  | nil => simp
  | cons h t ih =>
    have h1 := comp_length_le E n h
    have h2 := compI_length E n h
    rw [List.map_cons, List.flatten_cons, List.length_append, List.length_cons, Nat.add_mul]
    omega
theorem comps_ne (E : EdgeL) (n : Nat) : ∀ l ∈ (order E n).map (compI E n), l ≠ [] := by
  intro l hl
  obtain ⟨h, hm, rfl⟩ := List.mem_map.1 hl
  have := order_heads E n h hm
  have h1 := compI_first this.2 this.1
  intro e
  rw [e] at h1
  simp at h1

/-! ### levels -/
/-- the greatest level of a successor below t, and one -/
def lvIn (E : EdgeL) (n : Nat) (g : Nat → Nat) (x : Nat) : Nat → Nat
  | 0 => 0
  | t + 1 => if x < t ∧ edgeK E n x t = true then max (lvIn E n g x t) (g t + 1) else lvIn E n g x t
/-- the levels behind j rounds from the back -/
def lvUp (E : EdgeL) (n k : Nat) : Nat → Nat → Nat
  | 0 => fun _ => 0
  | j + 1 => upd (lvUp E n k j) (k - 1 - j) (lvIn E n (lvUp E n k j) (k - 1 - j) k)
theorem lvIn_low (E : EdgeL) (n : Nat) (g : Nat → Nat) (x : Nat) : ∀ t, t ≤ x + 1 → lvIn E n g x t = 0 := by
  intro t
  induction t with
  | zero => intro _; rfl
  | succ t ih => intro h; rw [lvIn, if_neg (by omega)]; exact ih (by omega)
theorem lvIn_le (E : EdgeL) (n : Nat) (g : Nat → Nat) (x B : Nat) (hg : ∀ y, g y ≤ B) : ∀ t, lvIn E n g x t ≤ B + 1 := by
  intro t
  induction t with
  | zero => simp [lvIn]
  | succ t ih =>
    rw [lvIn]; split
    · exact Nat.max_le.2 ⟨ih, by have := hg t; omega⟩
    · exact ih
theorem lvUp_le (E : EdgeL) (n k : Nat) : ∀ j x, lvUp E n k j x ≤ j := by
  intro j
  induction j with
  | zero => intro x; simp [lvUp]
  | succ j ih =>
    intro x
    rw [lvUp]
    unfold upd
    split
    · exact lvIn_le E n _ _ j ih k
    · have := ih x; omega
/-- which component a node is in -/
def partIx (E : EdgeL) (n x : Nat) : Nat := (order E n).findIdx fun h => tog E n h x
theorem part_ex {E : EdgeL} {n x : Nat} (hok : Ok n E) (hx : x < n) : ∃ j h : Nat, (order E n)[j]? = some h ∧ tog E n h x = true := by
  obtain ⟨h, hle, hh, ht⟩ := head_below hok x
  have hm : h ∈ order E n := (order_perm E n).mem_iff.2 (mem_headsTo.2 ⟨by omega, hh⟩)
  obtain ⟨j, hj⟩ := List.mem_iff_getElem?.1 hm
  exact ⟨j, h, hj, ht⟩
theorem part_get {E : EdgeL} {n x : Nat} (hok : Ok n E) (hx : x < n) : ∃ h, (order E n)[partIx E n x]? = some h ∧ tog E n h x = true := by
  obtain ⟨j, h, hj, ht⟩ := part_ex hok hx
  have hl : partIx E n x < (order E n).length := List.findIdx_lt_length_of_exists ⟨h, List.mem_of_getElem? hj, ht⟩
  exact ⟨_, List.getElem?_eq_getElem hl, List.findIdx_getElem (w := hl)⟩
theorem part_eq {E : EdgeL} {n x j h : Nat} (hok : Ok n E) (hx : x < n) (hj : (order E n)[j]? = some h) (ht : tog E n h x = true) : j = partIx E n x := by
  obtain ⟨h', hj', ht'⟩ := part_get hok hx
  have he : h = h' := head_unique (order_heads E n h (List.mem_of_getElem? hj)).2 (order_heads E n h' (List.mem_of_getElem? hj')).2 (tog_trans hok ht (tog_symm ht'))
  subst he
  obtain ⟨h1, e1⟩ := List.getElem?_eq_some_iff.1 hj
  obtain ⟨h2, e2⟩ := List.getElem?_eq_some_iff.1 hj'
  exact (List.getElem_inj (order_nodup E n)).1 (e1.trans e2.symm)
theorem partOk_ix {E : EdgeL} {n x : Nat} {pf : Nat → Nat} (hok : Ok n E) (hp : PartOk E n (order E n) pf) (hx : x < n) : pf x = partIx E n x ∧ pf x < (order E n).length := by
  obtain ⟨h, hj, ht⟩ := part_get hok hx
  have := hp x hx _ h hj ht
  exact ⟨this, by rw [this]; exact (List.getElem?_eq_some_iff.1 hj).1⟩
def levelsN (E : EdgeL) (n q : Nat) : List Int := (List.range q).map fun x => ((lvUp E n (order E n).length (order E n).length (partIx E n x) : Nat) : Int)
def levelsL (N : Int) (E : EdgeL) : List Int := if (checkL N E).1 = 0 then levelsN E N.toNat N.toNat else []
theorem levelsL_ok {n : Nat} {E : EdgeL} (h : (checkL n E).1 = 0) : levelsL n E = levelsN E n n := by simp [levelsL, h]
theorem levelsL_bad {N : Int} {E : EdgeL} (h : (checkL N E).1 ≠ 0) : levelsL N E = [] := by simp [levelsL, h]
theorem levelsN_succ (E : EdgeL) (n q : Nat) : levelsN E n (q + 1) = levelsN E n q ++ [((lvUp E n (order E n).length (order E n).length (partIx E n q) : Nat) : Int)] := by
  unfold levelsN; rw [List.range_succ, List.map_append]; rfl
theorem levelsN_len (E : EdgeL) (n q : Nat) : (levelsN E n q).length = q := by simp [levelsN]

/-! ### the graph of the components -/
def condI (E : EdgeL) (n i t : Nat) : EdgeL := ((List.range t).filter fun j => i != j && edgeK E n i j).map fun (j : Nat) => ((i : Int), (j : Int))
def condTo (E : EdgeL) (n k q : Nat) : EdgeL := (List.range q).flatMap fun i => condI E n i k
theorem condI_succ (E : EdgeL) (n i t : Nat) : condI E n i (t + 1) = condI E n i t ++ (if (i != t && edgeK E n i t) = true then [((i : Int), (t : Int))] else []) := by
  unfold condI
  rw [List.range_succ, List.filter_append, List.map_append, List.filter_cons, List.filter_nil]
  split <;> rfl
theorem condTo_succ (E : EdgeL) (n k q : Nat) : condTo E n k (q + 1) = condTo E n k q ++ condI E n q k := by
  unfold condTo; rw [List.range_succ, List.flatMap_append]; simp
theorem condI_le (E : EdgeL) (n i t : Nat) : (condI E n i t).length ≤ t := by
  have := List.length_filter_le (fun j => i != j && edgeK E n i j) (List.range t)
  simpa [condI] using this
theorem condTo_le (E : EdgeL) (n k : Nat) : ∀ q, (condTo E n k q).length ≤ q * k := by
  intro q
  induction q with
  | zero => simp [condTo]
  | succ q ih =>
    have := condI_le E n q k
    rw [condTo_succ, List.length_append, Nat.add_mul]
    omega
/-- nodes, edges, error -/
def condL (N : Int) (E : EdgeL) : Int × EdgeL :=
  if (checkL N E).1 = 0 then (((order E N.toNat).length : Nat), condTo E N.toNat (order E N.toNat).length (order E N.toNat).length) else (0, [])
theorem condL_ok {n : Nat} {E : EdgeL} (h : (checkL n E).1 = 0) : condL n E = ((((order E n).length : Nat) : Int), condTo E n (order E n).length (order E n).length) := by simp [condL, h]
theorem condL_bad {N : Int} {E : EdgeL} (h : (checkL N E).1 ≠ 0) : condL N E = (0, []) := by simp [condL, h]
end Go.Proofs.Ythehbamfjglodaa
