/-
  Plain mathematics of graphs, continued: ways and heaviest chains as the statements speak of them.
-/
import Derived.Test.YthehbamfjglodaaMath5
namespace Go.Proofs.Ythehbamfjglodaa

/-! ### ways -/
theorem setN_lt {E : EdgeL} {n to : Nat} (hok : Ok n E) (hto : to < n) {d i : Nat} (h : setN E n to d i = true) : i < n := by
  cases d with
  | zero => simp [setN] at h; omega
  | succ d =>
    simp only [setN, List.any_eq_true, Bool.and_eq_true] at h
    obtain ⟨j, _, h1, _⟩ := h
    exact (adj_lt hok h1).1
theorem setN_cons {E : EdgeL} {n to d i j : Nat} (hok : Ok n E) (h1 : adj E i j = true) (h2 : setN E n to d j = true) : setN E n to (d + 1) i = true := by
  simp only [setN, List.any_eq_true, Bool.and_eq_true, List.mem_range]
  exact ⟨j, (adj_lt hok h1).2, h1, h2⟩
theorem setN_join {E : EdgeL} {n k to d2 : Nat} (hok : Ok n E) (h2 : setN E n to d2 k = true) : ∀ (d1 i : Nat), setN E n k d1 i = true → setN E n to (d1 + d2) i = true := by
  intro d1
  induction d1 with
  | zero => intro i h; simp [setN] at h; subst h; simpa using h2
  | succ d1 ih =>
    intro i h
    simp only [setN, List.any_eq_true, Bool.and_eq_true, List.mem_range] at h
    obtain ⟨j, _, h3, h4⟩ := h
    rw [show d1 + 1 + d2 = (d1 + d2) + 1 by omega]
    exact setN_cons hok h3 (ih j h4)
/-- what is reached is reached in some number of steps -/
theorem W_set {E : EdgeL} {n : Nat} (hok : Ok n E) : ∀ (m i j : Nat), W E m i j = true → ∃ d, 1 ≤ d ∧ setN E n j d i = true := by
  intro m
  induction m with
  | zero =>
    intro i j h
    exact ⟨1, Nat.le_refl _, setN_cons hok h (by simp [setN])⟩
  | succ m ih =>
    intro i j h
    simp only [W, Bool.or_eq_true, Bool.and_eq_true] at h
    rcases h with h | ⟨h1, h2⟩
    · exact ih i j h
    · obtain ⟨d1, e1, s1⟩ := ih _ _ h1
      obtain ⟨d2, e2, s2⟩ := ih _ _ h2
      exact ⟨d1 + d2, by omega, setN_join hok s2 d1 i s1⟩
theorem set_W {E : EdgeL} {n : Nat} (hok : Ok n E) : ∀ (d i j : Nat), setN E n j (d + 1) i = true → W E n i j = true := by
  intro d
  induction d with
  | zero =>
    intro i j h
    simp only [setN, List.any_eq_true, Bool.and_eq_true, List.mem_range, beq_iff_eq] at h
    obtain ⟨x, _, h1, rfl⟩ := h
    exact W_of_adj n h1
  | succ d ih =>
    intro i j h
    rw [setN] at h
    simp only [List.any_eq_true, Bool.and_eq_true, List.mem_range] at h
    obtain ⟨x, _, h1, h2⟩ := h
    exact W_trans hok (W_of_adj n h1) (ih x j h2)
theorem farF_zero {E : EdgeL} {n to : Nat} : ∀ {D i : Nat}, farF E n to D i = 0 ↔ ∀ d, 1 ≤ d → d ≤ D → setN E n to d i = false := by
  intro D
  induction D with
  | zero => intro i; simp [farF]; intros; omega
  | succ D ih =>
    intro i
    rw [farF]
    constructor
    · intro h d h1 h2
      split at h
      · omega
      · rename_i hc
        by_cases e : d = D + 1
        · subst e
          cases hs : setN E n to (D + 1) i with
          | false => rfl
          | true => exact absurd ⟨h, hs⟩ hc
        · exact ih.1 h d h1 (by omega)
    · intro h
      have h0 := ih.2 fun d h1 h2 => h d h1 (by omega)
      rw [if_neg]
      · exact h0
      · rintro ⟨_, hs⟩
        rw [h (D + 1) (by omega) (Nat.le_refl _)] at hs
        cases hs
theorem farF_pos {E : EdgeL} {n to : Nat} : ∀ {D i m : Nat}, farF E n to D i = m → 1 ≤ m → m ≤ D ∧ setN E n to m i = true ∧ ∀ d, 1 ≤ d → d < m → setN E n to d i = false := by
  intro D
  induction D with
  | zero => intro i m h h1; simp [farF] at h; omega
  | succ D ih =>
    intro i m h h1
    rw [farF] at h
    split at h
    · rename_i hc
      subst h
      exact ⟨Nat.le_refl _, hc.2, fun d h1 h2 => farF_zero.1 hc.1 d h1 (by omega)⟩
    · obtain ⟨h2, h3⟩ := ih h h1
      exact ⟨by omega, h3⟩
theorem farF_is {E : EdgeL} {n to D i m : Nat} (h1 : 1 ≤ m) (h2 : m ≤ D) (h3 : setN E n to m i = true) (h4 : ∀ d, 1 ≤ d → d < m → setN E n to d i = false) : farF E n to D i = m := by
  by_cases h0 : farF E n to D i = 0
  · rw [farF_zero.1 h0 m h1 h2] at h3; cases h3
  · obtain ⟨e1, e2, e3⟩ := farF_pos rfl (show 1 ≤ farF E n to D i by omega)
    rcases Nat.lt_trichotomy (farF E n to D i) m with hl | hl | hl
    · rw [h4 _ (by omega) hl] at e2; cases e2
    · exact hl
    · rw [e3 m h1 hl] at h3; cases h3
/-- a node two steps or more away has a successor one step nearer -/
theorem far_next {E : EdgeL} {n to D i m : Nat} (hok : Ok n E) (h : farF E n to D i = m + 2) : ∃ j, j < n ∧ adj E i j = true ∧ farF E n to D j = m + 1 := by
  obtain ⟨h1, h2, h3⟩ := farF_pos h (by omega)
  rw [setN] at h2
  simp only [List.any_eq_true, Bool.and_eq_true, List.mem_range] at h2
  obtain ⟨j, hj, ha, hs⟩ := h2
  refine ⟨j, hj, ha, farF_is (by omega) (by omega) hs fun d hd1 hd2 => ?_⟩
  cases hd : setN E n to d j with
  | false => rfl
  | true =>
    have := setN_cons hok ha hd
    rw [h3 (d + 1) (by omega) (by omega)] at this
    cases this
theorem nodup_le {n : Nat} {l : List Nat} (hn : l.Nodup) (h : ∀ x ∈ l, x < n) : l.length ≤ n := by
  have hp : l.Perm ((List.range n).filter (fun x => decide (x ∈ l))) := by
    refine (List.perm_ext_iff_of_nodup hn (List.Nodup.sublist List.filter_sublist List.nodup_range)).2 fun x => ?_
    simp only [List.mem_filter, List.mem_range, decide_eq_true_eq]
    exact ⟨fun hx => ⟨h x hx, hx⟩, fun hx => hx.2⟩
  rw [hp.length_eq]
  have := List.length_filter_le (fun x => decide (x ∈ l)) (List.range n)
  simpa using this
/-- the shortest way has at most as many steps as there are nodes -/
theorem far_le {E : EdgeL} {n to D i m : Nat} (hok : Ok n E) (hto : to < n) (h : farF E n to D i = m) : m ≤ n := by
  have hex : ∀ t, t < m → ∃ x, x < n ∧ farF E n to D x = m - t := by
    intro t
    induction t with
    | zero =>
      intro ht
      have h1 := farF_pos h (by omega)
      exact ⟨i, setN_lt hok hto h1.2.1, by simpa using h⟩
    | succ t ih =>
      intro ht
      obtain ⟨x, hx, hf⟩ := ih (by omega)
      obtain ⟨j, hj, _, hfj⟩ := far_next (m := m - t - 2) hok (by rw [hf]; omega)
      exact ⟨j, hj, by rw [hfj]; omega⟩
  let g : Nat → Nat := fun t => if ht : t < m then Classical.choose (hex t ht) else 0
  have hg : ∀ t, t < m → g t < n ∧ farF E n to D (g t) = m - t := fun t ht => by
    have := Classical.choose_spec (hex t ht)
    simp only [g, dif_pos ht]
    exact this
  have hlen : ((List.range m).map g).length = m := by simp
  rw [← hlen]
  refine nodup_le ?_ ?_
  · unfold List.Nodup
    rw [List.pairwise_map]
    refine List.Pairwise.imp_of_mem (R := fun a b => a < b) (fun {a b} ha hb hab e => ?_) List.pairwise_lt_range
    have h1 := (hg a (by simpa using ha)).2
    have h2 := (hg b (by simpa using hb)).2
    rw [e, h2] at h1
    have := List.mem_range.1 hb
    omega
  · intro x hx
    obtain ⟨t, ht, rfl⟩ := List.mem_map.1 hx
    exact (hg t (by simpa using ht)).1
/-- there is a shortest way wherever there is a way -/
theorem far_of_W {E : EdgeL} {n a b : Nat} (hok : Ok n E) (h : W E n a b = true) : 1 ≤ farF E n b n a := by
  obtain ⟨d, hd, hs⟩ := W_set hok n a b h
  have hb := (W_lt hok n h).2
  have h0 : farF E n b d a ≠ 0 := fun h0 => by
    rw [farF_zero.1 h0 d hd (Nat.le_refl _)] at hs; cases hs
  obtain ⟨m, hm⟩ : ∃ m, farF E n b d a = m := ⟨_, rfl⟩
  obtain ⟨h1, h2, h3⟩ := farF_pos hm (by omega)
  have hle := far_le hok hb hm
  have := farF_is (D := n) (by omega) hle h2 h3
  omega
def LinkedL (E : EdgeL) (l : List Nat) : Prop := ∀ k, k + 1 < l.length → adj E (l[k]?.getD 0) (l[k + 1]?.getD 0) = true
theorem linkedL_cons {E : EdgeL} {x y : Nat} {l : List Nat} (h : adj E x y = true) (hl : LinkedL E (y :: l)) : LinkedL E (x :: y :: l) := by
  intro k hk
  cases k with
  | zero => simpa using h
  | succ k => simpa using hl k (by simpa using hk)
/-- the way that is found -/
theorem wayL_good {E : EdgeL} {n to : Nat} (hok : Ok n E) : ∀ (d a : Nat), farF E n to n a = d + 1 → (wayL E n to d a).length = d ∧ LinkedL E (a :: wayL E n to d a ++ [to]) := by
  intro d
  induction d with
  | zero =>
    intro a h
    have h1 := (farF_pos h (by omega)).2.1
    simp only [setN, List.any_eq_true, Bool.and_eq_true, List.mem_range, beq_iff_eq] at h1
    obtain ⟨x, _, h2, rfl⟩ := h1
    refine ⟨rfl, ?_⟩
    intro k hk
    simp [wayL] at hk
    obtain rfl : k = 0 := by omega
    simpa [wayL] using h2
  | succ d ih =>
    intro a h
    obtain ⟨j, hj, ha, hf⟩ := far_next (m := d) hok h
    have hex : ∃ i, nextF E n to a (d + 1) = some i := by
      cases hc : nextF E n to a (d + 1) with
      | some i => exact ⟨i, rfl⟩
      | none =>
        have := List.find?_eq_none.1 hc j (by simpa using hj)
        simp [ha, hf] at this
    obtain ⟨i, hi⟩ := hex
    have hp := List.find?_some hi
    simp only [Bool.and_eq_true, beq_iff_eq] at hp
    obtain ⟨h1, h2⟩ := ih i hp.2
    rw [wayL, hi]
    refine ⟨by simp [h1], ?_⟩
    simp only [List.cons_append] at h2 ⊢
    exact linkedL_cons hp.1 h2

/-! ### heaviest chains -/
def chainOk (E : EdgeL) (n k : Nat) (l : List Nat) : Prop := (∀ x ∈ l, x < k) ∧ ∀ q, q + 1 < l.length → l[q]?.getD 0 < l[q + 1]?.getD 0 ∧ edgeK E n (l[q]?.getD 0) (l[q + 1]?.getD 0) = true
def sumK (E : EdgeL) (n : Nat) (ws : List Int) (l : List Nat) : Int := (l.map (ownK E n ws)).sum
theorem chainOk_cons {E : EdgeL} {n k i t : Nat} {l : List Nat} (hik : i < k) (h : chainOk E n k l) (hh : l[0]? = some t) (hit : i < t) (he : edgeK E n i t = true) : chainOk E n k (i :: l) := by
  refine ⟨fun x hx => ?_, fun q hq => ?_⟩
  · rcases List.mem_cons.1 hx with rfl | hx
    · exact hik
    · exact h.1 x hx
  · cases q with
    | zero => simp only [List.getElem?_cons_zero, List.getElem?_cons_succ, Option.getD_some, hh]; exact ⟨hit, he⟩
    | succ q => simpa using h.2 q (by simpa using hq)
/-- what an entry of the table is good for -/
def bestOk (E : EdgeL) (n k : Nat) (ws : List Int) (x : Nat) (v : Int × List Nat) : Prop := v.2[0]? = some x ∧ chainOk E n k v.2 ∧ v.1 = sumK E n ws v.2
theorem bcIn_ok {E : EdgeL} {n k : Nat} {ws : List Int} {f : Best} {i : Nat} (hik : i < k) (hf : ∀ t, i < t → t < k → bestOk E n k ws t (f t)) : ∀ t, t ≤ k → bestOk E n k ws i (bcIn E n ws f i t) := by
  intro t
  induction t with
  | zero =>
    intro _
    refine ⟨rfl, ⟨fun x hx => ?_, fun q hq => ?_⟩, ?_⟩
    · simp [bcIn] at hx; omega
    · simp [bcIn] at hq
    · simp [bcIn, sumK]
  | succ t ih =>
    intro htk
    rw [bcIn]
    split
    · rename_i hc
      obtain ⟨h1, h2, h3⟩ := hf t hc.1 (by omega)
      exact ⟨rfl, chainOk_cons hik h2 h1 hc.1 hc.2.1, by simp [sumK, h3]⟩
    · exact ih (by omega)
theorem bcUp_ok {E : EdgeL} {n k : Nat} {ws : List Int} : ∀ j x, j ≤ k → k ≤ x + j → x < k → bestOk E n k ws x (bcUp E n ws k j x) := by
  intro j
  induction j with
  | zero => intro x _ h1 h2; omega
  | succ j ih =>
    intro x hj h1 h2
    rw [bcUp]
    unfold updB
    split
    · rename_i e
      subst e
      exact bcIn_ok h2 (fun t h3 h4 => ih t (by omega) (by omega) h4) k (Nat.le_refl _)
    · exact ih x (by omega) (by omega) h2
theorem bcIn_congr {E : EdgeL} {n : Nat} {ws : List Int} {f g : Best} {i : Nat} (h : ∀ t, i < t → f t = g t) : ∀ t, bcIn E n ws f i t = bcIn E n ws g i t := by
  intro t
  induction t with
  | zero => rfl
  | succ t ih =>
    rw [bcIn, bcIn, ih]
    by_cases hx : i < t
    · rw [h t hx]
    · rw [if_neg (fun hc => hx hc.1), if_neg (fun hc => hx hc.1)]
theorem bcUp_keep (E : EdgeL) (n : Nat) (ws : List Int) (k x : Nat) : ∀ j d, k ≤ x + j → j + d ≤ k → bcUp E n ws k (j + d) x = bcUp E n ws k j x := by
  intro j d
  induction d with
  | zero => intros; rfl
  | succ d ih =>
    intro h1 h2
    rw [← Nat.add_assoc, bcUp]
    unfold updB
    rw [if_neg (by omega)]
    exact ih h1 (by omega)
theorem bcUp_eq (E : EdgeL) (n : Nat) (ws : List Int) (k x : Nat) (hx : x < k) : bcUp E n ws k k x = bcIn E n ws (bcUp E n ws k k) x k := by
  have h1 : bcUp E n ws k k x = bcUp E n ws k (k - x) x := by
    have := bcUp_keep E n ws k x (k - x) x (by omega) (by omega)
    rwa [show k - x + x = k by omega] at this
  have h2 : k - x = (k - x - 1) + 1 := by omega
  rw [h1, h2, bcUp]
  unfold updB
  rw [if_pos (by omega), show k - 1 - (k - x - 1) = x by omega]
  refine bcIn_congr (fun t ht => ?_) k
  by_cases htk : t < k
  · have := bcUp_keep E n ws k t (k - x - 1) (x + 1) (by omega) (by omega)
    rw [show k - x - 1 + (x + 1) = k by omega] at this
    exact this.symm
  · have hz : ∀ j, bcUp E n ws k j t = (0, []) := by
      intro j
      induction j with
      | zero => rfl
      | succ j ih =>
        rw [bcUp]; unfold updB
        by_cases e : t = k - 1 - j
        · exfalso; omega
        · rw [if_neg e]; exact ih
    rw [hz, hz]
/-- the greatest weight from i on, over the first t components behind it -/
def bestIn (E : EdgeL) (n : Nat) (ws : List Int) (B : Nat → Int) (i : Nat) : Nat → Int
  | 0 => ownK E n ws i
  | t + 1 => if i < t ∧ edgeK E n i t = true then max (bestIn E n ws B i t) (ownK E n ws i + B t) else bestIn E n ws B i t
theorem bestIn_bc (E : EdgeL) (n : Nat) (ws : List Int) (f : Best) (i : Nat) : ∀ t, bestIn E n ws (fun x => (f x).1) i t = (bcIn E n ws f i t).1 := by
  intro t
  induction t with
  | zero => rfl
  | succ t ih =>
    rw [bestIn, bcIn, ih]
    by_cases h1 : i < t ∧ edgeK E n i t = true
    · rw [if_pos h1]
      by_cases h2 : ownK E n ws i + (f t).1 > (bcIn E n ws f i t).1
      · rw [if_pos ⟨h1.1, h1.2, h2⟩]; simp only []; omega
      · rw [if_neg (fun hc => h2 hc.2.2)]; omega
    · rw [if_neg h1, if_neg (fun hc => h1 ⟨hc.1, hc.2.1⟩)]
/-- the weight of the best chain from x on -/
def bestW (E : EdgeL) (n : Nat) (ws : List Int) (k x : Nat) : Int := (bcUp E n ws k k x).1
theorem bestW_eq {E : EdgeL} {n k x : Nat} {ws : List Int} (hx : x < k) : bestW E n ws k x = bestIn E n ws (bestW E n ws k) x k := by
  unfold bestW
  rw [bcUp_eq E n ws k x hx]
  exact (bestIn_bc E n ws _ x k).symm
theorem bestIn_low {E : EdgeL} {n i : Nat} {ws : List Int} {B : Nat → Int} : ∀ t, t ≤ i + 1 → bestIn E n ws B i t = ownK E n ws i := by
  intro t
  induction t with
  | zero => intro _; rfl
  | succ t ih => intro h; rw [bestIn, if_neg (by omega)]; exact ih (by omega)
theorem atF_max {f : Best} : ∀ q, (0 < q → 0 ≤ atF f q ∧ atF f q < q) ∧ ∀ x, x < q → (f x).1 ≤ (f (atF f q).toNat).1 := by
  intro q
  induction q with
  | zero => exact ⟨fun h => by omega, fun x h => by omega⟩
  | succ q ih =>
    refine ⟨fun _ => ⟨(atF_ge f (q + 1)).2 (by omega), atF_lt f (q + 1)⟩, fun x hx => ?_⟩
    rw [atF]
    split
    · rename_i hc
      rw [Int.toNat_natCast]
      by_cases e : x = q
      · subst e; exact Int.le_refl _
      · have h1 := ih.2 x (by omega)
        rcases hc with hc | hc
        · have := (ih.1 (by omega)).1; omega
        · omega
    · rename_i hc
      by_cases e : x = q
      · subst e
        have : ¬ (f x).1 > (f (atF f x).toNat).1 := fun h => hc (.inr h)
        omega
      · exact ih.2 x (by omega)
/-- Heaviest's answer: the chain's weight, none heavier. -/
theorem heavy_spec {E : EdgeL} {n k : Nat} {ws : List Int} (hk : (order E n).length = k) (h0 : 0 < k) :
    ∃ at_ : Nat, ∃ l : List Nat, heavyN E n ws = (sumK E n ws l, l.map fun (x : Nat) => (x : Int)) ∧ l[0]? = some at_ ∧ chainOk E n k l ∧ ∀ x, x < k → bestW E n ws k x ≤ sumK E n ws l := by
  subst hk
  have hm := atF_max (f := bcUp E n ws (order E n).length (order E n).length) (order E n).length
  have h1 := hm.1 h0
  have hx : (atF (bcUp E n ws (order E n).length (order E n).length) (order E n).length).toNat < (order E n).length := by omega
  obtain ⟨b1, b2, b3⟩ := bcUp_ok (E := E) (n := n) (ws := ws) (order E n).length _ (Nat.le_refl _) (by omega) hx
  refine ⟨_, _, ?_, b1, b2, fun x hx => ?_⟩
  · unfold heavyN
    simp only []
    rw [if_neg (by omega), ← b3]
  · rw [← b3]
    exact hm.2 x hx
theorem heavy_none {E : EdgeL} {n : Nat} {ws : List Int} (hk : (order E n).length = 0) : heavyN E n ws = (0, []) := by
  unfold heavyN
  simp only [hk]
  rfl
theorem order_pos {E : EdgeL} {n : Nat} (hok : Ok n E) : (order E n).length = 0 ↔ n = 0 := by
  constructor
  · intro h
    rcases Nat.eq_zero_or_pos n with h0 | h0
    · exact h0
    · have := part_lt hok h0; omega
  · intro h
    have := order_le E n; omega
end Go.Proofs.Ythehbamfjglodaa
