/-
  Plain mathematics of graphs, continued: weights made of numbers, sums along a chain.
-/
import Derived.Test.YthehbamfjglodaaMath6
namespace Go.Proofs.Ythehbamfjglodaa
/-- the weights of the first q nodes -/
def wsTo (xs : List Int) (q : Nat) : List Int := (List.range q).map fun i => (xs[i]?.getD 0).tdiv 7 % 6
theorem wsTo_succ (xs : List Int) (q : Nat) : wsTo xs (q + 1) = wsTo xs q ++ [(xs[q]?.getD 0).tdiv 7 % 6] := by
  unfold wsTo; rw [List.range_succ, List.map_append]; rfl
theorem wsTo_len (xs : List Int) (q : Nat) : (wsTo xs q).length = q := by simp [wsTo]
theorem wsTo_bad (xs : List Int) (q : Nat) : (wsTo xs q).any badW = false := by
  simp only [List.any_eq_false]
  intro y hy
  simp only [wsTo, List.mem_map] at hy
  obtain ⟨i, _, rfl⟩ := hy
  have h1 := Int.emod_nonneg ((xs[i]?.getD 0).tdiv 7) (b := 6) (by omega)
  have h2 := Int.emod_lt_of_pos ((xs[i]?.getD 0).tdiv 7) (b := 6) (by omega)
  simp [badW]
  omega
theorem wsTo_get {xs : List Int} {q x : Nat} (h : x < q) : (wsTo xs q)[x]? = some ((xs[x]?.getD 0).tdiv 7 % 6) := by
  simp [wsTo, h]
theorem sumK_succ {E : EdgeL} {n q y : Nat} {ws : List Int} {l : List Nat} (h : l[q]? = some y) : sumK E n ws (l.take (q + 1)) = sumK E n ws (l.take q) + ownK E n ws y := by
  unfold sumK; rw [List.take_add_one, h]; simp
theorem sumK_in {ws : List Int} (h : WOk ws) (E : EdgeL) (n : Nat) (l : List Nat) : ∀ q, 0 ≤ sumK E n ws (l.take q) ∧ sumK E n ws (l.take q) ≤ 1000 * q := by
  intro q
  induction q with
  | zero => simp [sumK]
  | succ q ih =>
    cases hq : l[q]? with
    | none =>
      rw [List.take_add_one, hq]
      simp only [Option.toList_none, List.append_nil]
      omega
    | some y =>
      have := ownK_in h E n y
      rw [sumK_succ hq]
      omega
theorem bestW_in {ws : List Int} (h : WOk ws) (E : EdgeL) (n k x : Nat) : 0 ≤ bestW E n ws k x ∧ bestW E n ws k x ≤ 1000 * k := bcUp_in h E n k k x
theorem bestIn_in {ws : List Int} (h : WOk ws) (E : EdgeL) (n k x t : Nat) : 0 ≤ bestIn E n ws (bestW E n ws k) x t ∧ bestIn E n ws (bestW E n ws k) x t ≤ 1000 * k + 1000 := by
  have e : bestIn E n ws (bestW E n ws k) x t = (bcIn E n ws (bcUp E n ws k k) x t).1 := bestIn_bc E n ws (bcUp E n ws k k) x t
  rw [e]
  exact bcIn_in h (by omega) (fun y => bcUp_in h E n k k y) x t
def castN (l : List Nat) : List Int := l.map fun (x : Nat) => (x : Int)
/-- Heaviest's answer, whether there are nodes or not. -/
theorem heavy_all {E : EdgeL} {n k : Nat} {ws : List Int} (hok : Ok n E) (hk : (order E n).length = k) :
    ∃ l : List Nat, heavyN E n ws = (sumK E n ws l, castN l) ∧ chainOk E n k l ∧ (∀ x, x < k → bestW E n ws k x ≤ sumK E n ws l) ∧ (l.length = 0 ↔ n = 0) ∧ l.length ≤ k := by
  have hp := order_pos hok
  rw [hk] at hp
  by_cases h0 : k = 0
  · refine ⟨[], ?_, ⟨fun x hx => by simp at hx, fun q hq => by simp at hq⟩, fun x hx => by omega, by simpa using hp.1 h0, Nat.zero_le _⟩
    rw [heavy_none (by rw [hk, h0])]
    rfl
  · subst hk
    have hm := (atF_max (f := bcUp E n ws (order E n).length (order E n).length) (order E n).length)
    have h1 := hm.1 (by omega)
    have hx : (atF (bcUp E n ws (order E n).length (order E n).length) (order E n).length).toNat < (order E n).length := by omega
    obtain ⟨b1, b2, b3⟩ := bcUp_ok (E := E) (n := n) (ws := ws) (order E n).length _ (Nat.le_refl _) (by omega) hx
    refine ⟨_, ?_, b2, fun x hx => ?_, ?_, bcUp_len (ws := ws) E n _ _ _⟩
    · unfold heavyN
      simp only []
      rw [if_neg (by omega), ← b3]
      rfl
    · rw [← b3]
      exact hm.2 x hx
    · have hl : 0 < (bcUp E n ws (order E n).length (order E n).length (atF (bcUp E n ws (order E n).length (order E n).length) (order E n).length).toNat).2.length := by
        have := (List.getElem?_eq_some_iff.1 b1).1; exact this
      constructor
      · intro h; omega
      · intro h; exact absurd (hp.2 h) h0
end Go.Proofs.Ythehbamfjglodaa
