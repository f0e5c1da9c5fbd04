/-
  Plain mathematics of graphs, continued: the shortest way as the program finds it.
-/
import Derived.Test.YthehbamfjglodaaMath2
namespace Go.Proofs.Ythehbamfjglodaa
/-- from which nodes 'to' is reached in just d steps -/
def setN (E : EdgeL) (n to : Nat) : Nat → Nat → Bool
  | 0, i => i == to
  | d + 1, i => (List.range n).any fun j => adj E i j && setN E n to d j
/-- the least number of steps, from 1 to D; 0: none -/
def farF (E : EdgeL) (n to : Nat) : Nat → Nat → Nat
  | 0, _ => 0
  | D + 1, i => if farF E n to D i = 0 ∧ setN E n to (D + 1) i = true then D + 1 else farF E n to D i
def nextF (E : EdgeL) (n to at_ d : Nat) : Option Nat := (List.range n).find? fun i => adj E at_ i && farF E n to n i == d
/-- the nodes between -/
def wayL (E : EdgeL) (n to : Nat) : Nat → Nat → List Nat
  | 0, _ => []
  | d + 1, a => match nextF E n to a (d + 1) with
    | some i => i :: wayL E n to d i
    | none => wayL E n to d a
def pathN (E : EdgeL) (n a to : Nat) : List Int := ((a :: wayL E n to (farF E n to n a - 1) a) ++ [to]).map fun (x : Nat) => (x : Int)
def pathL (N : Int) (E : EdgeL) (a b : Int) : List Int × Int :=
  if (checkL N E).1 = 0 then
    (if 0 ≤ a ∧ a < N ∧ 0 ≤ b ∧ b < N then (if W E N.toNat a.toNat b.toNat then (pathN E N.toNat a.toNat b.toNat, 0) else ([], 3)) else ([], 2))
  else ([], (checkL N E).1)
theorem pathL_bad {N a b : Int} {E : EdgeL} (h : (checkL N E).1 ≠ 0) : pathL N E a b = ([], (checkL N E).1) := by simp [pathL, h]
theorem pathL_out {N a b : Int} {E : EdgeL} (h : (checkL N E).1 = 0) (ha : ¬ (0 ≤ a ∧ a < N ∧ 0 ≤ b ∧ b < N)) : pathL N E a b = ([], 2) := by simp only [pathL, h, ha]; rfl
theorem pathL_none {n a b : Nat} {E : EdgeL} (h : (checkL n E).1 = 0) (ha : a < n) (hb : b < n) (hw : W E n a b = false) : pathL n E a b = ([], 3) := by
  have h2 : (0 : Int) ≤ a ∧ (a : Int) < n ∧ (0 : Int) ≤ b ∧ (b : Int) < n := by omega
  simp only [pathL, h, h2, Int.toNat_natCast, hw]; rfl
theorem pathL_in {n a b : Nat} {E : EdgeL} (h : (checkL n E).1 = 0) (ha : a < n) (hb : b < n) (hw : W E n a b = true) : pathL n E a b = (pathN E n a b, 0) := by
  have h2 : (0 : Int) ≤ a ∧ (a : Int) < n ∧ (0 : Int) ≤ b ∧ (b : Int) < n := by omega
  simp only [pathL, h, h2, Int.toNat_natCast, hw]; rfl

/-- the bits of a number are a set -/
def BitsOf (S : Nat) (p : Nat → Bool) : Prop := S < 18446744073709551616 ∧ ∀ j, S.testBit j = p j
theorem BitsOf.congr {S : Nat} {p q : Nat → Bool} (h : BitsOf S p) (e : ∀ j, p j = q j) : BitsOf S q := ⟨h.1, fun j => (h.2 j).trans (e j)⟩
theorem bits_one {to : Nat} (h : to < 64) (E : EdgeL) (n : Nat) : BitsOf (2 ^ to) (setN E n to 0) := by
  refine ⟨Nat.lt_of_lt_of_le (Nat.pow_lt_pow_right (by omega) h) (by decide), fun j => ?_⟩
  rw [Nat.testBit_two_pow, setN, Bool.eq_iff_iff]
  simp
  omega
theorem bits_zero : BitsOf 0 (fun _ => false) := ⟨by omega, fun j => Nat.zero_testBit j⟩
theorem bits_or {S i : Nat} {p : Nat → Bool} (h : BitsOf S p) (hi : i < 64) : BitsOf (S ||| 2 ^ i) (fun j => p j || j == i) := by
  refine ⟨Nat.or_lt_two_pow (n := 64) h.1 (Nat.pow_lt_pow_right (by omega) hi), fun j => ?_⟩
  rw [Nat.testBit_or, h.2, Nat.testBit_two_pow]
  congr 1
  rw [Bool.eq_iff_iff]
  simp
  omega
theorem and_any {E : EdgeL} {n i : Nat} {nxt : Nat → Nat} {S : Nat} {p : Nat → Bool} (hok : Ok n E) (hr : RchRel E 0 nxt) (h : BitsOf S p) : (nxt i &&& S != 0) = (List.range n).any fun j => adj E i j && p j := by
  rw [Bool.eq_iff_iff]
  simp only [bne_iff_ne, ne_eq, List.any_eq_true, List.mem_range, Bool.and_eq_true]
  constructor
  · intro hne
    refine Classical.byContradiction fun hno => hne (Nat.eq_of_testBit_eq fun j => ?_)
    rw [Nat.testBit_and, Nat.zero_testBit, hr.2, h.2]
    cases ha : W E 0 i j with
    | false => rfl
    | true =>
      cases hp : p j with
      | false => rfl
      | true => exact absurd ⟨j, (adj_lt hok ha).2, ha, hp⟩ hno
  · rintro ⟨j, _, ha, hp⟩ h0
    have h1 : (nxt i &&& S).testBit j = true := by
      rw [Nat.testBit_and, hr.2, h.2, hp]
      have : W E 0 i j = true := ha
      rw [this]; rfl
    rw [h0, Nat.zero_testBit] at h1
    cases h1
/-- what the inner loop keeps -/
def nextIn (E : EdgeL) (n to d i : Nat) : Nat → Bool := fun j => decide (j < i) && setN E n to d j
def farIn (E : EdgeL) (n to d i : Nat) : Nat → Nat := fun x => if x < i then farF E n to (d + 1) x else farF E n to d x
theorem farIn_start (E : EdgeL) (n to d : Nat) : farIn E n to d 0 = farF E n to d := by funext x; simp [farIn]
theorem nextIn_yes {E : EdgeL} {n to d i S : Nat} (h : BitsOf S (nextIn E n to d i)) (hi : i < 64) (hs : setN E n to d i = true) : BitsOf (S ||| 2 ^ i) (nextIn E n to d (i + 1)) := by
  refine (bits_or h hi).congr fun j => ?_
  unfold nextIn
  by_cases e : j = i
  · subst e; simp [hs]
  · have : decide (j < i + 1) = decide (j < i) := by rw [decide_eq_decide]; omega
    simp [e, this]
theorem nextIn_no {E : EdgeL} {n to d i S : Nat} (h : BitsOf S (nextIn E n to d i)) (hs : setN E n to d i = false) : BitsOf S (nextIn E n to d (i + 1)) := by
  refine h.congr fun j => ?_
  unfold nextIn
  by_cases e : j = i
  · subst e; simp [hs]
  · have : decide (j < i + 1) = decide (j < i) := by rw [decide_eq_decide]; omega
    simp [this]
theorem nextIn_done {E : EdgeL} {n to d S : Nat} (hok : Ok n E) (h : BitsOf S (nextIn E n to (d + 1) n)) : BitsOf S (setN E n to (d + 1)) := by
  refine h.congr fun j => ?_
  unfold nextIn
  by_cases e : j < n
  · simp [e]
  · have : setN E n to (d + 1) j = false := by
      simp only [setN, List.any_eq_false]
      intro x _
      cases ha : adj E j x with
      | false => simp
      | true => exact absurd (adj_lt hok ha).1 e
    simp [e, this]
theorem farIn_set {E : EdgeL} {n to d i : Nat} (h0 : farIn E n to d i i = 0) (hs : setN E n to (d + 1) i = true) : upd (farIn E n to d i) i (d + 1) = farIn E n to d (i + 1) := by
  funext x
  have h1 : farF E n to d i = 0 := by simpa [farIn] using h0
  unfold upd farIn
  by_cases e : x = i
  · subst e; simp [farF, h1, hs]
  · rw [if_neg e]
    by_cases hlt : x < i
    · rw [if_pos hlt, if_pos (by omega)]
    · rw [if_neg hlt, if_neg (by omega)]
theorem farIn_no {E : EdgeL} {n to d i : Nat} (h : ¬ (farIn E n to d i i = 0 ∧ setN E n to (d + 1) i = true)) : farIn E n to d (i + 1) = farIn E n to d i := by
  funext x
  have h1 : farIn E n to d i i = farF E n to d i := by simp [farIn]
  rw [h1] at h
  unfold farIn
  by_cases e : x = i
  · subst e; rw [if_pos (by omega), if_neg (by omega), farF, if_neg h]
  · by_cases hlt : x < i
    · rw [if_pos hlt, if_pos (by omega)]
    · rw [if_neg hlt, if_neg (by omega)]
theorem farF_le (E : EdgeL) (n to : Nat) : ∀ D i, farF E n to D i ≤ D := by
  intro D
  induction D with
  | zero => intro i; simp [farF]
  | succ D ih => intro i; rw [farF]; split; · exact Nat.le_refl _
                 · have := ih i; omega
theorem wayL_le (E : EdgeL) (n to : Nat) : ∀ d a, (wayL E n to d a).length ≤ d := by
  intro d
  induction d with
  | zero => intro a; simp [wayL]
  | succ d ih =>
    intro a
    rw [wayL]
    split
    · rename_i i _; have := ih i; simp; omega
    · have := ih a; omega
theorem nextF_lt {E : EdgeL} {n to a d i : Nat} (h : nextF E n to a d = some i) : i < n := by
  have := List.mem_of_find?_eq_some h
  simpa using this
theorem nextF_some {E : EdgeL} {n to a d i : Nat} (hi : i < n) (h : (adj E a i && farF E n to n i == d) = true) (hb : ∀ j, j < i → (adj E a j && farF E n to n j == d) = false) : nextF E n to a d = some i := by
  unfold nextF
  rw [List.find?_range_eq_some]
  exact ⟨h, by simpa using hi, fun j hj => by simp [hb j hj]⟩
theorem nextF_none {E : EdgeL} {n to a d : Nat} (hb : ∀ j, j < n → (adj E a j && farF E n to n j == d) = false) : nextF E n to a d = none := by
  unfold nextF
  rw [List.find?_eq_none]
  intro j hj
  simp [hb j (by simpa using hj)]
end Go.Proofs.Ythehbamfjglodaa
