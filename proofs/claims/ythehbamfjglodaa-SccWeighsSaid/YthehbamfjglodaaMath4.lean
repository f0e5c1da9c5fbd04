/-
  Plain mathematics of graphs, continued: the heaviest chain as the program finds it.
-/
import Derived.Test.YthehbamfjglodaaMath3
namespace Go.Proofs.Ythehbamfjglodaa
def badW (x : Int) : Bool := decide (x < 0) || decide (x > 1000)
def wt (ws : List Int) (x : Nat) : Int := ws[x]?.getD 0
/-- the greatest weight of the first q nodes of a component -/
def ownTo (ws : List Int) (l : List Nat) : Nat → Int
  | 0 => 0
  | q + 1 => max (ownTo ws l q) (wt ws (l[q]?.getD 0))
def ownH (E : EdgeL) (n : Nat) (ws : List Int) (h : Nat) : Int := ownTo ws (comp E n h) (comp E n h).length
/-- the weight of the component number i -/
def ownK (E : EdgeL) (n : Nat) (ws : List Int) (i : Nat) : Int := ownH E n ws ((order E n)[i]?.getD 0)
abbrev Best := Nat → Int × List Nat
def updB (f : Best) (i : Nat) (v : Int × List Nat) : Best := fun k => if k = i then v else f k
/-- the best chain from i on, behind t rounds of the inner loop -/
def bcIn (E : EdgeL) (n : Nat) (ws : List Int) (f : Best) (i : Nat) : Nat → Int × List Nat
  | 0 => (ownK E n ws i, [i])
  | t + 1 => if i < t ∧ edgeK E n i t = true ∧ ownK E n ws i + (f t).1 > (bcIn E n ws f i t).1 then (ownK E n ws i + (f t).1, i :: (f t).2) else bcIn E n ws f i t
/-- behind j rounds from the back -/
def bcUp (E : EdgeL) (n : Nat) (ws : List Int) (k : Nat) : Nat → Best
  | 0 => fun _ => (0, [])
  | j + 1 => updB (bcUp E n ws k j) (k - 1 - j) (bcIn E n ws (bcUp E n ws k j) (k - 1 - j) k)
/-- the first greatest one of the first q; -1: none -/
def atF (f : Best) : Nat → Int
  | 0 => -1
  | q + 1 => if atF f q < 0 ∨ (f q).1 > (f (atF f q).toNat).1 then (q : Int) else atF f q
def heavyN (E : EdgeL) (n : Nat) (ws : List Int) : Int × List Int :=
  let k := (order E n).length
  let f := bcUp E n ws k k
  if atF f k < 0 then (0, []) else ((f (atF f k).toNat).1, (f (atF f k).toNat).2.map fun (x : Nat) => (x : Int))
def heavyL (N : Int) (E : EdgeL) (ws : List Int) : Int × List Int × Int :=
  if (checkL N E).1 = 0 then
    (if (ws.length : Int) ≠ N then (0, [], 3) else if ws.any badW then (0, [], 2) else ((heavyN E N.toNat ws).1, (heavyN E N.toNat ws).2, 0))
  else (0, [], (checkL N E).1)
theorem heavyL_bad {N : Int} {E : EdgeL} {ws : List Int} (h : (checkL N E).1 ≠ 0) : heavyL N E ws = (0, [], (checkL N E).1) := by simp [heavyL, h]
theorem heavyL_form {n : Nat} {E : EdgeL} {ws : List Int} (h : (checkL n E).1 = 0) (hl : ws.length ≠ n) : heavyL n E ws = (0, [], 3) := by
  have e : (ws.length : Int) ≠ n := by omega
  unfold heavyL
  rw [if_pos h, if_pos e]
theorem heavyL_range {n : Nat} {E : EdgeL} {ws : List Int} (h : (checkL n E).1 = 0) (hl : ws.length = n) (hw : ws.any badW = true) : heavyL n E ws = (0, [], 2) := by
  have e : ¬ ((ws.length : Int) ≠ n) := by omega
  simp only [heavyL, h, e, hw]; rfl
theorem heavyL_ok {n : Nat} {E : EdgeL} {ws : List Int} (h : (checkL n E).1 = 0) (hl : ws.length = n) (hw : ws.any badW = false) : heavyL n E ws = ((heavyN E n ws).1, (heavyN E n ws).2, 0) := by
  have e : ¬ ((ws.length : Int) ≠ n) := by omega
  simp only [heavyL, h, e, hw, Int.toNat_natCast]; rfl

/-- weights in range -/
def WOk (ws : List Int) : Prop := ∀ x, 0 ≤ wt ws x ∧ wt ws x ≤ 1000
theorem wok_of {ws : List Int} (h : ws.any badW = false) : WOk ws := by
  intro x
  unfold wt
  cases hx : ws[x]? with
  | none => simp
  | some y =>
    have := List.any_eq_false.1 h y (List.mem_of_getElem? hx)
    simp [badW] at this
    simp
    omega
theorem ownTo_in {ws : List Int} (h : WOk ws) (l : List Nat) : ∀ q, 0 ≤ ownTo ws l q ∧ ownTo ws l q ≤ 1000 := by
  intro q
  induction q with
  | zero => simp [ownTo]
  | succ q ih =>
    have := h (l[q]?.getD 0)
    rw [ownTo]
    omega
theorem ownK_in {ws : List Int} (h : WOk ws) (E : EdgeL) (n i : Nat) : 0 ≤ ownK E n ws i ∧ ownK E n ws i ≤ 1000 := ownTo_in h _ _
theorem bcIn_in {ws : List Int} (h : WOk ws) {E : EdgeL} {n : Nat} {f : Best} {B : Int} (hB : 0 ≤ B) (hf : ∀ x, 0 ≤ (f x).1 ∧ (f x).1 ≤ B) (i : Nat) : ∀ t, 0 ≤ (bcIn E n ws f i t).1 ∧ (bcIn E n ws f i t).1 ≤ B + 1000 := by
  intro t
  have h1 := ownK_in h E n i
  induction t with
  | zero => simp only [bcIn]; omega
  | succ t ih =>
    have h2 := hf t
    rw [bcIn]
    split
    · simp only []; omega
    · exact ih
theorem bcIn_len {ws : List Int} {E : EdgeL} {n : Nat} {f : Best} {B : Nat} (hf : ∀ x, (f x).2.length ≤ B) (i : Nat) : ∀ t, 1 ≤ (bcIn E n ws f i t).2.length ∧ (bcIn E n ws f i t).2.length ≤ B + 1 := by
  intro t
  induction t with
  | zero => simp only [bcIn, List.length_singleton]; omega
  | succ t ih =>
    have h2 := hf t
    rw [bcIn]
    split
    · simp only [List.length_cons]; omega
    · exact ih
theorem bcUp_in {ws : List Int} (h : WOk ws) (E : EdgeL) (n k : Nat) : ∀ j x, 0 ≤ (bcUp E n ws k j x).1 ∧ (bcUp E n ws k j x).1 ≤ 1000 * j := by
  intro j
  induction j with
  | zero => intro x; simp [bcUp]
  | succ j ih =>
    intro x
    rw [bcUp]
    unfold updB
    split
    · have := bcIn_in h (E := E) (n := n) (f := bcUp E n ws k j) (B := 1000 * j) (by omega) ih (k - 1 - j) k
      omega
    · have := ih x; omega
theorem bcUp_len {ws : List Int} (E : EdgeL) (n k : Nat) : ∀ j x, (bcUp E n ws k j x).2.length ≤ j := by
  intro j
  induction j with
  | zero => intro x; simp [bcUp]
  | succ j ih =>
    intro x
    rw [bcUp]
    unfold updB
    split
    · exact (bcIn_len (ws := ws) (E := E) (n := n) ih (k - 1 - j) k).2
    · have := ih x; omega
theorem bcUp_ne {ws : List Int} (E : EdgeL) (n k : Nat) : ∀ j x, k ≤ x + j → x < k → 1 ≤ (bcUp E n ws k j x).2.length := by
  intro j
  induction j with
  | zero => intro x h h2; omega
  | succ j ih =>
    intro x h h2
    rw [bcUp]
    unfold updB
    split
    · exact (bcIn_len (ws := ws) (E := E) (n := n) (bcUp_len E n k j) (k - 1 - j) k).1
    · exact ih x (by omega) h2
theorem bcUp_low {ws : List Int} (E : EdgeL) (n k : Nat) : ∀ j x, x + j < k → bcUp E n ws k j x = (0, []) := by
  intro j
  induction j with
  | zero => intro x _; rfl
  | succ j ih =>
    intro x h
    rw [bcUp]
    unfold updB
    rw [if_neg (by omega)]
    exact ih x (by omega)
theorem bcIn_low {ws : List Int} {E : EdgeL} {n : Nat} {f : Best} (i : Nat) : ∀ t, t ≤ i + 1 → bcIn E n ws f i t = (ownK E n ws i, [i]) := by
  intro t
  induction t with
  | zero => intro _; rfl
  | succ t ih => intro h; rw [bcIn, if_neg (by omega)]; exact ih (by omega)
theorem bcIn_yes {ws : List Int} {E : EdgeL} {n : Nat} {f : Best} {i t : Nat} (hx : i < t) (h : edgeK E n i t = true) (hg : ownK E n ws i + (f t).1 > (bcIn E n ws f i t).1) :
    bcIn E n ws f i (t + 1) = (ownK E n ws i + (f t).1, i :: (f t).2) := by rw [bcIn, if_pos ⟨hx, h, hg⟩]
theorem bcIn_no {ws : List Int} {E : EdgeL} {n : Nat} {f : Best} {i t : Nat} (h : ¬ (edgeK E n i t = true ∧ ownK E n ws i + (f t).1 > (bcIn E n ws f i t).1)) :
    bcIn E n ws f i (t + 1) = bcIn E n ws f i t := by rw [bcIn, if_neg (fun hc => h hc.2)]
theorem atF_lt (f : Best) : ∀ q, atF f q < q := by
  intro q
  induction q with
  | zero => simp [atF]
  | succ q ih => rw [atF]; split <;> omega
theorem atF_ge (f : Best) : ∀ q, -1 ≤ atF f q ∧ (0 < q → 0 ≤ atF f q) := by
  intro q
  induction q with
  | zero => simp [atF]
  | succ q ih => rw [atF]; split <;> omega
end Go.Proofs.Ythehbamfjglodaa
