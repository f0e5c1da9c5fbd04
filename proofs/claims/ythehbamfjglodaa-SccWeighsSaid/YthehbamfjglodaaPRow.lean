/-
  What is known of a slice of integers that comes in, in the words of the walks.
-/
import Derived.Test.YthehbamfjglodaaMem
import Derived.ProofKit
import Derived.OpenShut
namespace Go.Proofs.Ythehbamfjglodaa
open Go.RowKit
/-- A slice of integers that came in: nil, or a row of 'cap' cells whose first 'len' are its elements. -/
def IsRow (k : IntKind) (w : World) (a : Option Addr) (len cap : Nat) (zs : List Int) : Prop :=
  (a = none ∧ len = 0 ∧ cap = 0 ∧ zs = []) ∨
  ∃ x, a = some x ∧ len ≤ cap ∧ cap ≤ maxLen ∧ zs.length = cap ∧ (∀ i, i < zs.length → w.cell? (x.add i) = some (.int k (zs.getD i 0))) ∧ ∀ n ∈ zs, (Lit.int k n).wf = true
theorem wf_in {x : Int} (h : (Lit.int .i64 x).wf = true) : -9223372036854775808 ≤ x ∧ x ≤ 9223372036854775807 := by
  simp [Lit.wf, IntKind.min, IntKind.max, IntKind.signed, IntKind.bits] at h
  omega
theorem ints_row {w : World} {a : Option Addr} {len cap : Nat} {zs : List Int} (h : IsRow .i64 w a len cap zs) :
    Ints w (Iv 0 w.heap.size) (.slice a len cap) (zs.take len) ∧ ∀ y ∈ zs.take len, -9223372036854775808 ≤ y ∧ y ≤ 9223372036854775807 := by
  rcases h with ⟨rfl, rfl, rfl, rfl⟩ | ⟨x, rfl, hl, hc, hz, hcell, hwf⟩
  · exact ⟨Sl.nil_ _ _, fun y hy => by simp at hy⟩
  · refine ⟨⟨some x, cap, ?_, ?_, by simpa [maxLen] using hc, fun hp => ⟨x, rfl, ?_, fun j y hj => ?_⟩⟩, fun y hy => wf_in (hwf y (List.mem_of_mem_take hy))⟩
    · rw [List.length_take, hz]; congr 1; omega
    · rw [List.length_take]; omega
    · rw [List.length_take] at hp
      have h0 := lt_of_cell (hcell 0 (by omega))
      rw [block_add] at h0
      exact ⟨Nat.zero_le _, h0⟩
    · have hjl := (List.getElem?_eq_some_iff.1 hj).1
      rw [List.length_take] at hjl
      have h1 := hcell j (by omega)
      rw [List.getElem?_take] at hj
      split at hj
      · rw [IntE, Nat.mul_one, h1, List.getD_eq_getElem?_getD, hj]; rfl
      · cases hj
end Go.Proofs.Ythehbamfjglodaa
