/-
  Walks: the searches of package slices, with the closures that the program hands them.
-/
import Derived.Test.YthehbamfjglodaaW3
namespace Go.Proofs.Ythehbamfjglodaa
open Go.RowKit

/-- What is asked of a predicate handed to a search: at each element it gives p, whatever was made meanwhile. -/
def PredOn (fn : Nat) (c1 c2 : Value) (us : List Value) (p : Nat → Bool) (w : World) : Prop :=
  ∀ (j : Nat) (u : Value) (w1 : World), us[j]? = some u → Below w.heap.size w w1 → Calls Try.prog fn #[u, c1, c2] w1 fun e w2 => e = .returned (.bool (p j)) ∧ Below w1.heap.size w1 w2

set_option maxHeartbeats 400000 in
theorem indexFunc55 (fn : Nat) (hfn : fn = 52 ∨ fn = 54) (v c1 c2 : Value) (us : List Value) (p : Nat → Bool) (w : World) (hv : Sl 1 ValE w (Iv 0 w.heap.size) v us) (hf : PredOn fn c1 c2 us p w) :
    Calls Try.prog 55 #[v, .func (.func fn) #[] #[c1, c2]] w fun e w' => e = .returned (.int .i64 (findIx p us.length)) ∧ Below w.heap.size w w' := by
  obtain ⟨A, n, c, rfl, hn, hc, hm, rv⟩ := hv.open_; clear hv
  rw [hn]
  have Hn := hid hn; clear hn
  have HF := hid hf; clear hf
  rcases hfn with rfl | rfl
  all_goals
    go_enter Try.func55, Try.ntmps55
    go_wp2
    go_loopw [8] (fun i wr => ∃ k : Nat, k ≤ n ∧ i = .int .i64 k ∧ Hid (∀ j, j < k → p j = false) ∧ Below w.heap.size w wr) (fun i _ => n - (intOf i).toNat)
    case atStart => exact ⟨0, Nat.zero_le _, rfl, fun j hj => absurd hj (Nat.not_lt_zero _), Below.refl _ _⟩
    case round =>
      obtain ⟨k, hk, rfl, HP, hbw⟩ := hrel
      by_cases hlt : k < n
      · obtain ⟨ad, u, rfl, hbk, hu, g1⟩ := rv.at_ Hn.out hlt
        rw [Nat.mul_one] at g1
        have g2 := hbw.cell (p := ad.add k) (by rw [block_add]; exact hbk.2)
        rw [show w.cell? (ad.add k) = some u from g1] at g2
        have HU := hid hu; clear hu g1
        cases hp : p k with
        | true =>
          have HK := hid hp; clear hp
          go_wp2_with (first
            | (go_at_call 52; refine (HF.out k u _ HU.out hbw).mono ?_; rintro e w1 ⟨rfl, hb1⟩; rw [HK.out])
            | (go_at_call 54; refine (HF.out k u _ HU.out hbw).mono ?_; rintro e w1 ⟨rfl, hb1⟩; rw [HK.out]))
          go_ret
          exact ⟨ret_int (findIx_some hlt HK.out HP.out).symm, hbw.trans (hb1.mono hbw.size)⟩
        | false =>
          have HK := hid hp; clear hp
          go_wp2_with (first
            | (go_at_call 52; refine (HF.out k u _ HU.out hbw).mono ?_; rintro e w1 ⟨rfl, hb1⟩; rw [HK.out])
            | (go_at_call 54; refine (HF.out k u _ HU.out hbw).mono ?_; rintro e w1 ⟨rfl, hb1⟩; rw [HK.out]))
          go_roundw
          case rel =>
            refine ⟨k + 1, hlt, by go_num, fun j hj => ?_, hbw.trans (hb1.mono hbw.size)⟩
            by_cases e : j = k
            · rw [e]; exact HK.out
            · exact HP.out j (by omega)
          case measure => simp [intOf]; omega
      · obtain rfl : k = n := by omega
        go_wp2
        go_ret
        exact ⟨ret_int (findIx_none HP.out).symm, hbw⟩

set_option maxHeartbeats 400000 in
theorem containsFunc53 (fn : Nat) (hfn : fn = 52 ∨ fn = 54) (v c1 c2 : Value) (us : List Value) (p : Nat → Bool) (w : World) (hv : Sl 1 ValE w (Iv 0 w.heap.size) v us) (hf : PredOn fn c1 c2 us p w) :
    Calls Try.prog 53 #[v, .func (.func fn) #[] #[c1, c2]] w fun e w' => e = .returned (.bool (decide (0 ≤ findIx p us.length))) ∧ Below w.heap.size w w' := by
  have HV := hid hv; clear hv
  have HF := hid hf; clear hf
  go_enter Try.func53, Try.ntmps53
  go_wp2_with ((go_at_call 55; refine (indexFunc55 fn hfn _ _ _ us p _ HV.out HF.out).mono ?_; rintro e w1 ⟨rfl, hb1⟩))
  go_ret
  exact ⟨rfl, hb1⟩
end Go.Proofs.Ythehbamfjglodaa
