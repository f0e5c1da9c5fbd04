/-
  Walks: the search for a weight out of range.
-/
import Derived.Test.YthehbamfjglodaaWh
import Derived.Test.YthehbamfjglodaaMath4
namespace Go.Proofs.Ythehbamfjglodaa
open Go.RowKit

theorem bad42 (x : Int) (w : World) : Calls Try.prog 42 #[.int .i64 x] w fun e w' => e = .returned (.bool (badW x)) ∧ w' = w := by
  unfold badW
  by_cases hx : x < 0
  · go_enter Try.func42, Try.ntmps42
    go_wp2
    all_goals (go_ret; exact ⟨by simp [hx], rfl⟩)
  · go_enter Try.func42, Try.ntmps42
    go_wp2
    all_goals (go_ret; exact ⟨by first | (simp; done) | (simp; omega), rfl⟩)

set_option maxHeartbeats 400000 in
theorem indexFunc58 (v : Value) (xs : List Int) (w : World) (hv : Ints w (Iv 0 w.heap.size) v xs) :
    Calls Try.prog 58 #[v, .func (.func 42) #[] #[]] w fun e w' => e = .returned (.int .i64 (findIx (fun j => badW (xs[j]?.getD 0)) xs.length)) ∧ w' = w := by
  obtain ⟨A, n, c, rfl, hn, hc, hm, rv⟩ := hv.open_; clear hv
  rw [hn]
  have Hn := hid hn; clear hn
  go_enter Try.func58, Try.ntmps58
  go_wp2
  go_loopw [8] (fun i wr => ∃ k : Nat, k ≤ n ∧ i = .int .i64 k ∧ Hid (∀ j, j < k → badW (xs[j]?.getD 0) = false) ∧ w = wr) (fun i _ => n - (intOf i).toNat)
  case atStart => exact ⟨0, Nat.zero_le _, rfl, fun j hj => absurd hj (Nat.not_lt_zero _), rfl⟩
  case round =>
    obtain ⟨k, hk, rfl, HP, rfl⟩ := hrel
    by_cases hlt : k < n
    · obtain ⟨ad, u, rfl, hbk, hu, g1⟩ := rv.at_ Hn.out hlt
      rw [Nat.mul_one, IntE] at g1
      have hg : xs[k]?.getD 0 = u := by rw [hu]; rfl
      have HU := hid hu; clear hu
      have HC := hid (bad42 u w)
      cases hp : badW u with
      | true =>
        have HK := hid hp; clear hp
        have HGG := hid hg; clear hg
        go_wp2_with (go_at_call 42; refine HC.out.mono ?_; rintro e w1 ⟨rfl, rfl⟩; rw [HK.out])
        go_ret
        exact ⟨ret_int (findIx_some hlt (by rw [HGG.out]; exact HK.out) HP.out).symm, rfl⟩
      | false =>
        have HK := hid hp; clear hp
        have HGG := hid hg; clear hg
        go_wp2_with (go_at_call 42; refine HC.out.mono ?_; rintro e w1 ⟨rfl, rfl⟩; rw [HK.out])
        go_roundw
        case rel =>
          exact ⟨k + 1, hlt, by go_num, lt_step HP.out (by rw [HGG.out]; exact HK.out), trivial⟩
        case measure => simp [intOf]; omega
    · obtain rfl : k = n := by omega
      go_wp2
      go_ret
      exact ⟨ret_int (findIx_none HP.out).symm, rfl⟩

theorem containsFunc41 (v : Value) (xs : List Int) (w : World) (hv : Ints w (Iv 0 w.heap.size) v xs) :
    Calls Try.prog 41 #[v, .func (.func 42) #[] #[]] w fun e w' => e = .returned (.bool (xs.any badW)) ∧ w' = w := by
  have HC := hid (indexFunc58 v xs w hv)
  have ha : decide (0 ≤ findIx (fun j => badW (xs[j]?.getD 0)) xs.length) = xs.any badW := by
    rw [Bool.eq_iff_iff]
    simp only [decide_eq_true_eq, findIx_ge, List.any_eq_true]
    constructor
    · rintro ⟨j, hj, hb⟩
      rw [List.getElem?_eq_getElem hj] at hb
      exact ⟨_, List.getElem_mem hj, hb⟩
    · rintro ⟨x, hx, hb⟩
      obtain ⟨j, hj⟩ := List.mem_iff_getElem?.1 hx
      exact ⟨j, (List.getElem?_eq_some_iff.1 hj).1, by rw [hj]; exact hb⟩
  have HA := hid ha; clear ha
  obtain ⟨A, n, c, rfl, hn, hc, hm, rv⟩ := hv.open_; clear hv hn
  go_enter Try.func41, Try.ntmps41
  go_wp2_with (go_at_call 58; refine HC.out.mono ?_; rintro e w1 ⟨rfl, rfl⟩)
  go_ret
  exact ⟨ret_bool HA.out, rfl⟩
end Go.Proofs.Ythehbamfjglodaa
