/-
  Walks: the small functions of the kit (waypostkit).
-/
import Derived.Test.YthehbamfjglodaaRows
import Derived.Test.YthehbamfjglodaaMem
import Derived.Deep.QuietTactic
import Derived.BigQuiet
namespace Go.Proofs.Ythehbamfjglodaa
open Go.RowKit

set_option maxHeartbeats 400000 in
theorem sameInts_len (v1 v2 : Value) (xs ys : List Int) (w : World) (hx : Ints w (Iv 0 w.heap.size) v1 xs) (hy : Ints w (Iv 0 w.heap.size) v2 ys) (hne : xs.length ≠ ys.length) :
    Calls Try.prog 16 #[v1, v2] w fun e w' => e = .returned (.bool false) ∧ ∃ n, w' = w.drewN n := by
  obtain ⟨A, n, c, rfl, hn, hc, hm, rx⟩ := hx.open_; clear hx
  obtain ⟨A', n', c', rfl, hn', hc', hm', ry⟩ := hy.open_; clear hy
  have hb : (((n : Int) != (n' : Int)) = true) := by rw [bne_iff_ne]; omega
  clear hn hn' hne
  go_enter Try.func16, Try.ntmps16
  go_wp2
  go_ret
  exact ⟨rfl, 0, rfl⟩

set_option maxHeartbeats 400000 in
theorem sameInts_eq (v1 v2 : Value) (xs ys : List Int) (w : World) (hx : Ints w (Iv 0 w.heap.size) v1 xs) (hy : Ints w (Iv 0 w.heap.size) v2 ys) (hne : xs.length = ys.length) :
    Calls Try.prog 16 #[v1, v2] w fun e w' => e = .returned (.bool (decide (xs = ys))) ∧ ∃ n, w' = w.drewN n := by
  obtain ⟨A, n, c, rfl, hn, hc, hm, rx⟩ := hx.open_; clear hx
  obtain ⟨A', n', c', rfl, hn', hc', hm', ry⟩ := hy.open_; clear hy
  obtain rfl : n = n' := by omega
  have hb : (((n : Int) != (n : Int)) = false) := by rw [bne_eq_false_iff_eq]
  have H1 := hid hn; clear hn
  have H2 := hid hn'; clear hn' hne
  go_enter Try.func16, Try.ntmps16
  go_wp2
  go_loopw [5] (fun i wr => ∃ k : Nat, k ≤ n ∧ i = .int .i64 k ∧ Hid (xs.take k = ys.take k) ∧ ∃ q, wr = w.drewN q) (fun i _ => n - (intOf i).toNat)
  case atStart => exact ⟨0, by omega, rfl, by simp [Hid], 0, rfl⟩
  case round =>
    obtain ⟨k, hk, rfl, HP, q, rfl⟩ := hrel
    by_cases hlt : k < n
    · obtain ⟨ad, u, rfl, hbk, hu, g1⟩ := rx.at_ H1.out hlt
      obtain ⟨ad', u', rfl, hbk', hu', g2⟩ := ry.at_ H2.out hlt
      simp only [IntE, Nat.mul_one] at g1 g2
      have HU := hid hu; clear hu
      have HU' := hid hu'; clear hu'
      go_wp2
      go_quiet (fail)
      go_wp2
      · go_ret
        have hne : u ≠ u' := by simpa using (‹(u != u') = true›)
        exact ⟨ret_bool (decide_eq_false (fun e => hne (by have := HU.out; rw [e, HU'.out] at this; simpa using this.symm))).symm, dr2 _ _ _⟩
      · go_roundw
        case rel =>
          have he : u = u' := by simpa using (‹(u != u') = false›)
          refine ⟨k + 1, hlt, by go_num, ?_, _, rfl⟩
          show xs.take (k + 1) = ys.take (k + 1)
          rw [List.take_add_one, List.take_add_one, HP.out, HU.out, HU'.out, he]
        case measure => simp [intOf]; omega
    · have hkn : k = n := by omega
      subst hkn
      go_wp2
      go_ret
      refine ⟨ret_bool (decide_eq_true ?_).symm, dr1 _ _⟩
      have h := HP.out
      rwa [List.take_of_length_le (by have := H1.out; omega), List.take_of_length_le (by have := H2.out; omega)] at h

theorem sameInts_any (v1 v2 : Value) (xs ys : List Int) (w : World) (hx : Ints w (Iv 0 w.heap.size) v1 xs) (hy : Ints w (Iv 0 w.heap.size) v2 ys) :
    Calls Try.prog 16 #[v1, v2] w fun e w' => e = .returned (.bool (decide (xs = ys))) ∧ ∃ n, w' = w.drewN n := by
  by_cases h : xs.length = ys.length
  · exact sameInts_eq v1 v2 xs ys w hx hy h
  · rw [decide_eq_false (fun e => h (by rw [e]))]
    exact sameInts_len v1 v2 xs ys w hx hy h
end Go.Proofs.Ythehbamfjglodaa
