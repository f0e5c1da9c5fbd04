/-
  Walks: awake of the statements' own package.
-/
import Derived.Test.YthehbamfjglodaaWp
namespace Go.Proofs.Ythehbamfjglodaa
open Go.RowKit

set_option maxRecDepth 100000 in
set_option maxHeartbeats 2000000 in
theorem awake9 (w : World) : Calls Try.prog 9 #[] w fun e w' => e = .returned (.bool true) ∧ Below w.heap.size w w' := by
  go_enter Try.func9, Try.ntmps9
  go_wp2_with fail
  refine (shown21 _).mono ?_; rintro e w1 ⟨A1, c1, rfl, hE, hb1⟩
  have HE := hid hE; clear hE
  go_wp2_with fail
  refine (parts_is 4 (edges_later HE.out (Below.refl _ _)) shown_parts rfl rfl).mono ?_; rintro e w2 ⟨A2, c2, rfl, HP, hb2⟩
  clear HE
  go_wp2_with fail
  refine (shown21 _).mono ?_; rintro e w3 ⟨A3, c3, rfl, hE, hb3⟩
  have HE := hid hE; clear hE
  go_wp2_with fail
  refine (path_is 4 (edges_later HE.out (Below.refl _ _)) shown_path rfl).mono ?_; rintro e w4 ⟨A4, c4, rfl, HW, hb4⟩
  clear HE
  go_wp2_with fail
  refine (shown21 _).mono ?_; rintro e w5 ⟨A5, c5, rfl, hE, hb5⟩
  have HE := hid hE; clear hE
  go_wp2_with fail
  refine (heavy_is 3 (edges_later HE.out (bal (Below.refl _ _) _)) (ints_new [1, 1, 5, 1, 3] rfl rfl rfl (by decide)) shown_heavy rfl).mono ?_; rintro e w6 ⟨A6, c6, rfl, HH, hb6⟩
  clear HE
  go_wp2_with fail
  refine (shown21 _).mono ?_; rintro e w7 ⟨A7, c7, rfl, hE, hb7⟩
  have HE := hid hE; clear hE
  go_wp2_with fail
  refine (check_is (edges_later HE.out (Below.refl _ _)) shown_check).mono ?_; rintro e w8 ⟨rfl, hb8⟩
  clear HE
  have h58 := btr (bal (Below.refl w5.heap.size w5) _) (btr hb6 (btr hb7 hb8))
  have h28 := btr hb3 (btr hb4 (btr hb5 h58))
  have h48 := btr hb5 h58
  have h68 := btr hb7 hb8
  have h08 := btr hb1 (btr hb2 h28)
  clear hb1 hb2 hb3 hb4 hb5 hb6 hb7 hb8 h58
  go_wp2_with fail
  refine (lists_any _ _ [[0], [1, 2], [3], [4]] [[0], [1, 2], [3], [4]] _ (lists_later HP.out (bal (bal (bal (bal (bal h28 _) _) _) _) _)) (lists_new _ (by simp) (fun j x hj => ?_) rfl (by decide))).mono ?_
  · match j, hj with
    | 0, hj => obtain rfl : [0] = x := by simpa using hj
               exact ⟨_, rfl, ints_later (ints_new (w := w8) [0] rfl rfl rfl (by decide)) (bal (bal (bal (Below.refl _ _) _) _) _)⟩
    | 1, hj => obtain rfl : [1, 2] = x := by simpa using hj
               exact ⟨_, rfl, ints_later (ints_new (w := w8.alloc _) [1, 2] (by simp) rfl rfl (by decide)) (bal (bal (Below.refl _ _) _) _)⟩
    | 2, hj => obtain rfl : [3] = x := by simpa using hj
               exact ⟨_, rfl, ints_later (ints_new (w := (w8.alloc _).alloc _) [3] (by simp) rfl rfl (by decide)) (bal (Below.refl _ _) _)⟩
    | 3, hj => obtain rfl : [4] = x := by simpa using hj
               exact ⟨_, rfl, ints_later (ints_new (w := ((w8.alloc _).alloc _).alloc _) [4] (by simp) rfl rfl (by decide)) (Below.refl _ _)⟩
    | j + 4, hj => simp at hj
  · rw [decide_eq_true rfl]
    rintro e w9 ⟨rfl, q9, rfl⟩
    go_wp2_with fail
    refine (sameInts_any _ _ [0, 1, 2, 3] [0, 1, 2, 3] _ (ints_later HW.out ?_) (ints_new _ (by simp) rfl rfl (by decide))).mono ?_
    · repeat (first | exact h48 | refine bdn ?_ _ | refine bal ?_ _)
    · rw [decide_eq_true rfl]
      rintro e w10 ⟨rfl, q10, rfl⟩
      go_wp2_with fail
      refine (sameInts_any _ _ [0, 1, 2] [0, 1, 2] _ (ints_later HH.out ?_) (ints_new _ (by simp) rfl rfl (by decide))).mono ?_
      · repeat (first | exact h68 | refine bdn ?_ _ | refine bal ?_ _)
      · rw [decide_eq_true rfl]
        rintro e w11 ⟨rfl, q11, rfl⟩
        go_wp2_with fail
        go_ret
        refine ⟨rfl, ?_⟩
        repeat (first | exact h08 | refine bdn ?_ _ | refine bal ?_ _)
end Go.Proofs.Ythehbamfjglodaa
