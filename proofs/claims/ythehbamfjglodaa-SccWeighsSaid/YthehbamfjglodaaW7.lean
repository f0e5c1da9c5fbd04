/-
  Walks: scc.Check.
-/
import Derived.Test.YthehbamfjglodaaW3
namespace Go.Proofs.Ythehbamfjglodaa
open Go.RowKit

set_option maxHeartbeats 400000 in
theorem node49 (x N : Int) (g : Nat) (w : World) (hc : w.cell? ⟨g, 0, none⟩ = some (.int .i64 N)) :
    Calls Try.prog 49 #[.int .i64 x, .pointer (some ⟨g, 0, none⟩)] w fun e w' => e = .returned (.bool (nodeB N x)) ∧ w = w' := by
  by_cases h : 0 ≤ x
  · go_enter Try.func49, Try.ntmps49
    go_wp2
    go_ret
    exact ⟨ret_bool (by simp [nodeB, h]), rfl⟩
  · go_enter Try.func49, Try.ntmps49
    go_wp2
    go_ret
    exact ⟨ret_bool (by simp [nodeB]; omega), rfl⟩

set_option maxHeartbeats 400000 in
theorem check26_out (N : Int) (v : Value) (E : EdgeL) (w : World) (hE : Edges w (Iv 0 w.heap.size) v E) (hN : N < 0 ∨ 64 < N) :
    Calls Try.prog 26 #[.agg #[.int .i64 N, v]] w fun e w' => e = .returned (.tuple #[.int .i64 (checkL N E).1, .int .i64 (checkL N E).2]) ∧ Below w.heap.size w w' := by
  rw [checkL_out hN]
  obtain ⟨A, m, c, rfl, hm, hmc, hc, rE⟩ := hE.open_; clear hE hm
  rcases hN with h | h
  · go_enter Try.func26, Try.ntmps26
    go_wp2
    go_ret2
    exact ⟨rfl, (Below.refl _ _).alloc (Nat.le_refl _) _⟩
  · have h0 : ¬ N < 0 := by omega
    go_enter Try.func26, Try.ntmps26
    go_wp2
    go_ret2
    exact ⟨rfl, (Below.refl _ _).alloc (Nat.le_refl _) _⟩

set_option maxRecDepth 100000 in
set_option maxHeartbeats 800000 in
theorem check26_in (N : Int) (v : Value) (E : EdgeL) (w : World) (hE : Edges w (Iv 0 w.heap.size) v E) (h0 : 0 ≤ N) (h64 : N ≤ 64) :
    Calls Try.prog 26 #[.agg #[.int .i64 N, v]] w fun e w' => e = .returned (.tuple #[.int .i64 (checkL N E).1, .int .i64 (checkL N E).2]) ∧ Below w.heap.size w w' := by
  obtain ⟨A, m, c, rfl, hm, hmc, hc, rE⟩ := hE.open_; clear hE
  have Hm := hid hm; clear hm
  go_enter Try.func26, Try.ntmps26
  go_wp2
  go_loopw [20] (fun i wr => ∃ (k : Nat), k ≤ m ∧ i = .int .i64 k ∧ Hid (∀ j, j < k → edgeErr N E j = 0) ∧ Blk wr w.heap.size 24 #[.int .i64 N, .slice A m c] ∧ Below w.heap.size w wr) (fun i _ => m - (intOf i).toNat)
  case atStart => exact ⟨0, Nat.zero_le _, rfl, fun j hj => absurd hj (Nat.not_lt_zero _), Blk.new _ _ _, (Below.refl _ _).alloc (Nat.le_refl _) _⟩
  case round =>
    obtain ⟨k, hk, rfl, HP, hb, hbw⟩ := hrel
    by_cases hlt : k < m
    · obtain ⟨ad, ⟨x, y⟩, rfl, ⟨_, had⟩, hxy, g1, g2⟩ := rE.at_ Hm.out hlt
      simp only [] at g1 g2
      rw [← hbw.cell (by rw [block_add]; exact had)] at g1
      rw [← hbw.cell (by show (ad.add (k * 2)).block < _; rw [block_add]; exact had)] at g2
      have HX := hid hxy; clear hxy
      have c0 : wr.cell? ⟨w.heap.size, 0, none⟩ = some (.int .i64 N) := hb.cell 0
      have c1 : wr.cell? ⟨w.heap.size, 1, none⟩ = some (.slice (some ad) m c) := hb.cell 1
      have hA : ad.block < wr.heap.size := by have := hbw.size; omega
      have hlt0 : w.heap.size < wr.heap.size := hb.lt
      have Hb := hid hb; clear hb
      have c0' : ∀ o, (wr.alloc o).cell? ⟨w.heap.size, 0, none⟩ = some (.int .i64 N) := fun o => (World.cell?_alloc_lt wr o ⟨w.heap.size, 0, none⟩ hlt0).trans c0
      have hbad : (nodeB N x && nodeB N y) = false → Hid (edgeErr N E k = 2) := fun h => edgeErr_bad HX.out h
      have hbw1 : ∀ o, Below w.heap.size w (wr.alloc o) := fun o => hbw.alloc (Nat.le_of_lt hlt0) o
      cases hnx : nodeB N x with
      | false =>
        have HE := hbad (by rw [hnx]; rfl)
        clear hbad
        go_wp2_with (go_at_call 49; refine (node49 _ _ _ _ (c0' _)).mono ?_; rintro e w1 ⟨rfl, rfl⟩)
        go_ret2
        refine ⟨?_, hbw1 _⟩
        rw [checkL_at (by omega) (by rw [Hm.out]; exact hlt) (by rw [HE.out]; decide) HP.out, HE.out]
        rfl
      | true =>
        cases hny : nodeB N y with
        | false =>
          have HE := hbad (by rw [hny, Bool.and_false])
          clear hbad
          go_wp2_with (go_at_call 49; refine (node49 _ _ _ _ (c0' _)).mono ?_; rintro e w1 ⟨rfl, rfl⟩)
          go_ret2
          refine ⟨?_, hbw1 _⟩
          rw [checkL_at (by omega) (by rw [Hm.out]; exact hlt) (by rw [HE.out]; decide) HP.out, HE.out]
          rfl
        | true =>
          clear hbad
          have Hnx := hid hnx
          have Hny := hid hny
          by_cases hk0 : k = 0
          · have he : edgeErr N E k = 0 := by subst hk0; exact edgeErr_first HX.out hnx hny
            have HE := hid he; clear he
            have hkb : (((k : Int) == 0) = true) := by simp; exact hk0
            have HK0 := hid hk0; clear hk0
            go_wp2_with (go_at_call 49; refine (node49 _ _ _ _ (c0' _)).mono ?_; rintro e w1 ⟨rfl, rfl⟩)
            go_roundw
            case rel => exact ⟨k + 1, hlt, by go_num, fun j hj => (by by_cases e : j = k; (rw [e]; exact HE.out); exact HP.out j (by omega)), (Hb.out.alloc _), hbw1 _⟩
            case measure => simp [intOf]; omega
          · obtain ⟨q, rfl⟩ : ∃ q, k = q + 1 := ⟨k - 1, by omega⟩
            have hkb : ((((q + 1 : Nat) : Int) == 0) = false) := by simp; omega
            obtain ⟨ad', ⟨x', y'⟩, had', _, hxy', g1', g2'⟩ := rE.at_ Hm.out (show q < m by omega)
            injection had' with had'
            subst had'
            simp only [] at g1' g2'
            rw [← hbw.cell (by rw [block_add]; exact had)] at g1'
            rw [← hbw.cell (by show (ad.add (q * 2)).block < _; rw [block_add]; exact had)] at g2'
            have HX' := hid hxy'; clear hxy'
            have g3 := cell_al g1'
            have g4 := cell_al g2'
            clear g1' g2'
            have hgood : beforeB (x', y') (x, y) = true → Hid (edgeErr N E (q + 1) = 0) := fun h => edgeErr_fine HX.out HX'.out Hnx.out Hny.out h
            have hbad : beforeB (x', y') (x, y) = false → Hid (edgeErr N E (q + 1) = 8) := fun h => edgeErr_order HX.out HX'.out Hnx.out Hny.out h
            go_upto_region 11 with (go_at_call 49; refine (node49 _ _ _ _ (c0' _)).mono ?_; rintro e w1 ⟨rfl, rfl⟩)
            have hbw2 : ∀ o o', Below w.heap.size w ((wr.alloc o).alloc o') := fun o o' => (hbw1 o).alloc (by simp; omega) o'
            by_cases h1 : x < x'
            · have HE := hbad (by simp [beforeB]; omega)
              clear hbad hgood
              go_wp2
              go_ret2
              refine ⟨?_, hbw2 _ _⟩
              rw [checkL_at (by omega) (by rw [Hm.out]; exact hlt) (by rw [HE.out]; decide) HP.out, HE.out]
              rfl
            · by_cases h2 : x = x'
              · subst h2
                by_cases h3 : y ≤ y'
                · have HE := hbad (by simp [beforeB]; omega)
                  clear hbad hgood
                  go_wp2
                  go_ret2
                  refine ⟨?_, hbw2 _ _⟩
                  rw [checkL_at (by omega) (by rw [Hm.out]; exact hlt) (by rw [HE.out]; decide) HP.out, HE.out]
                  rfl
                · have HE := hgood (by simp [beforeB]; omega)
                  clear hbad hgood
                  go_wp2
                  go_roundw
                  case rel => exact ⟨q + 1 + 1, hlt, by go_num, fun j hj => (by by_cases e : j = q + 1; (rw [e]; exact HE.out); exact HP.out j (by omega)), ((Hb.out.alloc _).alloc _), hbw2 _ _⟩
                  case measure => simp [intOf]; omega
              · have HE := hgood (by simp [beforeB]; omega)
                clear hbad hgood
                have h4 : ((x == x') = false) := by simp; omega
                have H2 := hid h2; clear h2
                go_wp2
                go_roundw
                case rel => exact ⟨q + 1 + 1, hlt, by go_num, fun j hj => (by by_cases e : j = q + 1; (rw [e]; exact HE.out); exact HP.out j (by omega)), ((Hb.out.alloc _).alloc _), hbw2 _ _⟩
                case measure => simp [intOf]; omega
    · obtain rfl : k = m := by omega
      have Hb := hid hb; clear hb
      go_wp2
      go_ret2
      refine ⟨?_, hbw⟩
      rw [checkL_ok (by omega) (by rw [Hm.out]; exact HP.out)]
      rfl

theorem check26 (N : Int) (v : Value) (E : EdgeL) (w : World) (hE : Edges w (Iv 0 w.heap.size) v E) :
    Calls Try.prog 26 #[.agg #[.int .i64 N, v]] w fun e w' => e = .returned (.tuple #[.int .i64 (checkL N E).1, .int .i64 (checkL N E).2]) ∧ Below w.heap.size w w' := by
  by_cases h : N < 0 ∨ 64 < N
  · exact check26_out N v E w hE h
  · exact check26_in N v E w hE (by omega) (by omega)
end Go.Proofs.Ythehbamfjglodaa
