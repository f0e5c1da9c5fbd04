/-
  Walks: Order.
-/
import Derived.Test.YthehbamfjglodaaWd
namespace Go.Proofs.Ythehbamfjglodaa
open Go.RowKit

set_option maxRecDepth 100000 in
set_option maxHeartbeats 400000 in
theorem order23 (N : Int) (v : Value) (E : EdgeL) (w : World) (hE : Edges w (Iv 0 w.heap.size) v E) :
    Calls Try.prog 23 #[.agg #[.int .i64 N, v]] w fun e w' => ∃ u, e = .returned (.tuple #[u, .int .i64 (orderS N E).2]) ∧ Ints w' (Iv w.heap.size w'.heap.size) u (orderS N E).1 ∧ Below w.heap.size w w' := by
  obtain ⟨h1, hE1⟩ := boxE (N := N) hE
  by_cases hgood : (checkL N E).1 = 0
  · obtain ⟨h0, _, _⟩ := checkL_valid hgood
    obtain ⟨n, rfl⟩ : ∃ n : Nat, N = n := ⟨N.toNat, by omega⟩
    have hn64 := (ok_of_check hgood).1
    have HC := hid (made36_ok n v E _ hE1 hgood)
    have HP := hid hgood
    clear hgood hE1 h1 h0
    obtain ⟨A, m, c, rfl, hm, hmc, hcc, rE⟩ := hE.open_; clear hE hm
    have hall : (allN E n).length ≤ 5000 := by
      have h1 := comps_le E n (order E n)
      have h2 := order_le E n
      have h3 : (order E n).length * n ≤ 64 * 64 := Nat.mul_le_mul (by omega) hn64
      unfold allN; omega
    have HALL := hid hall; clear hall
    go_enter Try.func23, Try.ntmps23
    go_wp2_with (go_at_call 36; refine HC.out.mono ?_; rintro e w1 ⟨g, rfl, hg, hb1⟩; obtain ⟨hb, l, bp, k, nxt, rch, pf, AP, cP, HG⟩ := made_go hb1 hg; have p1 := HG.out.gat.nn; have p0 := HG.out.gat.links; have p2 := HG.out.pc)
    have hgl := HG.out.gat.sg.2
    go_loopw [19] (fun i wr => ∃ q : Nat, q ≤ n ∧ i = .int .i64 q ∧ Hid (∀ x, x < q → W E n x x = false) ∧ w1 = wr) (fun i _ => n - (intOf i).toNat)
    case atStart => exact ⟨0, Nat.zero_le _, rfl, fun x hx => absurd hx (Nat.not_lt_zero _), rfl⟩
    case round =>
      obtain ⟨q, hq, rfl, HR, rfl⟩ := hrel
      by_cases hlt : q < n
      · cases hw : W E n q q with
        | false =>
          have HW := hid hw; clear hw
          go_wp2_with (go_at_call 37; refine (goes_g HG.out.gat HG.out.rn _ _ (by omega) (by omega)).mono ?_; rintro e w' ⟨rfl, rfl⟩; rw [HW.out])
          go_roundw
          case rel =>
            refine ⟨q + 1, hlt, by go_num, fun x hx => ?_, trivial⟩
            by_cases e : x = q
            · rw [e]; exact HW.out
            · exact HR.out x (by omega)
          case measure => simp [intOf]; omega
        | true =>
          have HW := hid hw; clear hw
          go_wp2_with (go_at_call 37; refine (goes_g HG.out.gat HG.out.rn _ _ (by omega) (by omega)).mono ?_; rintro e w' ⟨rfl, rfl⟩; rw [HW.out])
          go_ret2
          rw [orderS_loop HP.out (loopAny_true hlt HW.out)]
          exact ⟨_, rfl, Sl.nil_ _ _, hb⟩
      · obtain rfl : q = n := by omega
        have HJ := hid (joined44 _ _ w1 (HG.out.lists.iv (slE intE) (Nat.zero_le _) (Nat.le_refl _)) (comps_ne E q) HALL.out)
        go_wp2_with (go_at_call 44; refine HJ.out.mono ?_; rintro e w2 ⟨v2, rfl, hg2, hb2⟩)
        go_ret2
        rw [orderS_ok HP.out (loopAny_false HR.out)]
        exact ⟨_, rfl, hg2.ints hb.size, hb.trans (hb2.mono hb.size)⟩
  · have HC := hid (made36_bad N v E _ hE1 hgood)
    have hne : (((checkL N E).1 != 0) = true) := by simpa using hgood
    rw [orderS_bad hgood]
    obtain ⟨A, m, c, rfl, hm, hmc, hcc, rE⟩ := hE.open_; clear hE hm
    generalize (checkL N E).1 = er at *
    clear hgood hE1
    go_enter Try.func23, Try.ntmps23
    go_wp2_with (go_at_call 36; refine HC.out.mono ?_; rintro e w1 ⟨rfl, hb1⟩)
    go_ret2
    exact ⟨_, rfl, Sl.nil_ _ _, h1.trans (hb1.mono (by simp))⟩
end Go.Proofs.Ythehbamfjglodaa
