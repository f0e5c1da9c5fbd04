/-
  Walks: Reach, Loops.
-/
import Derived.Test.YthehbamfjglodaaWa
namespace Go.Proofs.Ythehbamfjglodaa
open Go.RowKit

/-- A list of ints that is being appended to. -/
def Grows (w wr : World) (v : Value) (xs : List Int) : Prop := Own wr 3 1 v xs.length (xs.map (.int .i64)) ∧ (∀ b, v.ownBlock = some b → w.heap.size ≤ b)
theorem Grows.nil (w : World) : Grows w w (.slice none 0 0) [] := ⟨World.ownsRow_nil _ _ _ _, fun b hb => (by simp [Value.ownBlock] at hb)⟩
theorem Grows.step {w wr w2 : World} {v v2 : Value} {xs : List Int} {x : Int} (h : Grows w wr v xs) (hw : w.heap.size ≤ wr.heap.size) (ho : Own w2 3 1 v2 (xs.length + 1) (xs.map (.int .i64) ++ [.int .i64 x]))
    (hb : v2.ownBlock = v.ownBlock ∨ v2.ownBlock = some (wr.heap.size + 1)) : Grows w w2 v2 (xs ++ [x]) := by
  refine ⟨by simpa using ho, fun b hv => ?_⟩
  rcases hb with e | e
  · exact h.2 b (e.symm.trans hv)
  · rw [e] at hv; injection hv with hv; omega
theorem Grows.below {w wr w2 : World} {v : Value} {xs : List Int} (h : Grows w wr v xs) (hb : Below w.heap.size w wr) (hg : wr.grownBy w2 v.ownBlock) : Below w.heap.size w w2 :=
  hb.grown hg hb.size (fun b hv => h.2 b hv)
theorem Grows.ints {w wr : World} {v : Value} {xs : List Int} {A : Nat} (h : Grows w wr v xs) (hA : A ≤ w.heap.size) : Ints wr (Iv A wr.heap.size) v xs :=
  own_ints h.1 (fun b hv => ⟨by have := h.2 b hv; omega, own_lt h.1 hv⟩) rfl

theorem goes_x {w : World} {S : Reg} {g l n m x : Nat} {E : EdgeL} {nxt rch : Nat → Nat} {a : Int} (hG : GAt w S g l n nxt rch) (hr : RchRel E m rch) (ha : a = x) (j : Nat) (hi : x < 64) (hj : j < 64) :
    Calls Try.prog 37 #[.pointer (some ⟨l, 0, none⟩), .int .i64 a, .int .i64 j] w fun e w' => e = .returned (.bool (W E m x j)) ∧ w = w' := by
  subst ha
  exact goes_g hG hr x j hi hj

set_option maxRecDepth 100000 in
set_option maxHeartbeats 400000 in
theorem reach12 (N a : Int) (v : Value) (E : EdgeL) (w : World) (hE : Edges w (Iv 0 w.heap.size) v E) :
    Calls Try.prog 12 #[.agg #[.int .i64 N, v], .int .i64 a] w fun e w' => ∃ u, e = .returned (.tuple #[u, .int .i64 (reachL N E a).2]) ∧ Ints w' (Iv w.heap.size w'.heap.size) u (reachL N E a).1 ∧ Below w.heap.size w w' := by
  obtain ⟨h1, hE1⟩ := boxE (N := N) hE
  by_cases hgood : (checkL N E).1 = 0
  · obtain ⟨h0, _, _⟩ := checkL_valid hgood
    obtain ⟨n, rfl⟩ : ∃ n : Nat, N = n := ⟨N.toNat, by omega⟩
    have hn64 := (ok_of_check hgood).1
    have HC := hid (made36_ok n v E _ hE1 hgood)
    obtain ⟨A, m, c, rfl, hm, hmc, hcc, rE⟩ := hE.open_; clear hE hm
    clear hE1 h1 h0
    by_cases ha : 0 ≤ a ∧ a < n
    · obtain ⟨x, hxa⟩ : ∃ x : Nat, a = x := ⟨a.toNat, by omega⟩
      have hx : x < n := by omega
      rw [show reachL n E a = (reachN E n x n, 0) by rw [hxa, reachL_in hgood hx]]
      have HXA := hid hxa; clear hxa
      obtain ⟨hx0, hx1⟩ := ha
      clear hgood
      go_enter Try.func12, Try.ntmps12
      go_wp2_with (go_at_call 36; refine HC.out.mono ?_; rintro e w1 ⟨g, rfl, hg, hb1⟩; obtain ⟨hb, l, bp, k, nxt, rch, pf, AP, cP, HG⟩ := made_go hb1 hg; have p1 := HG.out.gat.nn; have p0 := HG.out.gat.links)
      have hgl := HG.out.gat.sg.2
      go_loopw [8, 32] (fun v i wr => ∃ q : Nat, q ≤ n ∧ i = .int .i64 q ∧ Hid (Grows w1 wr v (reachN E n x q)) ∧ Below w1.heap.size w1 wr) (fun _ i _ => n - (intOf i).toNat)
      case atStart => exact ⟨0, Nat.zero_le _, rfl, Grows.nil w1, Below.refl _ _⟩
      case round =>
        obtain ⟨q, hq, rfl, HR, hbw⟩ := hrel
        by_cases hlt : q < n
        · have d0 := (hbw.cell (p := ⟨g, 0, none⟩) hgl).trans p0
          have HGw := hid (HG.out.same (sameOn_below hbw iv_lt))
          cases hw : W E n x q with
          | false =>
            have hr := reachN_succ E n x q
            rw [hw] at hr
            have HW := hid hw; clear hw
            have HR2 := hid hr; clear hr
            go_wp2_with (go_at_call 37; refine (goes_x HGw.out.gat HGw.out.rn HXA.out _ (by omega) (by omega)).mono ?_; rintro e w' ⟨rfl, rfl⟩; rw [HW.out])
            go_roundw
            case rel => exact ⟨q + 1, hlt, by go_num, by rw [HR2.out]; simpa using HR, hbw⟩
            case measure => simp [intOf]; omega
          | true =>
            have hr := reachN_succ E n x q
            rw [hw] at hr
            have HW := hid hw; clear hw
            have HR2 := hid hr; clear hr
            have hle := reachN_le E n x q
            have ho := HR.out.1
            go_upto_region 11 with (go_at_call 37; refine (goes_x HGw.out.gat HGw.out.rn HXA.out _ (by omega) (by omega)).mono ?_; rintro e w' ⟨rfl, rfl⟩; rw [HW.out])
            go_upto_region 12 with ((at_builtin; refine wpList_app1 tInts rfl (.tmp 42) (.tmp 44) rfl _ _ _ rfl ho [.int .i64 (q : Int)] rfl rfl (by simp [Value.oneCell']) (by simp only [maxLen]; omega) (by omega) ?_; intro v2 w2 ho2 hg2 hb2 hs2))
            have HS := hid (HR.out.step hbw.size ho2 hb2)
            have hbw2 := HR.out.below hbw hg2
            clear ho ho2
            go_wp2
            go_roundw
            case rel => exact ⟨q + 1, hlt, by go_num, by rw [HR2.out]; exact HS, hbw2⟩
            case measure => simp [intOf]; omega
        · obtain rfl : q = n := by omega
          go_wp2
          go_ret2
          exact ⟨_, rfl, HR.out.ints hb.size, hb.trans (hbw.mono hb.size)⟩
    · rw [reachL_out hgood ha]
      clear hgood
      go_enter Try.func12, Try.ntmps12
      by_cases hneg : a < 0
      · clear ha
        go_wp2_with (go_at_call 36; refine HC.out.mono ?_; rintro e w1 ⟨g, rfl, hg, hb1⟩; obtain ⟨hb, l, bp, k, nxt, rch, pf, AP, cP, HG⟩ := made_go hb1 hg; have p1 := HG.out.gat.nn; have p0 := HG.out.gat.links)
        go_ret2
        exact ⟨_, rfl, Sl.nil_ _ _, hb⟩
      · have hge : (n : Int) ≤ a := by omega
        clear ha
        go_wp2_with (go_at_call 36; refine HC.out.mono ?_; rintro e w1 ⟨g, rfl, hg, hb1⟩; obtain ⟨hb, l, bp, k, nxt, rch, pf, AP, cP, HG⟩ := made_go hb1 hg; have p1 := HG.out.gat.nn; have p0 := HG.out.gat.links)
        go_ret2
        exact ⟨_, rfl, Sl.nil_ _ _, hb⟩
  · have HC := hid (made36_bad N v E _ hE1 hgood)
    have hne : (((checkL N E).1 != 0) = true) := by simpa using hgood
    rw [reachL_bad hgood]
    obtain ⟨A, m, c, rfl, hm, hmc, hcc, rE⟩ := hE.open_; clear hE hm
    generalize (checkL N E).1 = er at *
    clear hgood hE1
    go_enter Try.func12, Try.ntmps12
    go_wp2_with (go_at_call 36; refine HC.out.mono ?_; rintro e w1 ⟨rfl, hb1⟩)
    go_ret2
    exact ⟨_, rfl, Sl.nil_ _ _, h1.trans (hb1.mono (by simp))⟩
end Go.Proofs.Ythehbamfjglodaa
