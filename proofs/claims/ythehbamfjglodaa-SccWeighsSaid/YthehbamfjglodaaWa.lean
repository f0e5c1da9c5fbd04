/-
  Walks: edge, Reach, Loops.
-/
import Derived.Test.YthehbamfjglodaaW9
namespace Go.Proofs.Ythehbamfjglodaa
open Go.RowKit

theorem edge_bit {E : EdgeL} {nxt : Nat → Nat} (hr : RchRel E 0 nxt) (a b : Nat) : (bits BinOp.and IntKind.u64 ((nxt a : Int) / 2 ^ b) 1 == 1) = adj E a b := by
  rw [bit_test _ _ (hr.1 a), hr.2]; rfl

theorem edgeH_get {E : EdgeL} {n h h' i : Nat} {x y : Nat} {j : Nat} (hx : (comp E n h)[i]? = some x) (hy : (comp E n h')[j]? = some y) (ha : adj E x y = true) : edgeH E n h h' = true := by
  simp only [edgeH, List.any_eq_true]
  exact ⟨x, List.mem_of_getElem? hx, y, List.mem_of_getElem? hy, ha⟩
theorem edgeH_none {E : EdgeL} {n h h' : Nat} (hno : ∀ i, i < (comp E n h).length → ∀ x, (comp E n h)[i]? = some x → ∀ j, j < (comp E n h').length → ∀ y, (comp E n h')[j]? = some y → adj E x y = false) : edgeH E n h h' = false := by
  simp only [edgeH, List.any_eq_false]
  intro x hx
  simp only [List.any_eq_true, not_exists, not_and]
  intro y hy
  obtain ⟨i, hi⟩ := List.mem_iff_getElem?.1 hx
  obtain ⟨j, hj⟩ := List.mem_iff_getElem?.1 hy
  simp [hno i (List.getElem?_eq_some_iff.1 hi).1 x hi j (List.getElem?_eq_some_iff.1 hj).1 y hj]

set_option maxRecDepth 100000 in
set_option maxHeartbeats 400000 in
theorem edge43 {E : EdgeL} {n : Nat} {w : World} {S : Reg} {g l bp k : Nat} {nxt rch pf : Nat → Nat} {AP : Option Addr} {cP : Nat} (hG : GO E n w S g l bp k nxt rch pf AP cP) (hn : n ≤ 64) (i j : Nat) (hi : i < k) (hj : j < k) :
    Calls Try.prog 43 #[.pointer (some ⟨g, 0, none⟩), .int .i64 i, .int .i64 j] w fun e w' => e = .returned (.bool (edgeK E n i j)) ∧ w' = w := by
  obtain ⟨ad, h1, A1, m1, c1, rfl, had, ho1, hh1, hd1, hc1, hm1, hmc1, hat1⟩ := hG.at_ hi
  obtain ⟨ad', h2, A2, m2, c2, he, had', ho2, hh2, hd2, hc2, hm2, hmc2, hat2⟩ := hG.at_ hj
  obtain rfl : ad = ad' := by injection he
  have ek : edgeK E n i j = edgeH E n h1 h2 := by rw [edgeK, ho1, ho2]; rfl
  rw [ek]
  have d0 := hG.gat.links
  have d2 := hG.pc
  have hkc := hG.kc
  have HG := hid hG; clear hG
  have hm64 : m1 ≤ 64 := by have := comp_length_le E n h1; omega
  have hm64' : m2 ≤ 64 := by have := comp_length_le E n h2; omega
  have H1 := hid hm1; clear hm1
  have H2 := hid hm2; clear hm2
  clear ho1 ho2 he ek had'
  have HA1 := hid hat1; clear hat1
  have HA2 := hid hat2; clear hat2
  have hl1 : (compI E n h1).length = m1 := by rw [compI_length]; exact H1.out
  have hl2 : (compI E n h2).length = m2 := by rw [compI_length]; exact H2.out
  have L1 := hid hl1; clear hl1
  have L2 := hid hl2; clear hl2
  clear hd1 hd2
  go_enter Try.func43, Try.ntmps43
  go_wp2
  go_loopw [19] (fun a wr => ∃ q : Nat, q ≤ m1 ∧ a = .int .i64 q ∧ Hid (∀ i, i < q → ∀ x, (comp E n h1)[i]? = some x → ∀ j, j < m2 → ∀ y, (comp E n h2)[j]? = some y → adj E x y = false) ∧ w = wr) (fun a _ => m1 - (intOf a).toNat)
  case atStart => exact ⟨0, by omega, rfl, fun i hi => absurd hi (Nat.not_lt_zero _), rfl⟩
  case round =>
    obtain ⟨q, hq, rfl, HN, rfl⟩ := hrel
    by_cases hlt : q < m1
    · obtain ⟨adx, x, rfl, hax, hx, hxc⟩ := HA1.out.at_ L1.out hlt
      rw [IntE, Nat.mul_one] at hxc
      obtain ⟨xx, rfl, hxq, hxn, _⟩ := compI_get hx
      have dx := HG.out.gat.nx xx (by omega)
      have HX := hid hx; clear hx
      have HXQ := hid hxq; clear hxq
      go_wp2
      go_loopw [31] (fun a wr => ∃ r : Nat, r ≤ m2 ∧ a = .int .i64 r ∧ Hid (∀ j, j < r → ∀ y, (comp E n h2)[j]? = some y → adj E xx y = false) ∧ w = wr) (fun a _ => m2 - (intOf a).toNat)
      case atStart => exact ⟨0, by omega, rfl, fun i hi => absurd hi (Nat.not_lt_zero _), rfl⟩
      case round =>
        obtain ⟨r, hr, rfl, HM, rfl⟩ := hrel
        by_cases hlt2 : r < m2
        · obtain ⟨ady, y, rfl, hay, hy, hyc⟩ := HA2.out.at_ L2.out hlt2
          rw [IntE, Nat.mul_one] at hyc
          obtain ⟨yy, rfl, hyr, hyn, _⟩ := compI_get hy
          have hb := edge_bit HG.out.r0 xx yy
          have HY := hid hy; clear hy
          have HYR := hid hyr; clear hyr
          cases hadj : adj E xx yy with
          | true =>
            rw [hadj] at hb
            have HADJ := hid hadj; clear hadj
            go_wp2
            go_ret
            exact ⟨ret_bool (edgeH_get HXQ.out HYR.out HADJ.out).symm, rfl⟩
          | false =>
            rw [hadj] at hb
            have HADJ := hid hadj; clear hadj
            go_wp2
            go_roundw
            case rel =>
              refine ⟨r + 1, hlt2, by go_num, fun j hj y hy => ?_, trivial⟩
              by_cases e : j = r
              · subst e
                have := HYR.out.symm.trans hy
                injection this with this
                rw [← this]; exact HADJ.out
              · exact HM.out j (by omega) y hy
            case measure => simp [intOf]; omega
        · obtain rfl : r = m2 := by omega
          go_wp2
          go_roundw
          case rel =>
            refine ⟨q + 1, hlt, by go_num, fun i hi x hx => ?_, trivial⟩
            by_cases e : i = q
            · subst e
              have := HXQ.out.symm.trans hx
              injection this with this
              rw [← this]; exact HM.out
            · exact HN.out i (by omega) x hx
          case measure => simp [intOf]; omega
    · obtain rfl : q = m1 := by omega
      go_wp2
      go_ret
      exact ⟨ret_bool (edgeH_none (by rw [H1.out, H2.out]; exact HN.out)).symm, rfl⟩
end Go.Proofs.Ythehbamfjglodaa
