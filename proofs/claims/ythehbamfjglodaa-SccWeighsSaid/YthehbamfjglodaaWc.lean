/-
  Walks: Loops.
-/
import Derived.Test.YthehbamfjglodaaWb
import Derived.Deep.RegionHeld3
namespace Go.Proofs.Ythehbamfjglodaa
open Go.RowKit
attribute [local go_sem ↓] run_execOp_app

/-- A list of bools that is being appended to. -/
def GrowsB (w wr : World) (v : Value) (xs : List Bool) : Prop := Own wr 4 1 v xs.length (xs.map .bool) ∧ (∀ b, v.ownBlock = some b → w.heap.size ≤ b)
theorem GrowsB.nil (w : World) : GrowsB w w (.slice none 0 0) [] := ⟨World.ownsRow_nil _ _ _ _, fun b hb => (by simp [Value.ownBlock] at hb)⟩
theorem GrowsB.step {w wr w2 : World} {v v2 : Value} {xs : List Bool} {x : Bool} (h : GrowsB w wr v xs) (hw : w.heap.size ≤ wr.heap.size) (ho : Own w2 4 1 v2 (xs.length + 1) (xs.map .bool ++ [.bool x]))
    (hb : v2.ownBlock = v.ownBlock ∨ v2.ownBlock = some (wr.heap.size + 1)) : GrowsB w w2 v2 (xs ++ [x]) := by
  refine ⟨by simpa using ho, fun b hv => ?_⟩
  rcases hb with e | e
  · exact h.2 b (e.symm.trans hv)
  · rw [e] at hv; injection hv with hv; omega
theorem GrowsB.below {w wr w2 : World} {v : Value} {xs : List Bool} (h : GrowsB w wr v xs) (hb : Below w.heap.size w wr) (hg : wr.grownBy w2 v.ownBlock) : Below w.heap.size w w2 :=
  hb.grown hg hb.size (fun b hv => h.2 b hv)
theorem own_bools {w : World} {v : Value} {n : Nat} {xs : List Bool} {S : Reg} (h : Own w 4 1 v n (xs.map .bool)) (hS : ∀ b, v.ownBlock = some b → S b) (hn : n = xs.length) : Bools w S v xs := by
  subst hn
  rcases h.2 with ⟨rfl, h0⟩ | ⟨g, cap, cur, rfl, _, hgg, hnc, hcm, hcs, htake⟩
  · have : xs = [] := List.eq_nil_of_length_eq_zero h0
    subst this
    exact Sl.nil_ w S
  · refine ⟨_, cap, rfl, hnc, by simpa [maxLen] using hcm, fun hp => ⟨_, rfl, hS g rfl, fun j x hx => ?_⟩⟩
    have := h.cells (g := g) rfl j (.bool x) (by rw [List.getElem?_map, hx]; rfl)
    rw [Nat.mul_one]; exact this
theorem GrowsB.bools {w wr : World} {v : Value} {xs : List Bool} {A : Nat} (h : GrowsB w wr v xs) (hA : A ≤ w.heap.size) : Bools wr (Iv A wr.heap.size) v xs :=
  own_bools h.1 (fun b hv => ⟨by have := h.2 b hv; omega, own_lt h.1 hv⟩) rfl
theorem loopsN_take {E : EdgeL} {n q h : Nat} (hq : (order E n)[q]? = some h) : (loopsN E n).take (q + 1) = (loopsN E n).take q ++ [W E n h h] := by
  have hl : q < (order E n).length := (List.getElem?_eq_some_iff.1 hq).1
  have h2 : (loopsN E n)[q]? = some (W E n h h) := by rw [loopsN, List.getElem?_map, hq]; rfl
  rw [List.take_add_one, h2]; rfl

set_option maxRecDepth 100000 in
set_option maxHeartbeats 400000 in
theorem loops20 (N : Int) (v : Value) (E : EdgeL) (w : World) (hE : Edges w (Iv 0 w.heap.size) v E) :
    Calls Try.prog 20 #[.agg #[.int .i64 N, v]] w fun e w' => ∃ u, e = .returned (.tuple #[u, .int .i64 (checkL N E).1]) ∧ Bools w' (Iv w.heap.size w'.heap.size) u (loopsL N E) ∧ Below w.heap.size w w' := by
  obtain ⟨h1, hE1⟩ := boxE (N := N) hE
  by_cases hgood : (checkL N E).1 = 0
  · obtain ⟨h0, _, _⟩ := checkL_valid hgood
    obtain ⟨n, rfl⟩ : ∃ n : Nat, N = n := ⟨N.toNat, by omega⟩
    have hn64 := (ok_of_check hgood).1
    have HC := hid (made36_ok n v E _ hE1 hgood)
    have HP := hid (loopsL_ok hgood)
    rw [hgood]
    clear hgood hE1 h1 h0
    obtain ⟨A, m, c, rfl, hm, hmc, hcc, rE⟩ := hE.open_; clear hE hm
    go_enter Try.func20, Try.ntmps20
    go_wp2_with (go_at_call 36; refine HC.out.mono ?_; rintro e w1 ⟨g, rfl, hg, hb1⟩; obtain ⟨hb, l, bp, k, nxt, rch, pf, AP, cP, HG⟩ := made_go hb1 hg; have p2 := HG.out.pc)
    have hgl := HG.out.gat.sg.2
    have hkn : k ≤ n := by have h1 := HG.out.hk; have h2 := order_le E n; omega
    have hkc := HG.out.kc
    go_loopw [6, 22] (fun v i wr => ∃ q : Nat, q ≤ k ∧ i = .int .i64 q ∧ Hid (GrowsB w1 wr v ((loopsN E n).take q)) ∧ Below w1.heap.size w1 wr) (fun _ i _ => k - (intOf i).toNat)
    case atStart => exact ⟨0, Nat.zero_le _, rfl, GrowsB.nil w1, Below.refl _ _⟩
    case round =>
      obtain ⟨q, hq, rfl, HR, hbw⟩ := hrel
      by_cases hlt : q < k
      · obtain ⟨ad, hd, A1, m1, c1, rfl, had, ho1, hh1, hd1, hc1, hm1, hmc1, hat1⟩ := HG.out.at_ hlt
        have d0 := (hbw.cell (p := ⟨g, 0, none⟩) hgl).trans HG.out.gat.links
        have d1 := (hbw.cell (p := ad.add q) (by rw [block_add]; exact had.2)).trans hc1
        have hf := compI_first hd1 hh1
        have hm0 : 0 < m1 := by
          have := (List.getElem?_eq_some_iff.1 hf).1
          rw [compI_length] at this; omega
        obtain ⟨ad1, rfl, hb1', hel⟩ := hat1 (by rw [compI_length]; omega)
        have e0 := hel 0 _ hf
        rw [Nat.zero_mul, IntE] at e0
        have e0 : wr.cell? ad1 = some (.int .i64 hd) := (hbw.cell (p := ad1) hb1'.2).trans (by rw [show ad1.add 0 = ad1 by simp [Addr.add]] at e0; exact e0)
        have HGw := hid (HG.out.same (sameOn_below hbw iv_lt))
        have HT := hid (loopsN_take ho1)
        have hlen : ((loopsN E n).take q).length ≤ 64 := by rw [List.length_take]; omega
        clear hel hat1 hf
        have HO1 := hid ho1; clear ho1
        have HM1 := hid hm1; clear hm1
        clear hc1
        go_upto_region 8 with (fail)
        have HCALL : Hid (∀ wz : World, wz.heap = wr.heap → Calls Try.prog 37 #[.pointer (some ⟨l, 0, none⟩), .int .i64 hd, .int .i64 hd] wz fun e w' => e = .returned (.bool (W E n hd hd)) ∧ wz = w') :=
          fun wz hW => goes_g (HGw.out.gat.same fun b _ => by rw [hW]) HGw.out.rn hd hd (by omega) (by omega)
        obtain ⟨v2, w2, hrun, ho2, hg2, hb2, _⟩ := run_app (P := Try.prog) (w := (wr.alloc (.cells #[.bool (W E n hd hd)] 4)).drew) tBools 39 u6 ((loopsN E n).take q).length (((loopsN E n).take q).map .bool) (HR.out.1.alloc _) ⟨wr.heap.size, 0, none⟩ 1 1 [.bool (W E n hd hd)] rfl news_new (by simp [Value.oneCell']) (by simp only [maxLen]; omega) (by omega)
        have HO2 := hid ho2; clear ho2
        have HG2 := hid hg2; clear hg2
        have HB2 := hid hb2; clear hb2
        obtain ⟨happ, heqa⟩ := app_facts hrun
        clear hrun
        have f0 : w2.cell? ⟨g, 0, none⟩ = some (.pointer (some ⟨l, 0, none⟩)) := HG2.out.cell (cell_al d0 _) (fun e => by have : w1.heap.size ≤ g := HR.out.2 _ e.symm; omega)
        have f1 : w2.cell? ad1 = some (.int .i64 hd) := HG2.out.cell (cell_al e0 _) (fun e => by have := HR.out.2 _ e.symm; have := hb1'.2; omega)
        have d0' := cell_al d0
        have e0' := cell_al e0
        go_region_held3 (fun w' => w'.cell? ⟨g, 0, none⟩ = some (.pointer (some ⟨l, 0, none⟩)) ∧ w'.cell? ad1 = some (.int .i64 hd)) (first | exact ⟨d0, e0⟩ | exact ⟨d0' _, e0' _⟩ | exact ⟨f0, f1⟩) ((go_at_call 37; refine (HCALL.out wr.drew rfl).mono ?_; rintro e w' ⟨rfl, rfl⟩))
        have HS := hid (HR.out.step hbw.size HO2.out (by simpa using HB2.out))
        have hbw2 : Below w1.heap.size w1 w2 := (hbw.alloc hbw.size (.cells #[.bool (W E n hd hd)] 4)).drew.grown HG2.out (by have := hbw.size; simp; omega) (fun b hv => HR.out.2 b hv)
        clear f0 f1 d0' e0' happ heqa
        go_wp2
        go_roundw
        case rel => exact ⟨q + 1, hlt, by go_num, by rw [HT.out]; exact HS, hbw2⟩
        case measure => simp [intOf]; omega
      · obtain rfl : q = k := by omega
        have hlk : (loopsN E n).take q = loopsN E n := by
          apply List.take_of_length_le
          rw [loopsN, List.length_map, HG.out.hk]; exact Nat.le_refl _
        rw [hlk] at HR
        clear hlk
        go_wp2
        go_ret2
        refine ⟨_, rfl, ?_, hb.trans (hbw.mono hb.size)⟩
        rw [HP.out]
        exact HR.out.bools hb.size
  · have HC := hid (made36_bad N v E _ hE1 hgood)
    have hne : (((checkL N E).1 != 0) = true) := by simpa using hgood
    have HP := hid (loopsL_bad hgood)
    obtain ⟨A, m, c, rfl, hm, hmc, hcc, rE⟩ := hE.open_; clear hE hm
    generalize (checkL N E).1 = er at *
    clear hgood hE1
    go_enter Try.func20, Try.ntmps20
    go_wp2_with (go_at_call 36; refine HC.out.mono ?_; rintro e w1 ⟨rfl, hb1⟩)
    go_ret2
    exact ⟨_, rfl, by rw [HP.out]; exact Sl.nil_ _ _, h1.trans (hb1.mono (by simp))⟩
end Go.Proofs.Ythehbamfjglodaa
