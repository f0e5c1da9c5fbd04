/-
  Walks: graph, shown, reaches of the statements' own package.
-/
import Derived.Test.YthehbamfjglodaaWn
namespace Go.Proofs.Ythehbamfjglodaa
open Go.RowKit
attribute [local go_sem ↓] run_execOp_app

def pairsTo (xs : List Int) (k : Nat) : EdgeL := (List.range k).map fun j => (xs[2 * j]?.getD 0, xs[2 * j + 1]?.getD 0)
theorem pairsTo_succ (xs : List Int) (k : Nat) : pairsTo xs (k + 1) = pairsTo xs k ++ [(xs[2 * k]?.getD 0, xs[2 * k + 1]?.getD 0)] := by
  unfold pairsTo; rw [List.range_succ, List.map_append]; rfl
theorem pairsTo_len (xs : List Int) (k : Nat) : (pairsTo xs k).length = k := by simp [pairsTo]

set_option maxRecDepth 100000 in
set_option maxHeartbeats 1000000 in
theorem graph24 (N : Int) (v : Value) (xs : List Int) (w : World) (hv : Ints w (Iv 0 w.heap.size) v xs) (hl : xs.length ≤ 40) :
    Calls Try.prog 24 #[.int .i64 N, v] w fun e w' => ∃ u, e = .returned (.agg #[.int .i64 N, u]) ∧ Edges w' (Iv w.heap.size w'.heap.size) u (pairsTo xs (xs.length / 2)) ∧ Below w.heap.size w w' := by
  obtain ⟨A, m, c, rfl, hm, hmc, hcc, hat⟩ := hv.open_; clear hv
  have hm40 : m ≤ 40 := by omega
  rw [hm]
  have HM := hid hm; clear hm hl
  have HAT := hid hat; clear hat
  go_enter Try.func24, Try.ntmps24
  go_wp2
  go_loopw [6] (fun i wr => ∃ (k p : Nat) (vL : Value), Hid (p = 2 * k) ∧ p ≤ m ∧ i = .int .i64 p ∧ Hid (Blk wr w.heap.size 24 #[.int .i64 0, .slice none 0 0]) ∧ Hid (Blk wr (w.heap.size + 1) 24 #[.int .i64 N, vL]) ∧ Hid (GrowsE (w.heap.size + 2) wr vL (pairsTo xs k)) ∧ w.heap.size + 2 ≤ wr.heap.size ∧ Below w.heap.size w wr) (fun i _ => m - (intOf i).toNat)
  case atStart => exact ⟨0, 0, _, rfl, Nat.zero_le _, rfl, (Blk.new _ _ _).alloc _, blk_new (by simp), GrowsE.nil _ _, by simp, ((Below.refl _ _).alloc (Nat.le_refl _) _).alloc (by simp) _⟩
  case round =>
    obtain ⟨k, p, vL, HP, hp, rfl, HB0, HB1, HR, hsz, hbw⟩ := hrel
    have hown := HR.out.1
    rw [pairsTo_len] at hown
    obtain ⟨AL, cL, rfl, hAL, hcL⟩ := own_form hown
    have hc1 := HB1.out.cell 1
    have hc1' := cell_al hc1
    have hc0 := HB1.out.cell 0
    have hcf := HB1.out.frozen 1
    by_cases hlt : p + 1 < m
    · obtain ⟨ad, x, rfl, hax, hx, hxc⟩ := HAT.out.at_ HM.out (show p < m by omega)
      obtain ⟨ad', y, hadd, _, hy, hyc⟩ := HAT.out.at_ HM.out hlt
      injection hadd with hadd
      subst hadd
      rw [IntE, Nat.mul_one] at hxc hyc
      have e1 := (hbw.cell (p := ad.add p) (by rw [block_add]; exact hax.2)).trans hxc
      have e2 := (hbw.cell (p := ad.add (p + 1)) (by rw [block_add]; exact hax.2)).trans hyc
      have hs := pairsTo_succ xs k
      rw [← HP.out, hx, hy] at hs
      have HS := hid hs; clear hs
      have HX := hid hx; clear hx
      have HY := hid hy; clear hy
      have hX40 : k ≤ 40 := by have := HP.out; omega
      rw [show ad.add (p + 1) = ⟨ad.block, ad.off + (p + 1), none⟩ by simp [Addr.add]] at e2
      clear hxc hyc
      obtain ⟨v2, w2, hrun, ho2, hg2, hb2, _⟩ := run_app (P := Try.prog) (w := (wr.alloc (.cells #[.int .i64 x, .int .i64 y] 56)).drew) tEdges 22 (.slice AL k cL) k (cellsE (pairsTo xs k)) (hown.alloc _) ⟨wr.heap.size, 0, none⟩ 1 1 [.int .i64 x, .int .i64 y] rfl news_new (by simp [Value.oneCell']) (by simp only [maxLen]; omega) (by omega)
      obtain ⟨A5, c5, rfl, hA5, hc5⟩ := own_form ho2
      have hob := hid HR.out.2
      have hB1' := grown_far (w := (wr.alloc (.cells #[.int .i64 x, .int .i64 y] 56)).drew) (HB1.out.alloc _) hg2 (fun b hv => by have := hob.out b hv; omega)
      have f1 := hB1'.cell 1
      have ff1 := hB1'.frozen 1
      have HB1' := hid hB1'; clear hB1'
      have HO2 := hid ho2; clear ho2
      have HG2 := hid hg2; clear hg2
      have HH2 := hid hb2; clear hb2
      obtain ⟨happ, heqa⟩ := app_facts hrun
      clear hrun hown
      go_wp2
      go_region
      have HS2 := hid ((HR.out.step (p := (x, y)) (by omega) (by rw [pairsTo_len]; exact HO2.out) (by simpa using HH2.out)).far (p := ⟨w.heap.size + 1, 1, none⟩) (Nat.lt_succ_self _) (.slice A5 (k + 1) c5))
      have HB0' := hid ((grown_far (w := (wr.alloc (.cells #[.int .i64 x, .int .i64 y] 56)).drew) (HB0.out.alloc _) HG2.out (fun b hv => by have := hob.out b hv; omega)).far (p := ⟨w.heap.size + 1, 1, none⟩) (by simp) (.slice A5 (k + 1) c5))
      have HB1'' := hid (HB1'.out.set_ 1 (.slice A5 (k + 1) c5))
      have hbw0 : Below w.heap.size w (wr.alloc (.cells #[.int .i64 x, .int .i64 y] 56)).drew := (hbw.alloc hbw.size _).drew
      have hbw2 := (hbw0.grown HG2.out hbw0.size (fun b hv => by have := hob.out b hv; omega)).setCell (p := ⟨w.heap.size + 1, 1, none⟩) (Nat.le_succ _) (.slice A5 (k + 1) c5)
      have hsz2 : w.heap.size + 2 ≤ w2.heap.size := by have := HG2.out.size; simp at this; omega
      clear hbw0 f1 ff1 hc1 hc1' hc0 hcf happ heqa e1 e2
      go_wp2
      go_roundw
      case rel => exact ⟨k + 1, p + 2, _, by have := HP.out; unfold Hid; omega, by omega, by go_num, HB0'.out, HB1''.out, by rw [HS.out]; exact HS2, by simpa [World.setCell] using hsz2, hbw2⟩
      case measure => simp [intOf]; omega
    · have h0 := HB0.out.cell 0
      have h1 := HB0.out.cell 1
      have hf0 := HB0.out.frozen 0
      have hf1 := HB0.out.frozen 1
      go_wp2
      have hF := (HB0.out.set_ 0 (.int .i64 N)).set_ 1 (.slice AL k cL)
      have g0 := hF.cell 0
      have g1 := hF.cell 1
      have HF := hid hF; clear hF
      have hk2 : k = m / 2 := by have := HP.out; omega
      refine bodyPost_ret (v := .agg #[.int .i64 N, .slice AL k cL]) ?_ rfl ⟨_, rfl, ?_, ?_⟩
      · rw [results_cell1 rfl]; go_simp
      · have hE2 := (HR.out.far (p := ⟨w.heap.size, 0, none⟩) (by show w.heap.size < _; omega) (.int .i64 N)).far (p := ⟨w.heap.size, 1, none⟩) (by show w.heap.size < _; omega) (.slice AL k cL)
        rw [← hk2]
        exact hE2.edges (by omega)
      · exact (hbw.setCell (p := ⟨w.heap.size, 0, none⟩) (Nat.le_refl _) _).setCell (p := ⟨w.heap.size, 1, none⟩) (Nat.le_refl _) _
end Go.Proofs.Ythehbamfjglodaa
