/-
  Walks: Levels.
-/
import Derived.Test.YthehbamfjglodaaWe
namespace Go.Proofs.Ythehbamfjglodaa
open Go.RowKit

theorem lvUp_low (E : EdgeL) (n k : Nat) : ∀ j x, x + j < k → lvUp E n k j x = 0 := by
  intro j
  induction j with
  | zero => intro x _; rfl
  | succ j ih =>
    intro x h
    rw [lvUp]
    unfold upd
    rw [if_neg (by omega)]
    exact ih x (by omega)
theorem upd_same (f : Nat → Nat) (x : Nat) : upd f x (f x) = f := by
  funext y; unfold upd; split
  · rename_i h; rw [h]
  · rfl
theorem upd_upd (f : Nat → Nat) (x a b : Nat) : upd (upd f x a) x b = upd f x b := by
  funext y; unfold upd; split <;> rfl
theorem lv_start {E : EdgeL} {n k q x : Nat} (hx : k - 1 - q = x) (hq : q < k) : upd (lvUp E n k q) x (lvIn E n (lvUp E n k q) x (x + 1)) = lvUp E n k q := by
  rw [lvIn_low E n _ x (x + 1) (Nat.le_refl _)]
  have := lvUp_low E n k q x (by omega)
  conv => lhs; rw [← this]
  exact upd_same _ _
theorem lvIn_no {E : EdgeL} {n x t : Nat} {g : Nat → Nat} (h : edgeK E n x t = false) : lvIn E n g x (t + 1) = lvIn E n g x t := by
  rw [lvIn, if_neg (by simp [h])]
theorem lvIn_yes {E : EdgeL} {n x t : Nat} {g : Nat → Nat} (hx : x < t) (h : edgeK E n x t = true) : lvIn E n g x (t + 1) = max (lvIn E n g x t) (g t + 1) := by
  rw [lvIn, if_pos ⟨hx, h⟩]
theorem lv_set {E : EdgeL} {n k b x t : Nat} {f : Nat → Nat} {w : World} (hB : Blk w b 3 (PartCells k (upd f x (lvIn E n f x t)))) (hxk : x < k) (hxt : x < t) (he : edgeK E n x t = true) (hf : ∀ y, f y ≤ 64) :
    Blk (w.setCell ⟨b, x, none⟩ (.int .i64 (if ((upd f x (lvIn E n f x t) x : Nat) : Int) < wrap64 (((upd f x (lvIn E n f x t) t : Nat) : Int) + 1) then wrap64 (((upd f x (lvIn E n f x t) t : Nat) : Int) + 1) else ((upd f x (lvIn E n f x t) x : Nat) : Int)))).drew b 3
      (PartCells k (upd f x (lvIn E n f x (t + 1)))) := by
  have h := hB.set_ x (.int .i64 ((lvIn E n f x (t + 1) : Nat) : Int))
  rw [partCells_set _ _ _ _ hxk, upd_upd] at h
  have e1 : upd f x (lvIn E n f x t) x = lvIn E n f x t := by simp [upd]
  have e2 : upd f x (lvIn E n f x t) t = f t := by unfold upd; rw [if_neg (by omega)]
  have e3 := lvIn_yes (g := f) hxt he
  have e4 := hf t
  have e : (if ((upd f x (lvIn E n f x t) x : Nat) : Int) < wrap64 (((upd f x (lvIn E n f x t) t : Nat) : Int) + 1) then wrap64 (((upd f x (lvIn E n f x t) t : Nat) : Int) + 1) else ((upd f x (lvIn E n f x t) x : Nat) : Int)) = ((lvIn E n f x (t + 1) : Nat) : Int) := by
    rw [e1, e2, e3]
    have ew : wrap64 ((f t : Int) + 1) = (f t : Int) + 1 := by unfold wrap64; omega
    rw [ew]
    split <;> omega
  rw [e]
  exact h

set_option maxRecDepth 100000 in
set_option maxHeartbeats 400000 in
theorem levels22 (N : Int) (v : Value) (E : EdgeL) (w : World) (hE : Edges w (Iv 0 w.heap.size) v E) :
    Calls Try.prog 22 #[.agg #[.int .i64 N, v]] w fun e w' => ∃ u, e = .returned (.tuple #[u, .int .i64 (checkL N E).1]) ∧ Ints w' (Iv w.heap.size w'.heap.size) u (levelsL N E) ∧ Below w.heap.size w w' := by
  obtain ⟨h1, hE1⟩ := boxE (N := N) hE
  by_cases hgood : (checkL N E).1 = 0
  · obtain ⟨h0, _, _⟩ := checkL_valid hgood
    obtain ⟨n, rfl⟩ : ∃ n : Nat, N = n := ⟨N.toNat, by omega⟩
    have hn64 := (ok_of_check hgood).1
    have HO := hid (ok_of_check hgood).2
    have HC := hid (made36_ok n v E _ hE1 hgood)
    have HP := hid (levelsL_ok hgood)
    rw [hgood]
    clear hgood hE1 h1 h0
    obtain ⟨A, m, c, rfl, hm, hmc, hcc, rE⟩ := hE.open_; clear hE hm
    obtain ⟨k, hk⟩ : ∃ k, (order E n).length = k := ⟨_, rfl⟩
    have hkn : k ≤ n := by have h2 := order_le E n; omega
    have hmk := fun wz => run_mk (P := Try.prog) (bytes := 8) (z := .int .i64 0) Try.underlying25 (by kernel_rfl) k (by omega) (by omega) wz
    rw [made1 _ rfl] at hmk
    have HK := hid hk; clear hk
    go_enter Try.func22, Try.ntmps22
    go_wp2_with (go_at_call 36; refine HC.out.mono ?_; rintro e w1 ⟨g, rfl, hg, hb1⟩; obtain ⟨hb, l, bp, k', nxt, rch, pf, AP, cP, HG⟩ := made_go hb1 hg; obtain rfl : k = k' := HK.out.symm.trans HG.out.hk; have p1 := HG.out.gat.nn; have p0 := HG.out.gat.links; have p2 := HG.out.pc; have p2' := cell_al HG.out.pc)
    have hgl := HG.out.gat.sg.2
    have hkc := HG.out.kc
    go_loopw [7] (fun i wr => ∃ q : Nat, q ≤ k ∧ i = .int .i64 ((k : Int) - 1 - q) ∧ Blk wr w1.heap.size 3 (PartCells k (lvUp E n k q)) ∧ Below w1.heap.size w1 wr) (fun i _ => ((intOf i) + 1).toNat)
    case atStart => exact ⟨0, Nat.zero_le _, by go_num, by rw [← show Array.replicate k (Value.int .i64 0) = PartCells k (lvUp E n k 0) from partCells_start k]; exact Blk.new _ _ _, (Below.refl _ _).alloc (Nat.le_refl _) _⟩
    case round =>
      obtain ⟨q, hq, rfl, hB, hbw⟩ := hrel
      have d2 := (hbw.cell (p := ⟨g, 2, none⟩) hgl).trans p2
      have HB := hid hB; clear hB
      by_cases hlt : q < k
      · obtain ⟨x, hx⟩ : ∃ x, k - 1 - q = x := ⟨_, rfl⟩
        have hxi : (k : Int) - 1 - q = x := by omega
        rw [hxi]
        have HXI := hid hxi; clear hxi
        have HX := hid hx
        have hxk : x < k := by omega
        have HLE : Hid (∀ y, lvUp E n k q y ≤ 64) := fun y => by have := lvUp_le E n k q y; omega
        clear d2
        go_wp2
        go_loopw [8] (fun i wi => ∃ t : Nat, x + 1 ≤ t ∧ t ≤ k ∧ i = .int .i64 t ∧ Blk wi w1.heap.size 3 (PartCells k (upd (lvUp E n k q) x (lvIn E n (lvUp E n k q) x t))) ∧ Below w1.heap.size w1 wi) (fun i _ => k - (intOf i).toNat)
        case atStart =>
          refine ⟨x + 1, Nat.le_refl _, hxk, by go_num, ?_, hbw⟩
          rw [lv_start HX.out hlt]; exact HB.out
        case round =>
          clear hbw HB
          obtain ⟨t, htx, htk, rfl, hB, hbw⟩ := hrel
          have d2 := (hbw.cell (p := ⟨g, 2, none⟩) hgl).trans p2
          by_cases hlt2 : t < k
          · have HGw := hid (HG.out.same (sameOn_below hbw iv_lt))
            have hc1 := hB.cell x
            rw [partCells_get _ _ _ hxk] at hc1
            have hc2 := hB.cell t
            rw [partCells_get _ _ _ hlt2] at hc2
            have hcf := hB.frozen x
            have HB := hid hB; clear hB
            have HCALL := hid (edge43 HGw.out hn64 x t hxk hlt2)
            cases he : edgeK E n x t with
            | false =>
              have HE := hid he; clear he
              clear hc1 hc2 hcf
              go_wp2_with (go_at_call 43; refine HCALL.out.mono ?_; rintro e w' ⟨rfl, rfl⟩; rw [HE.out])
              go_roundw
              case rel => exact ⟨t + 1, by omega, hlt2, by go_num, by rw [lvIn_no HE.out]; exact HB.out, hbw⟩
              case measure => simp [intOf]; omega
            | true =>
              have HE := hid he; clear he
              go_upto_region 12 with (go_at_call 43; refine HCALL.out.mono ?_; rintro e w' ⟨rfl, rfl⟩; rw [HE.out])
              go_region
              go_wp2
              go_roundw
              case rel => exact ⟨t + 1, by omega, hlt2, rfl, lv_set HB.out hxk (by omega) HE.out HLE.out, ((hbw.setCell (p := ⟨w1.heap.size, x, none⟩) (Nat.le_refl _) _)).drew⟩
              case measure => simp [intOf]; omega
          · obtain rfl : t = k := by omega
            go_wp2
            go_roundw
            case rel =>
              refine ⟨q + 1, hlt, by go_num, ?_, hbw⟩
              rw [lvUp, HX.out]; exact hB
            case measure => simp [intOf]
      · obtain rfl : q = k := by omega
        have p3 := HG.out.bc
        have d1 := (hbw.cell (p := ⟨g, 1, none⟩) hgl).trans p1
        go_wp2
        obtain ⟨wo, rfl⟩ : ∃ wo : World, wo = wr := ⟨_, rfl⟩
        go_loopw [9, 67] (fun v i wi => ∃ r : Nat, r ≤ n ∧ i = .int .i64 r ∧ Hid (Grows wo wi v (levelsN E n r)) ∧ Below wo.heap.size wo wi) (fun _ i _ => n - (intOf i).toNat)
        case atStart => exact ⟨0, Nat.zero_le _, rfl, Grows.nil _, Below.refl _ _⟩
        case round =>
          clear d2 d1
          obtain ⟨r, hr, rfl, HR, hbi⟩ := hrel
          by_cases hlt2 : r < n
          · obtain ⟨hpx, hpl⟩ := partOk_ix HO.out HG.out.part hlt2
            rw [HK.out] at hpl
            have hbiw := hbw.trans (hbi.mono hbw.size)
            have d3 := (hbiw.cell (p := ⟨g, 3, none⟩) hgl).trans p3
            have d4 := (hbiw.cell (p := ⟨bp, r, none⟩) HG.out.bs.2).trans (HG.out.bcell r hlt2)
            have d5 := (hbi.cell (p := ⟨w1.heap.size, pf r, none⟩) HB.out.lt).trans (HB.out.cell (pf r))
            rw [partCells_get _ _ _ hpl] at d5
            have hsucc := levelsN_succ E n r
            rw [← hpx, HK.out] at hsucc
            have HS := hid hsucc; clear hsucc
            have HPX := hid hpx; clear hpx
            have hl := levelsN_len E n r
            have hown := HR.out.1
            rw [hl] at hown
            have HL := hid hl; clear hl
            go_upto_region 18 with ((at_builtin; refine wpList_app1 tInts rfl (.tmp 70) (.tmp 81) rfl _ r ((levelsN E n r).map (.int .i64)) rfl hown [.int .i64 _] rfl rfl (by simp [Value.oneCell']) (by simp only [maxLen]; omega) (by omega) ?_; intro v2 w2 ho2 hg2 hb2 hs2))
            have HS2 := hid (HR.out.step hbi.size (by rw [HL.out]; exact ho2) hb2)
            have hbi2 := HR.out.below hbi hg2
            clear ho2 hown
            go_wp2
            go_roundw
            case rel => exact ⟨r + 1, hlt2, by go_num, by rw [HS.out]; exact HS2, hbi2⟩
            case measure => simp [intOf]; omega
          · obtain rfl : r = n := by omega
            go_wp2
            go_ret2
            refine ⟨_, rfl, ?_, hb.trans ((hbw.trans (hbi.mono hbw.size)).mono hb.size)⟩
            rw [HP.out]
            exact HR.out.ints (Nat.le_trans hb.size hbw.size)
  · have HC := hid (made36_bad N v E _ hE1 hgood)
    have hne : (((checkL N E).1 != 0) = true) := by simpa using hgood
    have HP := hid (levelsL_bad hgood)
    obtain ⟨A, m, c, rfl, hm, hmc, hcc, rE⟩ := hE.open_; clear hE hm
    generalize (checkL N E).1 = er at *
    clear hgood hE1
    go_enter Try.func22, Try.ntmps22
    go_wp2_with (go_at_call 36; refine HC.out.mono ?_; rintro e w1 ⟨rfl, hb1⟩)
    go_ret2
    exact ⟨_, rfl, by rw [HP.out]; exact Sl.nil_ _ _, h1.trans (hb1.mono (by simp))⟩
end Go.Proofs.Ythehbamfjglodaa
