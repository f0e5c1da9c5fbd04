/-
  Walks: SccKnown, the whole.
-/
import Derived.Test.YthehbamfjglodaaWr
import Derived.Deep.RegionHeld3
namespace Go.Proofs.Ythehbamfjglodaa
open Go.RowKit

set_option maxRecDepth 100000 in
set_option maxHeartbeats 8000000 in
theorem known4 (w : World) : Calls Try.prog 4 #[] w fun e w' => e = .returned (.bool true) ∧ Below w.heap.size w w' := by
  have hmk5 : ∀ w, (Instr.makeSlice 25 (.int .i64 5) (.int .i64 5)).run Try.prog w = .ok (.slice (some ⟨w.heap.size, 0, none⟩) 5 5) (w.alloc (.cells #[.int .i64 0, .int .i64 0, .int .i64 0, .int .i64 0, .int .i64 0] 3)) := fun _ => by kernel_rfl
  have hmk3 : ∀ w, (Instr.makeSlice 25 (.int .i64 3) (.int .i64 3)).run Try.prog w = .ok (.slice (some ⟨w.heap.size, 0, none⟩) 3 3) (w.alloc (.cells #[.int .i64 0, .int .i64 0, .int .i64 0] 3)) := fun _ => by kernel_rfl
  go_enter Try.func4, Try.ntmps4
  go_wp2_with fail
  refine (shown21 _).mono ?_; rintro e w1 ⟨A1, c1, rfl, hE, hb1⟩
  have HE := hid hE; clear hE
  go_wp2_with fail
  refine (loops_is 4 (edges_later HE.out (Below.refl _ _)) shown_loops shown_check1 rfl).mono ?_; rintro e w2 ⟨A2, c2, rfl, H2, hb2⟩
  clear HE
  go_wp2_with fail
  refine (shown21 _).mono ?_; rintro e w3 ⟨A3, c3, rfl, hE, hb3⟩
  have HE := hid hE; clear hE
  go_wp2_with fail
  refine (levels_is 5 (edges_later HE.out (Below.refl _ _)) shown_levels shown_check1 rfl).mono ?_; rintro e w4 ⟨A4, c4, rfl, H4, hb4⟩
  clear HE
  go_wp2_with fail
  refine (shown21 _).mono ?_; rintro e w5 ⟨A5, c5, rfl, hE, hb5⟩
  have HE := hid hE; clear hE
  go_wp2_with fail
  refine (order_is 0 (edges_later HE.out (Below.refl _ _)) shown_order rfl).mono ?_; rintro e w6 ⟨A6, c6, rfl, H6, hb6⟩
  clear HE H6
  go_wp2_with fail
  refine (graph_is 3 (ints_new [0, 1, 1, 2, 2, 3] rfl rfl rfl (by decide)) (by decide) (F := [(0, 1), (1, 2), (2, 3)]) rfl rfl).mono ?_; rintro e w7 ⟨A7, c7, rfl, HE, hb7⟩
  go_wp2_with fail
  refine (order_is 5 (edges_later HE.out (Below.refl _ _)) chain_order rfl).mono ?_; rintro e w8 ⟨A8, c8, rfl, H8, hb8⟩
  clear HE
  go_wp2_with fail
  refine (shown21 _).mono ?_; rintro e w9 ⟨A9, c9, rfl, hE, hb9⟩
  have HE := hid hE; clear hE
  go_wp2_with fail
  refine (path_is 3 (edges_later HE.out (Below.refl _ _)) shown_path11 rfl).mono ?_; rintro e w10 ⟨A10, c10, rfl, H10, hb10⟩
  clear HE
  go_wp2_with fail
  refine (shown21 _).mono ?_; rintro e w11 ⟨A11, c11, rfl, hE, hb11⟩
  have HE := hid hE; clear hE
  go_wp2_with fail
  refine (path_is 0 (edges_later HE.out (Below.refl _ _)) shown_path30 rfl).mono ?_; rintro e w12 ⟨A12, c12, rfl, H12, hb12⟩
  clear HE H12
  go_wp2_with fail
  refine (shown21 _).mono ?_; rintro e w13 ⟨A13, c13, rfl, hE, hb13⟩
  have HE := hid hE; clear hE
  go_wp2_with fail
  refine (path_is 0 (edges_later HE.out (Below.refl _ _)) shown_path05 rfl).mono ?_; rintro e w14 ⟨A14, c14, rfl, H14, hb14⟩
  clear HE H14
  go_wp2_with fail
  refine (shown21 _).mono ?_; rintro e w15 ⟨A15, c15, rfl, hE, hb15⟩
  have HE := hid hE; clear hE
  go_wp2_with fail
  refine (cond_is 2 (edges_later HE.out (Below.refl _ _)) shown_cond shown_check1 rfl).mono ?_; rintro e w16 ⟨A16, c16, rfl, H16, hb16⟩
  clear HE
  have h10 := btr hb11 (btr hb12 (btr hb13 (btr hb14 (btr hb15 hb16))))
  have h8 := btr hb9 (btr hb10 h10)
  have h6 := btr (bal (Below.refl w6.heap.size w6) _) (btr hb7 (btr hb8 h8))
  have h4 := btr hb5 (btr hb6 h6)
  have h2 := btr hb3 (btr hb4 h4)
  have h0 := btr hb1 (btr hb2 h2)
  have h8' := h8
  clear hb1 hb2 hb3 hb4 hb5 hb6 hb7 hb8 hb9 hb10 hb11 hb12 hb13 hb14 hb15 hb16 h6
  go_upto_region 9 with (fail)
  have hBx : Blk (w16.alloc (.cells #[.int .i64 4, .slice A16 2 c16] 24)) w16.heap.size 24 #[.int .i64 4, .slice A16 2 c16] := blk_new rfl
  have hbx := bal (Below.refl w16.heap.size w16) (.cells #[.int .i64 4, .slice A16 2 c16] 24)
  generalize w16.alloc (.cells #[.int .i64 4, .slice A16 2 c16] 24) = wb at *
  have HBx := hid hBx; clear hBx
  go_cut [17, 18, 19] (fun a b c wx => ∃ A c', a = .int .i64 0 ∧ b = .slice A 1 c' ∧ c = .int .i64 0 ∧ Hid (Ints wx (Iv 0 wx.heap.size) (.slice A 1 c') [0]) ∧ Below wb.heap.size wb wx)
  case first =>
    go_region_with (first
      | (go_at_call 21; refine (shown21 _).mono ?_; rintro e v1 ⟨B1, d1, rfl, hF, hv1⟩; have HF := hid hF; clear hF)
      | (go_at_call 17; ((with_reducible refine (heavyA5 HF).mono ?_); rintro e v2 ⟨B2, d2, rfl, HZ, hv2⟩))
      | (go_at_call 17; ((with_reducible refine (heavyB5 HF hv1).mono ?_); rintro e v2 ⟨B2, d2, rfl, HZ, hv2⟩)))
    all_goals
      clear h10 h8 h4 h2 h0 h8' hmk5 hmk3 hbx
      go_simp
      go_step
      go_meet
      case rel =>
        refine ⟨B2, d2, rfl, rfl, rfl, HZ.out.iv intE (Nat.zero_le _) (Nat.le_refl _), ?_⟩
        first
          | exact btr (Below.refl wb.heap.size wb).drew (btr (bal hv1 _) hv2)
          | exact btr (bal (Below.refl wb.heap.size wb) _).drew (btr hv1 hv2)
  case rest =>
    obtain ⟨A17, c17, rfl, rfl, rfl, H17, hbc⟩ := hcut
    obtain ⟨wa, rfl⟩ : ∃ wa : World, wa = wc := ⟨_, rfl⟩
    have h10b := btr h10 hbx
    go_upto_region 10 with (fail)
    go_cut [20, 21, 22] (fun _ _ c wx => c = .int .i64 3 ∧ Below wa.heap.size wa wx)
    case first =>
      go_region_with (first
        | (go_at_call 21; refine (shown21 _).mono ?_; rintro e v1 ⟨B1, d1, rfl, hF, hv1⟩; have HF := hid hF; clear hF)
        | (go_at_call 17; ((with_reducible refine (heavyA3 HF).mono ?_); rintro e v2 ⟨B2, d2, rfl, HZ, hv2⟩))
        | (go_at_call 17; ((with_reducible refine (heavyB3 HF hv1).mono ?_); rintro e v2 ⟨B2, d2, rfl, HZ, hv2⟩)))
      all_goals
        clear h10 h8 h4 h2 h0 h8' hmk5 hmk3 hbx hbc
        go_simp
        go_step
        go_meet
        case rel =>
          refine ⟨rfl, ?_⟩
          first
            | exact btr (Below.refl wa.heap.size wa).drew (btr (bal hv1 _) hv2)
            | exact btr (bal (Below.refl wa.heap.size wa) _).drew (btr hv1 hv2)
    case rest =>
      obtain ⟨rfl, hcd⟩ := hcut
      obtain ⟨wd, rfl⟩ : ∃ wd : World, wd = wc := ⟨_, rfl⟩
      have hba := btr hbc hcd
      have k10 := btr h10 (btr hbx hba)
      have k16 := btr hbx hba
      have k8 := btr h8 (btr hbx hba)
      have k4 := btr h4 (btr hbx hba)
      have k2 := btr h2 (btr hbx hba)
      have k0 := btr h0 (btr hbx hba)
      clear h10 h8 h4 h2 h0 h8' h10b hbx hbc hmk5 hmk3
      go_wp2_with fail
      refine (graph_is 1 (ints_new [0, 2] rfl rfl rfl (by decide)) (by decide) (F := [(0, 2)]) rfl rfl).mono ?_; rintro e w17 ⟨A18, c18, rfl, HE, hd1⟩
      go_wp2_with fail
      refine (check_is (edges_later HE.out (Below.refl _ _)) check02).mono ?_; rintro e w18 ⟨rfl, hd2⟩
      clear HE
      go_wp2_with fail
      refine (graph_is 2 (ints_new [1, 0, 0, 1] rfl rfl rfl (by decide)) (by decide) (F := [(1, 0), (0, 1)]) rfl rfl).mono ?_; rintro e w19 ⟨A19, c19, rfl, HE, hd3⟩
      go_wp2_with fail
      refine (check_is (edges_later HE.out (Below.refl _ _)) check10).mono ?_; rintro e w20 ⟨rfl, hd4⟩
      clear HE
      have hd := btr (btr (bal (Below.refl wd.heap.size wd) _) (btr hd1 hd2)) (btr (bal (Below.refl w18.heap.size w18) _) (btr hd3 hd4))
      clear hd1 hd2 hd3 hd4
      go_wp2_with fail
      refine (sameBools_any _ _ [false, true, false, true] [false, true, false, true] _ (bools_later H2.out ?_) (bools_new _ (by simp) rfl rfl (by decide))).mono ?_
      · exact bal (btr k2 hd) _
      · rw [decide_eq_true rfl]; rintro e w21 ⟨rfl, q21, rfl⟩
        go_wp2_with fail
        refine (sameInts_any _ _ [2, 1, 1, 0, 0] [2, 1, 1, 0, 0] _ (ints_later H4.out ?_) (ints_new _ (by simp) rfl rfl (by decide))).mono ?_
        · repeat (first | exact btr k4 hd | refine bdn ?_ _ | refine bal ?_ _)
        · rw [decide_eq_true rfl]; rintro e w22 ⟨rfl, q22, rfl⟩
          go_wp2_with fail
          refine (sameInts_any _ _ [0, 1, 2, 3, 4] [0, 1, 2, 3, 4] _ (ints_later H8.out ?_) (ints_new _ (by simp) rfl rfl (by decide))).mono ?_
          · repeat (first | exact btr k8 hd | refine bdn ?_ _ | refine bal ?_ _)
          · rw [decide_eq_true rfl]; rintro e w23 ⟨rfl, q23, rfl⟩
            go_wp2_with fail
            refine (reaches28 0 _ [1, 2, 3] _ (ints_new _ (by simp) rfl rfl (by decide)) shown_reach0).mono ?_; rintro e w24 ⟨rfl, hd5⟩
            go_wp2_with fail
            refine (reaches28 3 _ [] _ (nil_ints _ _) shown_reach3).mono ?_; rintro e w25 ⟨rfl, hd6⟩
            go_wp2_with fail
            refine (reaches28 1 _ [1, 2, 3] _ (ints_new _ (by simp) rfl rfl (by decide)) shown_reach1).mono ?_; rintro e w26 ⟨rfl, hd7⟩
            have hz : Below wd.heap.size wd w26 := by
              refine btr ?_ hd7
              refine bal ?_ _
              refine btr ?_ hd6
              refine btr ?_ hd5
              repeat (first | exact hd | refine bdn ?_ _ | refine bal ?_ _)
            clear hd hd5 hd6 hd7
            go_wp2_with fail
            refine (sameInts_any _ _ [1, 2, 1] [1, 2, 1] _ (ints_later H10.out ?_) (ints_new (cs := #[.int .i64 1, .int .i64 2, .int .i64 1]) _ (by simp) rfl rfl (by decide))).mono ?_
            · repeat (first | exact btr k10 hz | refine bdn ?_ _ | refine bal ?_ _)
            · rw [decide_eq_true rfl]; rintro e w27 ⟨rfl, q27, rfl⟩
              go_upto_region 15 with (fail)
              have hw : Below wd.heap.size wd ((w26.alloc (.cells #[.int .i64 1, .int .i64 2, .int .i64 1] 3)).drewN q27) := by
                repeat (first | exact hz | refine bdn ?_ _ | refine bal ?_ _)
              generalize (w26.alloc (.cells #[.int .i64 1, .int .i64 2, .int .i64 1] 3)).drewN q27 = ww at *
              have hb2 := btr hba hw
              have hBw := HBx.out.below hb2 HBx.out.lt
              have hlt : w16.heap.size < ww.heap.size := hBw.lt
              have h16w := btr k16 hw
              have haw := btr hcd hw
              have e0 : ww.cell? ⟨w16.heap.size, 0, none⟩ = some (.int .i64 4) := hBw.cell 0
              have e1 : ww.cell? ⟨w16.heap.size, 1, none⟩ = some (.slice A16 2 c16) := hBw.cell 1
              have e0' := cell_al e0
              have e1' := cell_al e1
              have h0w := btr k0 hw
              clear k10 k8 k4 k2 k0 k16 hcd hba hz hb2 hBw hw
              go_cut [29] (fun a wx => a = .bool true ∧ Below ww.heap.size ww wx)
              case first =>
                go_region_held3 (fun w' => w'.cell? ⟨w16.heap.size, 0, none⟩ = some (.int .i64 4) ∧ w'.cell? ⟨w16.heap.size, 1, none⟩ = some (.slice A16 2 c16)) (first | exact ⟨e0, e1⟩ | exact ⟨e0' _, e1' _⟩ | exact ⟨f0, f1⟩ | exact ⟨g0, g1⟩ | exact ⟨cell_al g0 _, cell_al g1 _⟩ | exact ⟨i0, i1⟩) (first
                  | (go_at_call 24; ((with_reducible refine graphZ.mono ?_); rintro e v1 ⟨B1, d1, rfl, HG, hv1⟩; have f0 := cell_zd hv1 e0; have f1 := cell_zd hv1 e1; have hv := btr (bal (Below.refl ww.heap.size ww) _).drew hv1; clear hv1))
                  | (go_at_call 19; ((with_reducible refine (sameG16 H16 (btr h16w hv) HG).mono ?_); rintro e v2 ⟨rfl, hv2⟩; have g0 := (hv2.cell (lt_of_cell f0)).trans f0; have g1 := (hv2.cell (lt_of_cell f1)).trans f1))
                  | (go_at_call 16; ((with_reducible refine (sameI17 H17 (btr haw (btr hv hv2))).mono ?_); rintro e v3 ⟨rfl, hv3⟩; have i0 := (hv3.cell (lt_of_cell (cell_al g0 _))).trans (cell_al g0 _); have i1 := (hv3.cell (lt_of_cell (cell_al g1 _))).trans (cell_al g1 _))))
                go_step
                go_step
                go_meet
                case rel => exact ⟨rfl, btr hv (btr hv2 (btr (bal (Below.refl v2.heap.size v2) _) hv3))⟩
              case rest =>
                obtain ⟨rfl, hwe⟩ := hcut
                go_wp2_with fail
                refine (awake9 _).mono ?_; rintro e w30 ⟨rfl, hf⟩
                go_wp2_with fail
                go_ret
                exact ⟨rfl, btr h0w (btr hwe hf)⟩
end Go.Proofs.Ythehbamfjglodaa
