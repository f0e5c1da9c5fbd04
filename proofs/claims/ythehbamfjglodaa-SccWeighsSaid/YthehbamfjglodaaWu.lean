/-
  Walks: SccOnce.
-/
import Derived.Test.YthehbamfjglodaaWv
namespace Go.Proofs.Ythehbamfjglodaa
open Go.RowKit

/-- which component each node has been seen in; -1: not yet -/
def atV (E : EdgeL) (n : Nat) (l : List Nat) : Nat → Int := fun x => if x ∈ l then (partIx E n x : Int) else -1
theorem atV_in {E : EdgeL} {n x : Nat} {l : List Nat} (h : x ∈ l) : atV E n l x = partIx E n x := by simp [atV, h]
theorem atV_out {E : EdgeL} {n x : Nat} {l : List Nat} (h : x ∉ l) : atV E n l x = -1 := by simp [atV, h]
theorem atV_step {E : EdgeL} {n x t : Nat} {l : List Nat} (ht : partIx E n x = t) : updI (atV E n l) x (t : Int) = atV E n (l ++ [x]) := by
  funext y
  unfold updI atV
  by_cases e : y = x
  · subst e; simp [ht]
  · simp [e]
def partsTo (E : EdgeL) (n t : Nat) : List Nat := (((order E n).take t).map (comp E n)).flatten
theorem partsTo_succ {E : EdgeL} {n t hd : Nat} (h : (order E n)[t]? = some hd) : partsTo E n (t + 1) = partsTo E n t ++ comp E n hd := by
  unfold partsTo; rw [List.take_add_one, h]; simp
theorem partsTo_all {E : EdgeL} {n k : Nat} (h : (order E n).length = k) : partsTo E n k = allT E n := by
  unfold partsTo allT; rw [List.take_of_length_le (by omega)]
theorem partsTo_pre {E : EdgeL} {n t hd j y : Nat} (hok : Ok n E) (h : (order E n)[t]? = some hd) (hy : (comp E n hd)[j]? = some y) : y ∉ partsTo E n t ++ (comp E n hd).take j := by
  have hnd := allT_nodup hok
  have hsplit : allT E n = partsTo E n t ++ (comp E n hd ++ (((order E n).drop (t + 1)).map (comp E n)).flatten) := by
    rw [← List.append_assoc, ← partsTo_succ h]
    unfold allT partsTo
    rw [← List.flatten_append, ← List.map_append, List.take_append_drop]
  rw [hsplit, ← List.append_assoc] at hnd
  have h1 := (List.nodup_append.1 hnd).1
  have hlt := (List.getElem?_eq_some_iff.1 hy).1
  have hcs : comp E n hd = (comp E n hd).take j ++ y :: (comp E n hd).drop (j + 1) := by
    have := (List.getElem?_eq_some_iff.1 hy).2
    rw [← this, ← List.drop_eq_getElem_cons hlt, List.take_append_drop]
  rw [hcs, ← List.append_assoc] at h1
  have h2 := List.nodup_append.1 h1
  intro hm
  exact h2.2.2 y hm y (by simp) rfl
theorem len_partsTo_le {E : EdgeL} {n t hd j : Nat} (hok : Ok n E) (h : (order E n)[t]? = some hd) : (partsTo E n t ++ (comp E n hd).take j).length ≤ n := by
  have hl := allT_length hok
  have hsplit : allT E n = partsTo E n t ++ (comp E n hd ++ (((order E n).drop (t + 1)).map (comp E n)).flatten) := by
    rw [← List.append_assoc, ← partsTo_succ h]
    unfold allT partsTo
    rw [← List.flatten_append, ← List.map_append, List.take_append_drop]
  rw [hsplit] at hl
  simp only [List.length_append, List.length_take] at hl ⊢
  omega
theorem any_take {l : List Bool} {t : Nat} {b : Bool} (h : l[t]? = some b) : (l.take (t + 1)).any id = ((l.take t).any id || b) := by
  rw [List.take_add_one, h]; simp
theorem madeE_len (x : Int) (xs : List Int) : (madeE x xs).length ≤ 144 := by
  have hn : madeN x ≤ 12 := by unfold madeN; omega
  unfold madeE
  split
  · simp
  · have := rowsE_le (hasT (madeN x) xs (min xs.length 40)) (madeN x) (madeN x)
    have h2 : madeN x * madeN x ≤ 12 * 12 := Nat.mul_le_mul hn hn
    omega
def minusTo (q : Nat) : Nat → Int := fun x => if x < q then -1 else 0
theorem minus_step (q : Nat) : updI (minusTo q) q (-1) = minusTo (q + 1) := by
  funext x
  unfold updI minusTo
  by_cases e : x = q
  · subst e; simp
  · by_cases h : x < q
    · simp [e, h, show x < q + 1 by omega]
    · simp [e, h, show ¬ x < q + 1 by omega]

set_option maxRecDepth 100000 in
set_option maxHeartbeats 4000000 in
theorem once5 (x : Int) (v : Value) (xs : List Int) (w : World) (hx : -9223372036854775808 ≤ x ∧ x ≤ 9223372036854775807) (hv : Ints w (Iv 0 w.heap.size) v xs) (hxs : ∀ y ∈ xs, -9223372036854775808 ≤ y ∧ y ≤ 9223372036854775807) :
    Calls Try.prog 5 #[.int .i64 x, v] w fun e w' => e = .returned (.bool true) ∧ Below w.heap.size w w' := by
  have hck := made_check x xs
  obtain ⟨n, hn⟩ : ∃ n, madeN x = n := ⟨_, rfl⟩
  obtain ⟨E, hE⟩ : ∃ E, madeE x xs = E := ⟨_, rfl⟩
  obtain ⟨m, hm⟩ : ∃ m, E.length = m := ⟨_, rfl⟩
  obtain ⟨k, hk⟩ : ∃ k, (order E n).length = k := ⟨_, rfl⟩
  obtain ⟨mc, hmc⟩ : ∃ mc, (condTo E n k k).length = mc := ⟨_, rfl⟩
  have hn12 : n ≤ 12 := by unfold madeN at hn; omega
  have hm144 : m ≤ 144 := by rw [← hm, ← hE]; exact madeE_len x xs
  have hk12 : k ≤ 12 := by have := order_le E n; omega
  rw [hn, hE] at hck
  have hck1 : (checkL n E).1 = 0 := by rw [hck]
  have HOK := hid (ok_of_check hck1).2
  have HCK := hid hck1; clear hck hck1
  have HV := hid hv
  have HN := hid hn; clear hn
  have HE := hid hE; clear hE
  have HM := hid hm; clear hm
  have HK := hid hk; clear hk
  have HMC := hid hmc; clear hmc
  have HX := hid hx; clear hx
  have HXS := hid hxs; clear hxs
  obtain ⟨Av, mv, cv, rfl, _, _, _, _⟩ := hv.open_; clear hv
  have hmk := fun wz => run_mk (P := Try.prog) (bytes := 8) (z := .int .i64 0) Try.underlying25 (by kernel_rfl) n (by omega) (by omega) wz
  rw [made1 _ rfl] at hmk
  have HMK := hid hmk; clear hmk
  go_enter Try.func5, Try.ntmps5
  go_wp2_with fail
  refine (known4 _).mono ?_; rintro e w1 ⟨rfl, hb1⟩
  go_wp2_with fail
  refine (made_is HX.out (ints_later HV.out hb1) HXS.out HN.out HE.out HM.out).mono ?_; rintro e w2 ⟨A2, c2, rfl, HG, hb2⟩
  have hBg : Blk (w2.alloc (.cells #[.int .i64 n, .slice A2 m c2] 24)) w2.heap.size 24 #[.int .i64 n, .slice A2 m c2] := blk_new rfl
  have hbg := btr (btr hb1 hb2) (bal (Below.refl w2.heap.size w2) (.cells #[.int .i64 n, .slice A2 m c2] 24))
  have hGE := edges_later HG.out (bal (Below.refl w2.heap.size w2) (.cells #[.int .i64 n, .slice A2 m c2] 24))
  go_upto_region 3 with (fail)
  have d0 := hBg.cell 0
  have d1 := hBg.cell 1
  have HGE := hid hGE; clear hGE
  have HBG := hid hBg; clear hBg
  generalize w2.alloc (.cells #[.int .i64 n, .slice A2 m c2] 24) = wa at *
  go_wp2_with fail
  refine (parts_is (E := E) (N := (n : Int)) k HGE.out (partsL_ok HCK.out) HCK.out (by rw [List.length_map]; exact HK.out)).mono ?_; rintro e w3 ⟨A3, c3, rfl, HP, hb3⟩
  have d0 := (hb3.cell (p := ⟨w2.heap.size, 0, none⟩) (lt_of_cell d0)).trans d0
  have d1 := (hb3.cell (p := ⟨w2.heap.size, 1, none⟩) (lt_of_cell d1)).trans d1
  go_wp2_with fail
  refine (levels_is (E := E) (N := (n : Int)) n (edges_later HGE.out hb3) (levelsL_ok HCK.out) HCK.out (levelsN_len E n n)).mono ?_; rintro e w4 ⟨A4, c4, rfl, HL, hb4⟩
  have d0 := (hb4.cell (p := ⟨w2.heap.size, 0, none⟩) (lt_of_cell d0)).trans d0
  have d1 := (hb4.cell (p := ⟨w2.heap.size, 1, none⟩) (lt_of_cell d1)).trans d1
  have ha4 := btr hb3 hb4
  go_wp2_with fail
  refine (loops_is (E := E) (N := (n : Int)) k (edges_later HGE.out ha4) (loopsL_ok HCK.out) HCK.out (by unfold loopsN; rw [List.length_map]; exact HK.out)).mono ?_; rintro e w5 ⟨A5, c5, rfl, HO, hb5⟩
  have d0 := (hb5.cell (p := ⟨w2.heap.size, 0, none⟩) (lt_of_cell d0)).trans d0
  have d1 := (hb5.cell (p := ⟨w2.heap.size, 1, none⟩) (lt_of_cell d1)).trans d1
  have ha5 := btr ha4 hb5
  go_wp2_with fail
  refine (cond_is (E := E) (N := (n : Int)) (M := (k : Int)) (F := condTo E n k k) mc (edges_later HGE.out ha5) (by rw [condL_ok HCK.out, HK.out]) HCK.out HMC.out).mono ?_; rintro e w6 ⟨A6, c6, rfl, HC, hb6⟩
  have d0 := (hb6.cell (p := ⟨w2.heap.size, 0, none⟩) (lt_of_cell d0)).trans d0
  have d1 := (hb6.cell (p := ⟨w2.heap.size, 1, none⟩) (lt_of_cell d1)).trans d1
  go_upto_region 7 with (fail)
  have hB2 : Blk (w6.alloc (.cells #[.int .i64 k, .slice A6 mc c6] 24)) w6.heap.size 24 #[.int .i64 k, .slice A6 mc c6] := blk_new rfl
  have h6b := bal (Below.refl w6.heap.size w6) (.cells #[.int .i64 k, .slice A6 mc c6] 24)
  have hab := btr (btr ha5 hb6) h6b
  have hB1 := HBG.out.below hab HBG.out.lt
  have hP := hid (lists_later HP.out (btr hb4 (btr hb5 (btr hb6 h6b))))
  have hL := hid (ints_later HL.out (btr hb5 (btr hb6 h6b)))
  have hO := hid (bools_later HO.out (btr hb6 h6b))
  have hC := hid (edges_later HC.out h6b)
  have hE := hid (edges_later HGE.out hab)
  have hb0b := btr hbg hab
  clear d0 d1 HP HL HO HC HGE HBG hbg hb1 hb2 hb3 hb4 hb5 hb6 ha4 ha5 hab
  generalize w6.alloc (.cells #[.int .i64 k, .slice A6 mc c6] 24) = wb at *
  have d0 := hB1.cell 0
  have d1 := hB1.cell 1
  have f0 := hB2.cell 0
  have f1 := hB2.cell 1
  have HB1 := hid hB1; clear hB1
  have HB2 := hid hB2; clear hB2
  have hnn : (((n : Int) != (n : Int)) = false) := by simp
  have hkk : (((k : Int) != (k : Int)) = false) := by simp
  have hmk := HMK.out
  go_upto_region 10 with (fail)
  clear hmk HMK hnn hkk f0 f1
  have hbat : Blk (wb.alloc (.cells (Array.replicate n (.int .i64 0)) 3)) wb.heap.size 3 (IC n (minusTo 0)) := by
    have h := blk_new (w := wb) (g := wb.heap.size) (t := 3) (cs := Array.replicate n (Value.int .i64 0)) rfl
    have e : Array.replicate n (Value.int .i64 0) = IC n (minusTo 0) := (IC_start n).trans (IC_congr fun i _ => by simp [minusTo])
    rw [← e]
    exact h
  have hbw0 := bal (Below.refl wb.heap.size wb) (.cells (Array.replicate n (.int .i64 0)) 3)
  have HBAT := hid hbat; clear hbat
  obtain ⟨_, HPA⟩ : ∃ _ : True, Hid (SlAt 1 (SlE 1 IntE) wb (Iv 0 wb.heap.size) A3 ((order E n).map (compI E n))) := by
    obtain ⟨A', c', he, _, _, hat⟩ := hP.out
    injection he with he1 he2 he3; subst he1
    exact ⟨trivial, hat⟩
  obtain ⟨_, HLA⟩ : ∃ _ : True, Hid (SlAt 1 IntE wb (Iv 0 wb.heap.size) A4 (levelsN E n n)) := by
    obtain ⟨A', c', he, _, _, hat⟩ := hL.out
    injection he with he1 he2 he3; subst he1
    exact ⟨trivial, hat⟩
  obtain ⟨_, HOA⟩ : ∃ _ : True, Hid (SlAt 1 BoolE wb (Iv 0 wb.heap.size) A5 (loopsN E n)) := by
    obtain ⟨A', c', he, _, _, hat⟩ := hO.out
    injection he with he1 he2 he3; subst he1
    exact ⟨trivial, hat⟩
  obtain ⟨_, HEA⟩ : ∃ _ : True, Hid (SlAt 2 EdgeE wb (Iv 0 wb.heap.size) A2 E) := by
    obtain ⟨A', c', he, _, _, hat⟩ := hE.out
    injection he with he1 he2 he3; subst he1
    exact ⟨trivial, hat⟩
  have hkl1 : ((order E n).map (compI E n)).length = k := by rw [List.length_map]; exact HK.out
  have hkl2 : (loopsN E n).length = k := by unfold loopsN; rw [List.length_map]; exact HK.out
  have HKL1 := hid hkl1; clear hkl1
  have HKL2 := hid hkl2; clear hkl2
  go_wp2_with fail
  go_loopw [16] (fun i wr => ∃ q : Nat, q ≤ n ∧ i = .int .i64 q ∧ Hid (Blk wr wb.heap.size 3 (IC n (minusTo q))) ∧ Below wb.heap.size wb wr) (fun i _ => n - (intOf i).toNat)
  case atStart => exact ⟨0, Nat.zero_le _, rfl, HBAT, hbw0⟩
  case round =>
    clear HBAT hbw0
    obtain ⟨q, hq, rfl, HBAT, hbw⟩ := hrel
    have e0 := (hbw.cell (p := ⟨w2.heap.size, 0, none⟩) (lt_of_cell d0)).trans d0
    by_cases hlt : q < n
    · have e1 := HBAT.out.cell q
      rw [IC_get _ _ _ hlt] at e1
      have e2 := HBAT.out.frozen q
      go_wp2_with fail
      go_roundw
      case rel =>
        refine ⟨q + 1, hlt, by go_num, ?_, hbw.setCell (p := ⟨wb.heap.size, q, none⟩) (Nat.le_refl _) _⟩
        have h := HBAT.out.set_ q (.int .i64 (-1))
        rw [IC_set _ _ _ _ hlt, minus_step] at h
        exact h
      case measure => simp [intOf]; omega
    · obtain rfl : n = q := by omega
      have hatv : Blk wr wb.heap.size 3 (IC n (atV E n [])) := by
        have e : IC n (minusTo n) = IC n (atV E n []) := IC_congr fun i hi => by simp [minusTo, atV, hi]
        rw [← e]; exact HBAT.out
      have HAT := hid hatv; clear hatv HBAT
      go_wp2_with fail
      obtain ⟨wo, rfl⟩ : ∃ wo : World, wo = wr := ⟨_, rfl⟩
      go_loopw [17, 18, 19] (fun mn an i wr => ∃ t : Nat, t ≤ k ∧ i = .int .i64 t ∧ mn = .int .i64 ((partsTo E n t).length : Nat) ∧ an = .bool (((loopsN E n).take t).any id) ∧ Hid (Blk wr wb.heap.size 3 (IC n (atV E n (partsTo E n t)))) ∧ Below wb.heap.size wb wr) (fun _ _ i _ => k - (intOf i).toNat)
      case atStart => exact ⟨0, Nat.zero_le _, rfl, rfl, rfl, HAT, hbw⟩
      case round =>
        clear HAT hbw e0
        obtain ⟨t, ht, rfl, rfl, rfl, HAT, hbw⟩ := hrel
        by_cases hlt : t < k
        · obtain ⟨ad, l, rfl, had, hl, u, hu, hs⟩ := HPA.out.at_ HKL1.out hlt
          rw [Nat.mul_one] at hu
          obtain ⟨hd, hhd, rfl⟩ := comps_get hl
          obtain ⟨ad5, lb, rfl, had5, hlb, hlbc⟩ := HOA.out.at_ HKL2.out hlt
          rw [BoolE, Nat.mul_one] at hlbc
          have hany := any_take hlb
          obtain ⟨Ac, m1, cc, rfl, hm1, _, _, hat1⟩ := hs.open_
          rw [compI_length] at hm1
          have e1 := (hbw.cell (p := ad.add t) (by rw [block_add]; exact had.2)).trans hu
          have e3 := (hbw.cell (p := ad5.add t) (by rw [block_add]; exact had5.2)).trans hlbc
          have hm112 : m1 ≤ 12 := by have := comp_length_le E n hd; omega
          have HHD := hid hhd; clear hhd hl hs hlb
          have HM1 := hid hm1; clear hm1
          have HA1 := hid hat1; clear hat1
          obtain ⟨nv, hnv⟩ : ∃ nv, ((loopsN E n).take (t + 1)).any id = nv := ⟨_, rfl⟩
          rw [hnv] at hany
          have HNV := hid hnv; clear hnv
          have hAT0 : Hid (Blk wr wb.heap.size 3 (IC n (atV E n (partsTo E n t ++ (comp E n hd).take 0)))) := by simpa using HAT
          have hMN : (partsTo E n t).length = (partsTo E n t ++ (comp E n hd).take 0).length := by simp
          have HMN := hid hMN; clear hMN
          generalize ((loopsN E n).take t).any id = fv at *
          go_upto_region 18 with (fail)
          go_cut [18] (fun a wx => a = .bool nv ∧ wr = wx)
          case first =>
            cases fv with
            | true =>
              have hnv1 : nv = true := by simpa using hany
              subst hnv1
              clear hany
              go_wp2_with fail
              go_meet
              case rel => exact ⟨rfl, rfl⟩
            | false =>
              have hnv1 : lb = nv := by simpa using hany.symm
              subst hnv1
              clear hany
              go_wp2_with fail
              go_meet
              case rel => exact ⟨rfl, rfl⟩
          case rest =>
            clear hany
            obtain ⟨rfl, rfl⟩ := hcut
            go_wp2_with fail
            obtain ⟨wm, rfl⟩ : ∃ wm : World, wm = wr := ⟨_, rfl⟩
            go_loopw [17, 20] (fun mn j wi => ∃ jj : Nat, jj ≤ m1 ∧ j = .int .i64 jj ∧ mn = .int .i64 ((partsTo E n t ++ (comp E n hd).take jj).length : Nat) ∧ Hid (Blk wi wb.heap.size 3 (IC n (atV E n (partsTo E n t ++ (comp E n hd).take jj)))) ∧ Below wb.heap.size wb wi) (fun _ j _ => m1 - (intOf j).toNat)
            case atStart => exact ⟨0, Nat.zero_le _, rfl, by rw [← HMN.out], hAT0, hbw⟩
            case round =>
              clear hAT0 HAT hbw e1 e3
              obtain ⟨jj, hjj, rfl, rfl, HAT, hbw⟩ := hrel
              have e0 := (hbw.cell (p := ⟨w2.heap.size, 0, none⟩) (lt_of_cell d0)).trans d0
              have e1 := (hbw.cell (p := ad.add t) (by rw [block_add]; exact had.2)).trans hu
              by_cases hlt2 : jj < m1
              · obtain ⟨adc, yv, rfl, hadc, hyv, hyc⟩ := HA1.out.at_ (by rw [compI_length]; exact HM1.out) hlt2
                rw [IntE, Nat.mul_one] at hyc
                obtain ⟨y, rfl, hyq, hyn, hyt⟩ := compI_get hyv
                have hord := order_heads E n hd (List.mem_of_getElem? HHD.out)
                obtain ⟨_, zv, hz1, _, hz2, hzc⟩ := HA1.out.at_ (n := m1) (k := 0) (by rw [compI_length]; exact HM1.out) (by omega)
                injection hz1 with hz1; subst hz1
                rw [compI_first hord.2 hord.1] at hz2
                injection hz2 with hz2
                subst hz2
                rw [IntE, Nat.mul_one, show adc.add 0 = adc by simp [Addr.add]] at hzc
                have hpy : t = partIx E n y := part_eq HOK.out hyn HHD.out hyt
                have hph : t = partIx E n hd := part_eq HOK.out hord.1 HHD.out (tog_refl E n hd)
                obtain ⟨adL, lv1, rfl, hadL, hl1, hl1c⟩ := HLA.out.at_ (levelsN_len E n n) hyn
                obtain ⟨_, lv2, hA2, _, hl2, hl2c⟩ := HLA.out.at_ (levelsN_len E n n) hord.1
                injection hA2 with hA2; subst hA2
                have hlv : lv1 = lv2 := by
                  rw [levelsN, List.getElem?_map, List.getElem?_range hyn] at hl1
                  rw [levelsN, List.getElem?_map, List.getElem?_range hord.1] at hl2
                  simp only [Option.map_some, Option.some.injEq, ← hpy] at hl1
                  simp only [Option.map_some, Option.some.injEq, ← hph] at hl2
                  exact hl1.symm.trans hl2
                subst hlv
                rw [IntE, Nat.mul_one] at hl1c hl2c
                have g2 := (hbw.cell (p := adc.add jj) (by rw [block_add]; exact hadc.2)).trans hyc
                have g3 := (hbw.cell (p := adc) hadc.2).trans hzc
                have g4 := (hbw.cell (p := adL.add y) (by rw [block_add]; exact hadL.2)).trans hl1c
                have g5 := (hbw.cell (p := adL.add hd) (by rw [block_add]; exact hadL.2)).trans hl2c
                have g6 := HAT.out.cell y
                rw [IC_get _ _ _ hyn, atV_out (partsTo_pre HOK.out HHD.out hyq)] at g6
                have g7 := HAT.out.frozen y
                have hm10 : 0 < m1 := by omega
                have hm10i : (0 : Int) < (m1 : Int) := by omega
                have hll : ((lv1 != lv1) = false) := by simp
                have hdn : hd < n := hord.1
                have hlen := len_partsTo_le (j := jj) HOK.out HHD.out
                have hstep := atV_step (l := partsTo E n t ++ (comp E n hd).take jj) hpy.symm
                have hsucc : partsTo E n t ++ (comp E n hd).take (jj + 1) = partsTo E n t ++ (comp E n hd).take jj ++ [y] := by
                  rw [List.take_add_one, hyq]; simp
                have HSTEP := hid hstep; clear hstep
                have HSUCC := hid hsucc; clear hsucc
                have HPY := hid hpy; clear hpy
                have HPH := hid hph; clear hph
                clear hyv hl1 hl2 hyq hyc hzc hl1c hl2c hord
                generalize hS : partsTo E n t ++ (comp E n hd).take jj = S at *
                have HS := hid hS; clear hS
                go_upto_region 23 with (fail)
                go_quiet (fail)
                clear e1 g2 g3 g4 g5 e0
                go_wp2_with fail
                have hset := (HAT.out.drewN nq).set_ y (.int .i64 (t : Int))
                rw [IC_set _ _ _ _ hyn, HSTEP.out] at hset
                go_roundw
                case rel => exact ⟨jj + 1, hlt2, by go_num, by rw [HSUCC.out, List.length_append]; rfl, by rw [HSUCC.out]; exact hset, (below_drewN hbw nq).setCell (p := ⟨wb.heap.size, y, none⟩) (Nat.le_refl _) _⟩
                case measure => simp [intOf]; omega
              · obtain rfl : m1 = jj := by omega
                have hfull : partsTo E n t ++ (comp E n hd).take m1 = partsTo E n (t + 1) := by
                  rw [partsTo_succ HHD.out, List.take_of_length_le (by rw [HM1.out]; exact Nat.le_refl _)]
                rw [hfull] at HAT
                have HF := hid hfull; clear hfull
                go_wp2_with fail
                go_roundw
                case rel => exact ⟨t + 1, hlt, by go_num, by rw [HF.out], by rw [HNV.out], HAT, hbw⟩
                case measure => simp [intOf]; omega
        · obtain rfl : k = t := by omega
          have hall : (partsTo E n k).length = n := by rw [partsTo_all HK.out, allT_length HOK.out]
          have hanyk : ((loopsN E n).take k).any id = loopAny E n n := by rw [List.take_of_length_le (by rw [HKL2.out]; exact Nat.le_refl _), loops_any HOK.out]
          rw [hall, hanyk]
          have hAT2 : Hid (∀ y, y < n → wr.cell? ⟨wb.heap.size, y, none⟩ = some (.int .i64 (partIx E n y : Nat))) := fun y hy => by
            rw [HAT.out.cell y, IC_get _ _ _ hy, atV_in]
            rw [partsTo_all HK.out]
            exact (mem_allT HOK.out).2 hy
          clear hall hanyk HAT
          obtain ⟨lav, hlav⟩ : ∃ b, loopAny E n n = b := ⟨_, rfl⟩
          rw [hlav]
          have HLAV := hid hlav; clear hlav
          have e0 := (hbw.cell (p := ⟨w2.heap.size, 0, none⟩) (lt_of_cell d0)).trans d0
          have e1 := (hbw.cell (p := ⟨w2.heap.size, 1, none⟩) (lt_of_cell d1)).trans d1
          have hnn : (((n : Int) != (n : Int)) = false) := by simp
          go_upto_region 30 with (fail)
          clear hnn
          obtain ⟨wo2, rfl⟩ : ∃ wo2 : World, wo2 = wr := ⟨_, rfl⟩
          go_loopw [22] (fun i wr => ∃ q nd : Nat, q ≤ m ∧ i = .int .i64 q ∧ wr = wo2.drewN nd) (fun i _ => m - (intOf i).toNat)
          case atStart => exact ⟨0, 0, Nat.zero_le _, rfl, rfl⟩
          case round =>
            obtain ⟨q, nd, hq, rfl, rfl⟩ := hrel
            by_cases hlt : q < m
            · obtain ⟨ad2, ⟨a, b⟩, rfl, had2, hab, g1, g2⟩ := HEA.out.at_ HM.out hlt
              have ho := HOK.out _ (List.mem_of_getElem? hab)
              obtain ⟨ha0, ha1, hb0, hb1⟩ := ho
              obtain ⟨a, rfl⟩ := Int.eq_ofNat_of_zero_le ha0
              obtain ⟨b, rfl⟩ := Int.eq_ofNat_of_zero_le hb0
              simp only [] at g1 g2 ha1 hb1
              have hadj : adj E a b = true := adj_true.2 (List.mem_of_getElem? hab)
              have han : a < n := by omega
              have hbn : b < n := by omega
              have hle := part_le HOK.out hadj
              have hpb := part_lt HOK.out hbn
              have hek := edgeK_of_adj HOK.out hadj
              have q1 := (hbw.cell (p := ad2.add (q * 2)) (by rw [block_add]; exact had2.2)).trans g1
              have q2 := (hbw.cell (p := ⟨(ad2.add (q * 2)).block, (ad2.add (q * 2)).off + 1, none⟩) (by show (ad2.add (q * 2)).block < _; rw [block_add]; exact had2.2)).trans g2
              have q3 := hAT2.out a han
              have q4 := hAT2.out b hbn
              obtain ⟨adL, lv1, rfl, hadL, hl1, hl1c⟩ := HLA.out.at_ (levelsN_len E n n) han
              obtain ⟨_, lv2, hA2, _, hl2, hl2c⟩ := HLA.out.at_ (levelsN_len E n n) hbn
              injection hA2 with hA2; subst hA2
              rw [IntE, Nat.mul_one] at hl1c hl2c
              have q5 := (hbw.cell (p := adL.add a) (by rw [block_add]; exact hadL.2)).trans hl1c
              have q6 := (hbw.cell (p := adL.add b) (by rw [block_add]; exact hadL.2)).trans hl2c
              have hlev : partIx E n a < partIx E n b → lv2 < lv1 := fun hp => by
                rw [levelsN, List.getElem?_map, List.getElem?_range han] at hl1
                rw [levelsN, List.getElem?_map, List.getElem?_range hbn] at hl2
                simp only [Option.map_some, Option.some.injEq] at hl1 hl2
                rw [← hl1, ← hl2]
                have := level_gt hp hpb hek
                omega
              have HAB := hid hab; clear hab
              clear ha0 hb0 g1 g2 hl1 hl2 hl1c hl2c
              have HADJ := hid hadj; clear hadj
              have HEK := hid hek; clear hek hpb
              generalize partIx E n a = pa at *
              generalize partIx E n b = pb at *
              by_cases hp : pa < pb
              · have hl := hlev hp
                clear hlev
                go_upto_region 32 with (fail)
                go_quiet (fail)
                go_upto_region 33 with (fail)
                go_quiet (fail)
                go_wp2_with fail
                go_roundw
                case rel => exact ⟨q + 1, _, hlt, by go_num, rfl⟩
                case measure => simp [intOf]; omega
              · have hl : pa = pb := by omega
                clear hlev
                subst hl
                go_upto_region 32 with (fail)
                go_quiet (fail)
                go_upto_region 33 with (fail)
                go_quiet (fail)
                go_wp2_with fail
                go_roundw
                case rel => exact ⟨q + 1, _, hlt, by go_num, rfl⟩
                case measure => simp [intOf]; omega
            · obtain rfl : m = q := by omega
              have hbx := bdn hbw nd
              have hco : orderS (k : Int) (condTo E n k k) = ((orderS (k : Int) (condTo E n k k)).1, 0) := by
                have h := cond_order HOK.out (by rw [HK.out]; omega)
                rw [HK.out] at h
                exact Prod.ext rfl h
              obtain ⟨r, hr⟩ : ∃ r, (orderS (k : Int) (condTo E n k k)).1.length = r := ⟨_, rfl⟩
              have HCO := hid hco; clear hco
              have HR := hid hr; clear hr
              have HAN : Hid ((allN E n).length = n) := by
                rw [allN_eq, List.length_map, allT_length HOK.out]; exact rfl
              cases lav with
              | true =>
                go_wp2_with fail
                refine (order_is (E := E) (N := (n : Int)) 0 (edges_later hE.out hbx) (orderS_loop HCK.out HLAV.out) rfl).mono ?_; rintro e w7 ⟨A7, c7, rfl, H7, hb7⟩
                have hb07 := btr hbx hb7
                have f0 := (hb07.cell (p := ⟨w6.heap.size, 0, none⟩) HB2.out.lt).trans (HB2.out.cell 0)
                have f1 := (hb07.cell (p := ⟨w6.heap.size, 1, none⟩) HB2.out.lt).trans (HB2.out.cell 1)
                go_wp2_with fail
                refine (order_is (E := condTo E n k k) (N := (k : Int)) r (edges_later hC.out hb07) HCO.out HR.out).mono ?_; rintro e w8 ⟨A8, c8, rfl, H8, hb8⟩
                go_wp2_with fail
                go_ret
                exact ⟨rfl, btr hb0b (btr hb07 hb8)⟩
              | false =>
                go_wp2_with fail
                refine (order_is (E := E) (N := (n : Int)) n (edges_later hE.out hbx) (orderS_ok HCK.out HLAV.out) HAN.out).mono ?_; rintro e w7 ⟨A7, c7, rfl, H7, hb7⟩
                have hb07 := btr hbx hb7
                have g0 := (hb07.cell (p := ⟨w2.heap.size, 0, none⟩) HB1.out.lt).trans (HB1.out.cell 0)
                have f0 := (hb07.cell (p := ⟨w6.heap.size, 0, none⟩) HB2.out.lt).trans (HB2.out.cell 0)
                have f1 := (hb07.cell (p := ⟨w6.heap.size, 1, none⟩) HB2.out.lt).trans (HB2.out.cell 1)
                go_wp2_with fail
                refine (order_is (E := condTo E n k k) (N := (k : Int)) r (edges_later hC.out hb07) HCO.out HR.out).mono ?_; rintro e w8 ⟨A8, c8, rfl, H8, hb8⟩
                have g0 := (hb8.cell (p := ⟨w2.heap.size, 0, none⟩) (lt_of_cell g0)).trans g0
                have hnn : (((n : Int) == (n : Int)) = true) := by simp
                go_wp2_with fail
                go_ret
                exact ⟨rfl, btr hb0b (btr hb07 hb8)⟩
end Go.Proofs.Ythehbamfjglodaa
