/-
  Walks: SccWeighs.
-/
import Derived.Test.YthehbamfjglodaaWu
import Derived.Test.YthehbamfjglodaaMath7
import Derived.Deep.RegionHeld3
import Derived.IntWalk
import Derived.StillTailTactics
namespace Go.Proofs.Ythehbamfjglodaa
open Go.RowKit

/-- the own weights of the first t components -/
def ownF (E : EdgeL) (n : Nat) (ws : List Int) (t : Nat) : Nat → Int := fun x => if x < t then ownK E n ws x else 0
theorem ownF_step {E : EdgeL} {n t : Nat} {ws : List Int} : updI (ownF E n ws t) t (ownK E n ws t) = ownF E n ws (t + 1) := by
  funext y
  unfold updI ownF
  by_cases e : y = t
  · subst e; simp
  · by_cases h : y < t
    · simp [e, h, show y < t + 1 by omega]
    · simp [e, h, show ¬ y < t + 1 by omega]
theorem ownF_low {E : EdgeL} {n t : Nat} {ws : List Int} : updI (ownF E n ws t) t 0 = ownF E n ws t := by
  funext y
  unfold updI ownF
  by_cases e : y = t
  · subst e; simp
  · simp [e]
/-- the best weights of the last q components -/
def bestF (E : EdgeL) (n : Nat) (ws : List Int) (k q : Nat) : Nat → Int := fun x => if k ≤ x + q then bestW E n ws k x else 0
theorem bestF_step {E : EdgeL} {n k q x : Nat} {ws : List Int} (hx : k - 1 - q = x) (hq : q < k) : updI (bestF E n ws k q) x (bestW E n ws k x) = bestF E n ws k (q + 1) := by
  funext y
  unfold updI bestF
  by_cases e : y = x
  · subst e; rw [if_pos rfl, if_pos (by omega)]
  · rw [if_neg e]
    by_cases h : k ≤ y + q
    · rw [if_pos h, if_pos (by omega)]
    · rw [if_neg h, if_neg (by omega)]
theorem heavyL_ws {E : EdgeL} {n : Nat} (xs : List Int) (h : (checkL n E).1 = 0) {l : List Nat} (hl : heavyN E n (wsTo xs n) = (sumK E n (wsTo xs n) l, castN l)) :
    heavyL n E (wsTo xs n) = (sumK E n (wsTo xs n) l, castN l, 0) := by
  rw [heavyL_ok h (wsTo_len xs n) (wsTo_bad xs n), hl]
theorem mem_cond {E : EdgeL} {n k i t : Nat} (hk : (order E n).length = k) (hit : i < t) (htk : t < k) : (((i : Int), (t : Int)) ∈ condTo E n k k) ↔ edgeK E n i t = true := by
  subst hk
  rw [← adj_true, cond_adj]
  constructor
  · rintro ⟨_, _, _, h⟩; exact h
  · intro h; exact ⟨by omega, htk, by omega, h⟩
theorem linked_is {N : Int} {v : Value} {E : EdgeL} {a b : Int} {w : World} {t : Bool} (hE : Edges w (Iv 0 w.heap.size) v E) (h : (a, b) ∈ E ↔ t = true) :
    Calls Try.prog 34 #[.agg #[.int .i64 N, v], .int .i64 a, .int .i64 b] w fun e w' => e = .returned (.bool t) ∧ Below w.heap.size w w' :=
  (linked34 N v E a b w hE).mono fun _ _ ⟨he, hb⟩ => ⟨by rw [he]; exact ret_bool (by rw [Bool.eq_iff_iff, decide_eq_true_eq, h]), hb⟩

attribute [local go_sem ↓] neq_bool
set_option maxRecDepth 100000 in
set_option maxHeartbeats 4000000 in
theorem weighs7 (x : Int) (v : Value) (xs : List Int) (w : World) (hx : -9223372036854775808 ≤ x ∧ x ≤ 9223372036854775807) (hv : Ints w (Iv 0 w.heap.size) v xs) (hxs : ∀ y ∈ xs, -9223372036854775808 ≤ y ∧ y ≤ 9223372036854775807) :
    Calls Try.prog 7 #[.int .i64 x, v] w fun e w' => e = .returned (.bool true) ∧ Below w.heap.size w w' := by
  have hck := made_check x xs
  obtain ⟨n, hn⟩ : ∃ n, madeN x = n := ⟨_, rfl⟩
  obtain ⟨E, hE⟩ : ∃ E, madeE x xs = E := ⟨_, rfl⟩
  obtain ⟨m, hm⟩ : ∃ m, E.length = m := ⟨_, rfl⟩
  obtain ⟨k, hk⟩ : ∃ k, (order E n).length = k := ⟨_, rfl⟩
  obtain ⟨mc, hmc⟩ : ∃ mc, (condTo E n k k).length = mc := ⟨_, rfl⟩
  have hn12 : n ≤ 12 := by unfold madeN at hn; omega
  have hk12 : k ≤ 12 := by have := order_le E n; omega
  rw [hn, hE] at hck
  have hck1 : (checkL n E).1 = 0 := by rw [hck]
  have HOK := hid (ok_of_check hck1).2
  have HCK := hid hck1; clear hck hck1
  obtain ⟨l, hl1, hl2, hl3, hl4, hl5⟩ := heavy_all (ws := wsTo xs n) HOK.out hk
  obtain ⟨lc, hlc⟩ : ∃ lc, l.length = lc := ⟨_, rfl⟩
  rw [hlc] at hl4 hl5
  obtain ⟨most, hmost⟩ : ∃ most, sumK E n (wsTo xs n) l = most := ⟨_, rfl⟩
  have hheavy := heavyL_ws xs HCK.out hl1
  rw [hmost] at hheavy hl3
  obtain ⟨ws, hws⟩ : ∃ ws, wsTo xs n = ws := ⟨_, rfl⟩
  rw [hws] at hheavy hl3 hmost
  have HWOK := hid (wok_of (wsTo_bad xs n))
  rw [hws] at HWOK
  have HHV := hid hheavy; clear hheavy hl1
  have HCH := hid hl2; clear hl2
  have HMX := hid hl3; clear hl3
  have HZ := hid hl4; clear hl4
  have HLC := hid hlc; clear hlc
  have HMOST := hid hmost; clear hmost
  have HWS := hid hws; clear hws
  have HV := hid hv
  have HN := hid hn; clear hn
  have HE := hid hE; clear hE
  have HM := hid hm; clear hm
  have HK := hid hk; clear hk
  have HMC := hid hmc; clear hmc
  have HX := hid hx; clear hx
  have HXS := hid hxs; clear hxs
  have hcl : Hid ((castN l).length = lc) := by unfold castN; rw [List.length_map]; exact HLC.out
  obtain ⟨Av, mv, cv, rfl, _, _, _, _⟩ := hv.open_; clear hv
  have hmk := fun wz => run_mk (P := Try.prog) (bytes := 8) (z := .int .i64 0) Try.underlying25 (by kernel_rfl) k (by omega) (by omega) wz
  rw [made1 _ rfl] at hmk
  have HMK := hid hmk; clear hmk
  go_enter Try.func7, Try.ntmps7
  go_wp2_with fail
  refine (known4 _).mono ?_; rintro e w1 ⟨rfl, hb1⟩
  go_wp2_with fail
  refine (made_is HX.out (ints_later HV.out hb1) HXS.out HN.out HE.out HM.out).mono ?_; rintro e w2 ⟨A2, c2, rfl, HG, hb2⟩
  have hBg : Blk (w2.alloc (.cells #[.int .i64 n, .slice A2 m c2] 24)) w2.heap.size 24 #[.int .i64 n, .slice A2 m c2] := blk_new rfl
  have hbg := btr (btr hb1 hb2) (bal (Below.refl w2.heap.size w2) (.cells #[.int .i64 n, .slice A2 m c2] 24))
  have hGE := edges_later HG.out (bal (Below.refl w2.heap.size w2) (.cells #[.int .i64 n, .slice A2 m c2] 24))
  go_upto_region 5 with (fail)
  have d0 := hBg.cell 0
  have d1 := hBg.cell 1
  have HGE := hid hGE; clear hGE
  have HBG := hid hBg; clear hBg
  have HVa := hid (ints_later HV.out hbg)
  generalize w2.alloc (.cells #[.int .i64 n, .slice A2 m c2] 24) = wa at *
  go_loopw [7, 8] (fun v i wr => ∃ q : Nat, q ≤ n ∧ i = .int .i64 q ∧ Hid (Grows wa wr v (wsTo xs q)) ∧ Below wa.heap.size wa wr) (fun _ i _ => n - (intOf i).toNat)
  case atStart => exact ⟨0, Nat.zero_le _, rfl, Grows.nil wa, Below.refl _ _⟩
  case round =>
    obtain ⟨q, hq, rfl, HR, hbw⟩ := hrel
    have e0 := (hbw.cell (p := ⟨w2.heap.size, 0, none⟩) (lt_of_cell d0)).trans d0
    by_cases hlt : q < n
    · have hown := HR.out.1
      rw [wsTo_len] at hown
      obtain ⟨y, hy⟩ : ∃ y, xs[q]?.getD 0 = y := ⟨_, rfl⟩
      have hyb : -9223372036854775808 ≤ y ∧ y ≤ 9223372036854775807 := by
        rw [← hy]
        cases hc : xs[q]? with
        | none => simp
        | some z => exact HXS.out z (List.mem_of_getElem? hc)
      have HAT : Hid (Calls Try.prog 33 #[.slice Av mv cv, .int .i64 q] wr fun e w' => e = .returned (.int .i64 y) ∧ wr = w') := by
        rw [← hy]; exact at33 _ xs q wr (ints_later HVa.out hbw)
      have hdiv : -9223372036854775808 ≤ y.tdiv 7 ∧ y.tdiv 7 ≤ 9223372036854775807 := by
        have h1 := Int.tmod_add_mul_tdiv y 7
        have h2 := Int.tmod_lt_of_pos y (b := 7) (by omega)
        have h3 : -7 < y.tmod 7 := by
          have := Int.tmod_lt_of_pos (-y) (b := 7) (by omega)
          rw [Int.neg_tmod] at this
          omega
        omega
      have HMOD := hid (mod31 (y.tdiv 7) 6 wr hdiv (by omega))
      have hsucc := wsTo_succ xs q
      rw [hy] at hsucc
      have HS := hid hsucc; clear hsucc
      have HY := hid hy; clear hy
      have HYB := hid hyb; clear hyb
      obtain ⟨hd1, hd2⟩ := hdiv
      go_wp2_with fail
      refine HAT.out.mono ?_; rintro e w' ⟨rfl, rfl⟩
      go_wp2_with fail
      refine HMOD.out.mono ?_; rintro e w' ⟨rfl, rfl⟩
      generalize y.tdiv 7 % 6 = z at *
      go_wp2_with ((at_builtin; refine wpList_app1 tInts rfl (.tmp 34) (.tmp 40) rfl _ q ((wsTo xs q).map (.int .i64)) rfl hown [.int .i64 z] rfl rfl (by simp [Value.oneCell']) (by simp only [maxLen]; omega) (by omega) ?_; intro v2 w4 ho2 hg2 hb4 hs2))
      have HS2 := hid (HR.out.step hbw.size (by rw [wsTo_len]; exact ho2) hb4)
      have hbw2 := HR.out.below hbw hg2
      go_roundw
      case rel => exact ⟨q + 1, hlt, by go_num, by rw [HS.out]; exact HS2, hbw2⟩
      case measure => simp [intOf]; omega
    · obtain rfl : n = q := by omega
      have hIW := HR.out.ints (A := 0) (Nat.zero_le _)
      rw [HWS.out] at hIW
      obtain ⟨A7, c7, rfl, hIW⟩ := ints_form n hIW (by rw [← HWS.out, wsTo_len])
      have e1 := (hbw.cell (p := ⟨w2.heap.size, 1, none⟩) (lt_of_cell d1)).trans d1
      have HIW := hid hIW; clear hIW
      clear HR
      go_wp2_with fail
      refine (heavy_is lc (edges_later HGE.out hbw) HIW.out HHV.out hcl.out).mono ?_; rintro e w5 ⟨A8, c8, rfl, HCHN, hb5⟩
      have ha5 := btr hbw hb5
      have e0 := (ha5.cell (p := ⟨w2.heap.size, 0, none⟩) (lt_of_cell d0)).trans d0
      have e1 := (ha5.cell (p := ⟨w2.heap.size, 1, none⟩) (lt_of_cell d1)).trans d1
      go_wp2_with fail
      refine (cond_is (E := E) (N := (n : Int)) (M := (k : Int)) (F := condTo E n k k) mc (edges_later HGE.out ha5) (by rw [condL_ok HCK.out, HK.out]) HCK.out HMC.out).mono ?_; rintro e w6 ⟨A6, c6, rfl, HC, hb6⟩
      have hB2 : Blk (w6.alloc (.cells #[.int .i64 k, .slice A6 mc c6] 24)) w6.heap.size 24 #[.int .i64 k, .slice A6 mc c6] := blk_new rfl
      have h6b := bal (Below.refl w6.heap.size w6) (.cells #[.int .i64 k, .slice A6 mc c6] 24)
      have hab := btr (btr ha5 hb6) h6b
      go_upto_region 10 with (fail)
      have HIW2 := hid (ints_later HIW.out (btr hb5 (btr hb6 h6b)))
      have HCHN2 := hid (ints_later HCHN.out (btr hb6 h6b))
      have HC2 := hid (edges_later HC.out h6b)
      clear HIW HCHN HC hb5 hb6 h6b ha5 hbw
      generalize w6.alloc (.cells #[.int .i64 k, .slice A6 mc c6] 24) = wb at *
      have HB2 := hid hB2; clear hB2
      have e0 := (hab.cell (p := ⟨w2.heap.size, 0, none⟩) (lt_of_cell d0)).trans d0
      have e1 := (hab.cell (p := ⟨w2.heap.size, 1, none⟩) (lt_of_cell d1)).trans d1
      go_wp2_with fail
      refine (parts_is (E := E) (N := (n : Int)) k (edges_later HGE.out hab) (partsL_ok HCK.out) HCK.out (by rw [List.length_map]; exact HK.out)).mono ?_; rintro e wc ⟨A3, c3, rfl, HP, hbc⟩
      have hac := btr hab hbc
      have hwc := btr hbg hac
      have e0 := (hac.cell (p := ⟨w2.heap.size, 0, none⟩) (lt_of_cell d0)).trans d0
      have HB2c := hid (HB2.out.below hbc HB2.out.lt)
      have f0 := HB2c.out.cell 0
      have f1 := HB2c.out.cell 1
      have HIWc := hid (ints_later HIW2.out hbc)
      have HCHc := hid (ints_later HCHN2.out hbc)
      have HCc := hid (edges_later HC2.out hbc)
      have HPc := hid (lists_later HP.out (Below.refl _ _))
      have HBG2 := hid (HBG.out.below hac HBG.out.lt)
      clear HIW2 HCHN2 HC2 HP HB2 HBG HGE hab hbc hac hbg
      have hz3 : (((n : Int) == 0) != ((lc : Int) == 0)) = false := by
        have := HZ.out
        by_cases h0 : n = 0
        · have h1 := this.2 h0; subst h0; rw [h1]; rfl
        · have h1 : lc ≠ 0 := fun h => h0 (this.1 h)
          have e1 : ((n : Int) == 0) = false := by simp; omega
          have e2 : ((lc : Int) == 0) = false := by simp; omega
          rw [e1, e2]; rfl
      have hkk : (((k : Int) != (k : Int)) = false) := by simp
      have hmk := HMK.out
      go_upto_region 14 with (fail)
      have hbown : Blk (wc.alloc (.cells (Array.replicate k (.int .i64 0)) 3)) wc.heap.size 3 (IC k (ownF E n ws 0)) := by
        have h := blk_new (w := wc) (g := wc.heap.size) (t := 3) (cs := Array.replicate k (Value.int .i64 0)) rfl
        have e : Array.replicate k (Value.int .i64 0) = IC k (ownF E n ws 0) := (IC_start k).trans (IC_congr fun i _ => by simp [ownF])
        rw [← e]
        exact h
      have hbw0 := bal (Below.refl wc.heap.size wc) (.cells (Array.replicate k (.int .i64 0)) 3)
      have HBO := hid hbown; clear hbown
      obtain ⟨_, HPA⟩ : ∃ _ : True, Hid (SlAt 1 (SlE 1 IntE) wc (Iv 0 wc.heap.size) A3 ((order E n).map (compI E n))) := by
        obtain ⟨A', c', he, _, _, hat⟩ := HPc.out
        injection he with he1 he2 he3; subst he1
        exact ⟨trivial, hat⟩
      obtain ⟨_, HWA⟩ : ∃ _ : True, Hid (SlAt 1 IntE wc (Iv 0 wc.heap.size) A7 ws) := by
        obtain ⟨A', c', he, _, _, hat⟩ := HIWc.out
        injection he with he1 he2 he3; subst he1
        exact ⟨trivial, hat⟩
      obtain ⟨_, HCA⟩ : ∃ _ : True, Hid (SlAt 1 IntE wc (Iv 0 wc.heap.size) A8 (castN l)) := by
        obtain ⟨A', c', he, _, _, hat⟩ := HCHc.out
        injection he with he1 he2 he3; subst he1
        exact ⟨trivial, hat⟩
      have hkl1 : ((order E n).map (compI E n)).length = k := by rw [List.length_map]; exact HK.out
      have HKL1 := hid hkl1; clear hkl1
      have hwl : ws.length = n := by rw [← HWS.out, wsTo_len]
      have HWL := hid hwl; clear hwl
      clear hmk hkk hz3
      go_wp2_with fail
      go_loopw [17] (fun i wr => ∃ t : Nat, t ≤ k ∧ i = .int .i64 t ∧ Hid (Blk wr wc.heap.size 3 (IC k (ownF E n ws t))) ∧ Below wc.heap.size wc wr) (fun i _ => k - (intOf i).toNat)
      case atStart => exact ⟨0, Nat.zero_le _, rfl, HBO, hbw0⟩
      case round =>
        clear HBO hbw0
        obtain ⟨t, ht, rfl, HBO, hbw⟩ := hrel
        by_cases hlt : t < k
        · obtain ⟨ad, lp, rfl, had, hl, u, hu, hs⟩ := HPA.out.at_ HKL1.out hlt
          rw [Nat.mul_one] at hu
          obtain ⟨hd, hhd, rfl⟩ := comps_get hl
          obtain ⟨Ac, m1, cc, rfl, hm1, _, _, hat1⟩ := hs.open_
          rw [compI_length] at hm1
          have e1 := (hbw.cell (p := ad.add t) (by rw [block_add]; exact had.2)).trans hu
          have hm112 : m1 ≤ 12 := by have := comp_length_le E n hd; omega
          have hownk : ownTo ws (comp E n hd) m1 = ownK E n ws t := by unfold ownK ownH; rw [hhd, ← hm1]; rfl
          have HOWNK := hid hownk; clear hownk
          have HHD := hid hhd; clear hhd hl hs
          have HM1 := hid hm1; clear hm1
          have HA1 := hid hat1; clear hat1
          go_wp2_with fail
          obtain ⟨wm, rfl⟩ : ∃ wm : World, wm = wr := ⟨_, rfl⟩
          go_loopw [18] (fun j wi => ∃ jj : Nat, jj ≤ m1 ∧ j = .int .i64 jj ∧ Hid (Blk wi wc.heap.size 3 (IC k (updI (ownF E n ws t) t (ownTo ws (comp E n hd) jj)))) ∧ Below wc.heap.size wc wi) (fun j _ => m1 - (intOf j).toNat)
          case atStart => exact ⟨0, Nat.zero_le _, rfl, by rw [ownTo, ownF_low]; exact HBO, hbw⟩
          case round =>
            clear HBO hbw e1
            obtain ⟨jj, hjj, rfl, HBO, hbw⟩ := hrel
            have e1 := (hbw.cell (p := ad.add t) (by rw [block_add]; exact had.2)).trans hu
            by_cases hlt2 : jj < m1
            · obtain ⟨adc, yv, rfl, hadc, hyv, hyc⟩ := HA1.out.at_ (by rw [compI_length]; exact HM1.out) hlt2
              rw [IntE, Nat.mul_one] at hyc
              obtain ⟨y, rfl, hyq, hyn, hyt⟩ := compI_get hyv
              obtain ⟨adw, z, rfl, hadw, hz, hzc⟩ := HWA.out.at_ HWL.out hyn
              rw [IntE, Nat.mul_one] at hzc
              have e0' := (hbw.cell (p := ⟨w2.heap.size, 0, none⟩) (lt_of_cell e0)).trans e0
              have e2 := (hbw.cell (p := adc.add jj) (by rw [block_add]; exact hadc.2)).trans hyc
              have e5 := (hbw.cell (p := adw.add y) (by rw [block_add]; exact hadw.2)).trans hzc
              have e3 := HBO.out.cell t
              rw [IC_get _ _ _ hlt, show updI (ownF E n ws t) t (ownTo ws (comp E n hd) jj) t = ownTo ws (comp E n hd) jj by simp [updI]] at e3
              have e4 := HBO.out.frozen t
              have hsucc : ownTo ws (comp E n hd) (jj + 1) = max (ownTo ws (comp E n hd) jj) z := by rw [ownTo, hyq, wt]; simp [hz]
              have HS := hid hsucc; clear hsucc
              have HYQ := hid hyq; clear hyq
              have HZZ := hid hz; clear hz
              clear hyv hyc hzc
              go_upto_region 20 with (fail)
              go_quiet (fail)
              go_upto_region 22 with (fail)
              go_region
              go_wp2_with fail
              go_roundw
              case rel =>
                have h := (HBO.out.drewN (nq + 1)).set_ t (.int .i64 (if ownTo ws (comp E n hd) jj < z then z else ownTo ws (comp E n hd) jj))
                rw [IC_set _ _ _ _ hlt, updI_updI] at h
                have e6 : ownTo ws (comp E n hd) (jj + 1) = (if ownTo ws (comp E n hd) jj < z then z else ownTo ws (comp E n hd) jj) := by rw [HS.out]; split <;> omega
                exact ⟨jj + 1, hlt2, by go_num, by rw [e6]; exact h, (below_drewN hbw (nq + 1)).setCell (p := ⟨wc.heap.size, t, none⟩) (Nat.le_refl _) _⟩
              case measure => simp [intOf]; omega
            · obtain rfl : m1 = jj := by omega
              rw [HOWNK.out, ownF_step] at HBO
              go_wp2_with fail
              go_roundw
              case rel => exact ⟨t + 1, hlt, by go_num, HBO, hbw⟩
              case measure => simp [intOf]; omega
        · obtain rfl : k = t := by omega
          have hown : ∀ y, y < k → wr.cell? ⟨wc.heap.size, y, none⟩ = some (.int .i64 (ownK E n ws y)) := fun y hy => by
            rw [HBO.out.cell y, IC_get _ _ _ hy]
            unfold ownF
            rw [if_pos hy]
          have HOWN := hid hown; clear hown HBO
          have HCd := hid (edges_later HCc.out hbw)
          have HCAd := hid (HCA.out.same intE (sameOn_below hbw iv_lt))
          have f0 := (hbw.cell (p := ⟨w6.heap.size, 0, none⟩) HB2c.out.lt).trans f0
          have f1 := (hbw.cell (p := ⟨w6.heap.size, 1, none⟩) HB2c.out.lt).trans f1
          have hwr := btr hwc hbw
          have hgwr : wc.heap.size ≤ wr.heap.size := hbw.size
          go_upto_region 25 with (fail)
          obtain ⟨wd, rfl⟩ : ∃ wd : World, wd = wr := ⟨_, rfl⟩
          have HB2d := hid (HB2c.out.below hbw HB2c.out.lt)
          clear hbw
          go_loopw [19, 20] (fun sm i wr => ∃ q : Nat, q ≤ lc ∧ i = .int .i64 q ∧ sm = .int .i64 (sumK E n ws (l.take q)) ∧ Below wd.heap.size wd wr) (fun _ i _ => lc - (intOf i).toNat)
          case atStart => exact ⟨0, Nat.zero_le _, rfl, rfl, Below.refl _ _⟩
          case round =>
            obtain ⟨q, hq, rfl, rfl, hbw⟩ := hrel
            by_cases hlt : q < lc
            · have hyx : ∃ y, l[q]? = some y := ⟨_, List.getElem?_eq_getElem (by rw [HLC.out]; exact hlt)⟩
              obtain ⟨y, hy⟩ := hyx
              have hyk : y < k := HCH.out.1 y (List.mem_of_getElem? hy)
              obtain ⟨ad8, y', rfl, had8, hy', hyc⟩ := HCAd.out.at_ hcl.out hlt
              have hyy : y' = (y : Int) := by
                unfold castN at hy'
                rw [List.getElem?_map, hy] at hy'
                injection hy' with hy'
                exact hy'.symm
              subst hyy
              rw [IntE, Nat.mul_one] at hyc
              have g1 := (hbw.cell (p := ad8.add q) (by rw [block_add]; have := had8.2; omega)).trans hyc
              have g2 := (hbw.cell (p := ⟨wc.heap.size, y, none⟩) (lt_of_cell (HOWN.out y hyk))).trans (HOWN.out y hyk)
              have hsum := sumK_succ (E := E) (n := n) (ws := ws) hy
              have hsb := sumK_in HWOK.out E n l q
              have hob := ownK_in HWOK.out E n y
              have HSUM := hid hsum; clear hsum hyc hy'
              generalize sumK E n ws (l.take q) = sq at *
              generalize ownK E n ws y = oy at *
              obtain ⟨hs1, hs2⟩ := hsb
              obtain ⟨ho1, ho2⟩ := hob
              have hs3 : sq ≤ 12000 := by omega
              clear hs2
              by_cases hq0 : q = 0
              · have hq1 : ¬ (q : Int) > 0 := by omega
                have hq2 : decide (0 < q) = false := by simp; omega
                have hq3 : decide ((y : Int) < 0) = false := by simp
                have hq4 : decide (k ≤ y) = false := by simp; omega
                have HY := hid hy; clear hy
                have HQ0 := hid hq0; clear hq0
                go_upto_region 27 with (fail)
                go_quiet (fail)
                clear hq2 hq3 hq4
                go_wp2_with fail
                go_roundw
                case rel => exact ⟨q + 1, hlt, by go_num, by rw [HSUM.out], bdn hbw nq⟩
                case measure => simp [intOf]; omega
              · have hq1 : (q : Int) > 0 := by omega
                have hq2 : 1 ≤ q := by omega
                have hyx : ∃ y0, l[q - 1]? = some y0 := ⟨_, List.getElem?_eq_getElem (by rw [HLC.out]; omega)⟩
                obtain ⟨y0, hy0⟩ := hyx
                obtain ⟨_, y1, h8, _, hy1, hyc1⟩ := HCAd.out.at_ hcl.out (show q - 1 < lc by omega)
                injection h8 with h8; subst h8
                have hyy : y1 = (y0 : Int) := by
                  unfold castN at hy1
                  rw [List.getElem?_map, hy0] at hy1
                  injection hy1 with hy1
                  exact hy1.symm
                subst hyy
                rw [IntE, Nat.mul_one] at hyc1
                have g3 := (hbw.cell (p := ad8.add (q - 1)) (by rw [block_add]; have := had8.2; omega)).trans hyc1
                have hch := HCH.out.2 (q - 1) (by rw [HLC.out]; omega)
                rw [hy0, show q - 1 + 1 = q by omega, hy] at hch
                simp only [Option.getD_some] at hch
                have HLK := hid (linked_is (N := (k : Int)) (t := true) (w := wr.drew) (edges_later HCd.out hbw.drew) (by rw [mem_cond HK.out hch.1 hyk, hch.2]))
                have p0 := (hbw.cell (p := ⟨w6.heap.size, 0, none⟩) HB2d.out.lt).trans f0
                have p1 := (hbw.cell (p := ⟨w6.heap.size, 1, none⟩) HB2d.out.lt).trans f1
                have HY := hid hy; clear hy
                have HY0 := hid hy0; clear hy0
                have HQ0 := hid hq0; clear hq0
                have HCHQ := hid hch; clear hch
                clear hyc1 hy1
                have z0 : (0 : Int) ≤ (q : Int) - 1 := by omega
                have z2 : ((q : Int) - 1).toNat = q - 1 := by omega
                have z3 : q - 1 < lc := by omega
                have z7 : (1 : Int) ≤ (q : Int) := by omega
                have z8 : (q : Int) - 1 < (lc : Int) := by omega
                have z9 : (q : Int) < (lc : Int) + 1 := by omega
                have z10 : q < lc + 1 := by omega
                have z1 : IntKind.i64.wrap ((q : Int) - 1) = (q : Int) - 1 := IntWalk.i64_in _ (by omega)
                have z4 : decide (0 < q) = true := by simp; omega
                have z5 : decide ((y : Int) < 0) = false := by simp
                have z6 : decide (k ≤ y) = false := by simp; omega
                go_upto_region 27 with (fail)
                go_still_tail 28, (by kernel_rfl)
                change wpList _ _ _ _ _ wr.drew
                clear z1 z2 z4 z5 z6
                go_wp2_with ((go_at_call 34; (with_reducible refine HLK.out.mono ?_); rintro e v1 ⟨rfl, hv1⟩; have g1v := (hv1.cell (p := ad8.add q) (lt_of_cell g1)).trans g1; have g2v := (hv1.cell (p := ⟨wc.heap.size, y, none⟩) (lt_of_cell g2)).trans g2))
                have hbv := btr hbw.drew hv1
                go_roundw
                case rel => exact ⟨q + 1, hlt, by go_num, by rw [HSUM.out], hbv⟩
                case measure => simp [intOf]; omega
            · obtain rfl : lc = q := by omega
              have hfin : sumK E n ws (l.take lc) = most := by rw [List.take_of_length_le (by rw [HLC.out]; exact Nat.le_refl _)]; exact HMOST.out
              rw [hfin]
              clear hfin
              have hmk := HMK.out
              go_upto_region 31 with (fail)
              have hgb : wr.heap.size < (wr.alloc (.cells (Array.replicate k (.int .i64 0)) 3)).heap.size := by simp
              have hbb : Blk (wr.alloc (.cells (Array.replicate k (.int .i64 0)) 3)) wr.heap.size 3 (IC k (bestF E n ws k 0)) := by
                have h := blk_new (w := wr) (g := wr.heap.size) (t := 3) (cs := Array.replicate k (Value.int .i64 0)) rfl
                have e : Array.replicate k (Value.int .i64 0) = IC k (bestF E n ws k 0) := (IC_start k).trans (IC_congr fun i hi => by unfold bestF; rw [if_neg (by omega)])
                rw [← e]
                exact h
              have hbw1 := bal (Below.refl wr.heap.size wr) (.cells (Array.replicate k (.int .i64 0)) 3)
              have HBB := hid hbb; clear hbb
              have HOWNr : Hid (∀ y, y < k → wr.cell? ⟨wc.heap.size, y, none⟩ = some (.int .i64 (ownK E n ws y))) := fun y hy =>
                (hbw.cell (p := ⟨wc.heap.size, y, none⟩) (lt_of_cell (HOWN.out y hy))).trans (HOWN.out y hy)
              have HCr := hid (edges_later HCd.out hbw)
              have p0 := (hbw.cell (p := ⟨w6.heap.size, 0, none⟩) HB2d.out.lt).trans f0
              have p1 := (hbw.cell (p := ⟨w6.heap.size, 1, none⟩) HB2d.out.lt).trans f1
              have hall := btr hwr hbw
              clear hmk hbw
              obtain ⟨we, rfl⟩ : ∃ we : World, we = wr := ⟨_, rfl⟩
              go_wp2_with fail
              go_loopw [22] (fun i wr => ∃ q : Nat, q ≤ k ∧ i = .int .i64 ((k : Int) - 1 - q) ∧ Hid (Blk wr we.heap.size 3 (IC k (bestF E n ws k q))) ∧ Below we.heap.size we wr) (fun i _ => ((intOf i) + 1).toNat)
              case atStart => exact ⟨0, Nat.zero_le _, by go_num, HBB, hbw1⟩
              case round =>
                clear HBB hbw1 hgb
                obtain ⟨q, hq, rfl, HBB, hbw⟩ := hrel
                by_cases hlt : q < k
                · obtain ⟨x0, hx0⟩ : ∃ x0, k - 1 - q = x0 := ⟨_, rfl⟩
                  have hxi : (k : Int) - 1 - q = x0 := by omega
                  rw [hxi]
                  have HXI := hid hxi; clear hxi
                  have HX0 := hid hx0
                  have hxk : x0 < k := by omega
                  have g1 := HBB.out.cell x0
                  rw [IC_get _ _ _ hxk] at g1
                  have g2 := HBB.out.frozen x0
                  have g3 := (hbw.cell (p := ⟨wc.heap.size, x0, none⟩) (lt_of_cell (HOWNr.out x0 hxk))).trans (HOWNr.out x0 hxk)
                  have hset : Blk (wr.setCell ⟨we.heap.size, x0, none⟩ (.int .i64 (ownK E n ws x0))) we.heap.size 3 (IC k (updI (bestF E n ws k q) x0 (bestIn E n ws (bestW E n ws k) x0 (x0 + 1)))) := by
                    have h := HBB.out.set_ x0 (.int .i64 (ownK E n ws x0))
                    rw [IC_set _ _ _ _ hxk] at h
                    rw [bestIn_low (x0 + 1) (Nat.le_refl _)]
                    exact h
                  have HSET := hid hset; clear hset
                  have hbs := hbw.setCell (p := ⟨we.heap.size, x0, none⟩) (Nat.le_refl _) (.int .i64 (ownK E n ws x0))
                  go_upto_region 36 with (fail)
                  obtain ⟨wm, rfl⟩ : ∃ wm : World, wm = wr := ⟨_, rfl⟩
                  go_loopw [23] (fun j wi => ∃ t : Nat, x0 + 1 ≤ t ∧ t ≤ k ∧ j = .int .i64 t ∧ Hid (Blk wi we.heap.size 3 (IC k (updI (bestF E n ws k q) x0 (bestIn E n ws (bestW E n ws k) x0 t)))) ∧ Below we.heap.size we wi) (fun j _ => k - (intOf j).toNat)
                  case atStart => exact ⟨x0 + 1, Nat.le_refl _, hxk, by go_num, HSET, hbs⟩
                  case round =>
                    clear HSET hbs g1 g2 g3 HBB hbw
                    obtain ⟨t, htx, htk, rfl, HBB, hbw⟩ := hrel
                    have g1 := HBB.out.cell x0
                    rw [IC_get _ _ _ hxk, show updI (bestF E n ws k q) x0 (bestIn E n ws (bestW E n ws k) x0 t) x0 = bestIn E n ws (bestW E n ws k) x0 t by simp [updI]] at g1
                    by_cases hlt2 : t < k
                    · have r0 := (hbw.cell (p := ⟨w6.heap.size, 0, none⟩) (lt_of_cell p0)).trans p0
                      have r1 := (hbw.cell (p := ⟨w6.heap.size, 1, none⟩) (lt_of_cell p1)).trans p1
                      have g2 := HBB.out.frozen x0
                      have g3 := (hbw.cell (p := ⟨wc.heap.size, x0, none⟩) (lt_of_cell (HOWNr.out x0 hxk))).trans (HOWNr.out x0 hxk)
                      have g4 := HBB.out.cell t
                      rw [IC_get _ _ _ hlt2, show updI (bestF E n ws k q) x0 (bestIn E n ws (bestW E n ws k) x0 t) t = bestW E n ws k t by unfold updI bestF; rw [if_neg (by omega), if_pos (by omega)]] at g4
                      have hsucc : bestIn E n ws (bestW E n ws k) x0 (t + 1) = if x0 < t ∧ edgeK E n x0 t = true then max (bestIn E n ws (bestW E n ws k) x0 t) (ownK E n ws x0 + bestW E n ws k t) else bestIn E n ws (bestW E n ws k) x0 t := rfl
                      have b1 := bestW_in HWOK.out E n k t
                      have b2 := bestIn_in HWOK.out E n k x0 t
                      have b3 := ownK_in HWOK.out E n x0
                      have HLK := hid (linked_is (N := (k : Int)) (t := edgeK E n x0 t) (w := wr) (edges_later HCr.out hbw) (mem_cond HK.out (by omega) hlt2))
                      obtain ⟨b11, b12⟩ := b1
                      obtain ⟨b21, b22⟩ := b2
                      obtain ⟨b31, b32⟩ := b3
                      have b13 : bestW E n ws k t ≤ 12000 := by omega
                      have b23 : bestIn E n ws (bestW E n ws k) x0 t ≤ 13000 := by omega
                      clear b12 b22
                      cases hek : edgeK E n x0 t with
                      | false =>
                        rw [hek] at HLK hsucc
                        rw [if_neg (by simp)] at hsucc
                        have HS := hid hsucc; clear hsucc
                        have HEK := hid hek; clear hek
                        generalize bestIn E n ws (bestW E n ws k) x0 t = bi at *
                        clear g1 g2 g3 g4
                        go_wp2_with ((go_at_call 34; (with_reducible refine HLK.out.mono ?_); rintro e v1 ⟨rfl, hv1⟩))
                        go_roundw
                        case rel => exact ⟨t + 1, by omega, hlt2, by go_num, by rw [HS.out]; exact HBB.out.below hv1 HBB.out.lt, hbw.trans (hv1.mono hbw.size)⟩
                        case measure => simp [intOf]; omega
                      | true =>
                        rw [hek] at HLK hsucc
                        rw [if_pos ⟨by omega, rfl⟩] at hsucc
                        have HS := hid hsucc; clear hsucc
                        have HEK := hid hek; clear hek
                        generalize bestIn E n ws (bestW E n ws k) x0 t = bi at *
                        generalize bestW E n ws k t = bt at *
                        generalize hox : ownK E n ws x0 = ox at *
                        have HOX := hid hox; clear hox
                        go_upto_region 39 with ((go_at_call 34; (with_reducible refine HLK.out.mono ?_); rintro e v1 ⟨rfl, hv1⟩))
                        have HBv := hid (HBB.out.below hv1 HBB.out.lt)
                        have s1 := (hv1.cell (p := ⟨we.heap.size, x0, none⟩) (lt_of_cell g1)).trans g1
                        have s2 := HBv.out.frozen x0
                        have s3 := (hv1.cell (p := ⟨wc.heap.size, x0, none⟩) (lt_of_cell g3)).trans g3
                        have s4 := (hv1.cell (p := ⟨we.heap.size, t, none⟩) (lt_of_cell g4)).trans g4
                        have hbv := hbw.trans (hv1.mono hbw.size)
                        clear g1 g2 g3 g4 r0 r1 hv1
                        go_region
                        go_wp2_with fail
                        go_roundw
                        case rel =>
                          have h := (HBv.out.set_ x0 (.int .i64 (if bi < ox + bt then ox + bt else bi))).drew
                          rw [IC_set _ _ _ _ hxk, updI_updI] at h
                          have e6 : bestIn E n ws (bestW E n ws k) x0 (t + 1) = (if bi < ox + bt then ox + bt else bi) := by rw [HS.out]; split <;> omega
                          exact ⟨t + 1, by omega, hlt2, by go_num, by rw [e6]; exact h, (hbv.setCell (p := ⟨we.heap.size, x0, none⟩) (Nat.le_refl _) _).drew⟩
                        case measure => simp [intOf]; omega
                    · obtain rfl : k = t := by omega
                      rw [← bestW_eq hxk, bestF_step HX0.out hlt] at HBB
                      have hmx := HMX.out x0 hxk
                      rw [← bestW_eq hxk] at g1
                      go_wp2_with fail
                      go_roundw
                      case rel => exact ⟨q + 1, hlt, congrArg (Value.int .i64) (by have := HXI.out; omega), HBB, hbw⟩
                      case measure => simp [intOf]
                · obtain rfl : k = q := by omega
                  have hmm : ((most == most) = true) := by simp
                  go_wp2_with fail
                  go_ret
                  exact ⟨rfl, btr hall hbw⟩
end Go.Proofs.Ythehbamfjglodaa
