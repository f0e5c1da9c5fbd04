/-
  Walks: Heaviest.
-/
import Derived.Test.YthehbamfjglodaaWj
import Derived.Deep.DeepCutAuto
import Derived.BigRegion
namespace Go.Proofs.Ythehbamfjglodaa
open Go.RowKit

/-- the own weights behind q rounds from the back -/
def ownQ (E : EdgeL) (n : Nat) (ws : List Int) (k q : Nat) : Nat → Int := fun x => if k ≤ x + q then ownK E n ws x else 0
theorem ownQ_succ {E : EdgeL} {n k q x : Nat} {ws : List Int} (hx : k - 1 - q = x) (hq : q < k) : updI (ownQ E n ws k q) x (ownK E n ws x) = ownQ E n ws k (q + 1) := by
  funext y
  unfold updI ownQ
  by_cases e : y = x
  · subst e; rw [if_pos rfl, if_pos (by omega)]
  · rw [if_neg e]
    by_cases h : k ≤ y + q
    · rw [if_pos h, if_pos (by omega)]
    · rw [if_neg h, if_neg (by omega)]
theorem ownQ_low {E : EdgeL} {n k q x : Nat} {ws : List Int} (hx : k - 1 - q = x) (hq : q < k) : updI (ownQ E n ws k q) x 0 = ownQ E n ws k q := by
  funext y
  unfold updI ownQ
  by_cases e : y = x
  · subst e; rw [if_pos rfl, if_neg (by omega)]
  · rw [if_neg e]
theorem updI_updI (f : Nat → Int) (x : Nat) (a b : Int) : updI (updI f x a) x b = updI f x b := by
  funext y; unfold updI; split <;> rfl
theorem updB_updB (f : Best) (x : Nat) (a b : Int × List Nat) : updB (updB f x a) x b = updB f x b := by
  funext y; unfold updB; split <;> rfl

theorem two_tables (w : World) (k : Nat) : Blk ((w.alloc (.cells (Array.replicate k (.int .i64 0)) 3)).alloc (.cells (Array.replicate k (.int .i64 0)) 3)).drew w.heap.size 3 (IC k fun _ => 0) ∧
    Blk ((w.alloc (.cells (Array.replicate k (.int .i64 0)) 3)).alloc (.cells (Array.replicate k (.int .i64 0)) 3)).drew (w.heap.size + 1) 3 (IC k fun _ => 0) := by
  rw [← IC_start]
  exact ⟨((Blk.new w 3 _).alloc _).drew, (blk_new (w := w.alloc _) (by simp)).drew⟩

/-- the world behind '[][]int{{x}, l}' -/
abbrev twoW (wr : World) (x : Int) (u : Value) : World := ((wr.alloc (.cells #[.int .i64 x] 3)).alloc (.cells #[.slice (some ⟨wr.heap.size, 0, none⟩) 1 1, u] 25)).drew
theorem two_below (wr : World) (x : Int) (u : Value) : Below wr.heap.size wr (twoW wr x u) := (((Below.refl _ _).alloc (Nat.le_refl _) _).alloc (by simp) _).drew
theorem two_lists {wr : World} {B : Nat} {x : Int} {u : Value} {l : List Int} (hch : Ints wr (Iv B wr.heap.size) u l) : IntLists (twoW wr x u) (Iv 0 (twoW wr x u).heap.size) (.slice (some ⟨wr.heap.size + 1, 0, none⟩) 2 2) [[x], l] := by
  have hsz : (twoW wr x u).heap.size = wr.heap.size + 2 := by simp [twoW, World.drew]
  have hb := two_below wr x u
  have hc0 : (twoW wr x u).cell? ⟨wr.heap.size, 0, none⟩ = some (.int .i64 x) := by
    show ((wr.alloc (.cells #[.int .i64 x] 3)).alloc _).cell? _ = _
    exact cell_al (by rw [World.cell?_alloc_new]; rfl) _
  have hB2 : Blk (twoW wr x u) (wr.heap.size + 1) 25 #[.slice (some ⟨wr.heap.size, 0, none⟩) 1 1, u] := (blk_new (w := wr.alloc (.cells #[.int .i64 x] 3)) (by simp)).drew
  refine ⟨_, 2, rfl, Nat.le_refl _, by omega, fun _ => ⟨_, rfl, ⟨Nat.zero_le _, by rw [hsz]; exact Nat.lt_succ_self _⟩, fun j y hj => ?_⟩⟩
  match j, hj with
  | 0, hj =>
    simp at hj
    subst hj
    refine ⟨.slice (some ⟨wr.heap.size, 0, none⟩) 1 1, by rw [Nat.zero_mul, show (⟨wr.heap.size + 1, 0, none⟩ : Addr).add 0 = ⟨wr.heap.size + 1, 0, none⟩ by simp [Addr.add]]; exact hB2.cell 0, some ⟨wr.heap.size, 0, none⟩, 1, rfl, Nat.le_refl _, by omega, fun _ => ⟨_, rfl, ⟨Nat.zero_le _, by rw [hsz]; show wr.heap.size < _; omega⟩, fun i z hz => ?_⟩⟩
    cases i with
    | zero =>
      simp at hz
      subst hz
      rw [IntE, Nat.mul_one, show (⟨wr.heap.size, 0, none⟩ : Addr).add 0 = ⟨wr.heap.size, 0, none⟩ by simp [Addr.add]]
      exact hc0
    | succ i => simp at hz
  | 1, hj =>
    simp at hj
    subst hj
    refine ⟨u, by rw [show (⟨wr.heap.size + 1, 0, none⟩ : Addr).add (1 * 1) = ⟨wr.heap.size + 1, 1, none⟩ by simp [Addr.add]]; exact hB2.cell 1, ?_⟩
    exact (hch.same intE (sameOn_below hb iv_lt)).iv intE (Nat.zero_le _) hb.size
  | j + 2, hj => simp at hj

theorem heavyN_of {E : EdgeL} {n k : Nat} {ws : List Int} {f : Best} (hk : (order E n).length = k) (hf : bcUp E n ws k k = f) :
    heavyN E n ws = if atF f k < 0 then (0, []) else ((f (atF f k).toNat).1, castL (f (atF f k).toNat).2) := by subst hk; subst hf; rfl

set_option maxRecDepth 100000 in
set_option maxHeartbeats 4000000 in
theorem heaviest17 (N : Int) (v vw : Value) (E : EdgeL) (ws : List Int) (w : World) (hE : Edges w (Iv 0 w.heap.size) v E) (hW : Ints w (Iv 0 w.heap.size) vw ws) :
    Calls Try.prog 17 #[.agg #[.int .i64 N, v], vw] w fun e w' => ∃ u, e = .returned (.tuple #[.int .i64 (heavyL N E ws).1, u, .int .i64 (heavyL N E ws).2.2]) ∧ Ints w' (Iv w.heap.size w'.heap.size) u (heavyL N E ws).2.1 ∧ Below w.heap.size w w' := by
  obtain ⟨h1, hE1⟩ := boxE (N := N) hE
  obtain ⟨Aw, mw, cw, rfl, hmw, hmwc, hcw, hatw⟩ := hW.open_
  have HWI := hid hW; clear hW
  have HMW := hid hmw; clear hmw
  have HATW := hid hatw; clear hatw
  by_cases hgood : (checkL N E).1 = 0
  · obtain ⟨h0, _, _⟩ := checkL_valid hgood
    obtain ⟨n, rfl⟩ : ∃ n : Nat, N = n := ⟨N.toNat, by omega⟩
    have hn64 := (ok_of_check hgood).1
    have HO := hid (ok_of_check hgood).2
    have HC := hid (made36_ok n v E _ hE1 hgood)
    obtain ⟨A, m, c, rfl, hm, hmc, hcc, rE⟩ := hE.open_; clear hE hm
    clear hE1 h1 h0
    have HG0 := hid hgood; clear hgood
    by_cases hlen : mw = n
    · subst hlen
      have hneb : (((mw : Int) != (mw : Int)) = false) := by simp
      have HCF : Hid (∀ w1, Below w.heap.size w w1 → Calls Try.prog 41 #[.slice Aw mw cw, .func (.func 42) #[] #[]] w1 fun e w' => e = .returned (.bool (ws.any badW)) ∧ w1 = w') := fun w1 hb =>
        (containsFunc41 _ ws w1 ((HWI.out.same intE (sameOn_below hb iv_lt)).iv intE (Nat.le_refl _) hb.size)).mono fun _ _ ⟨a, b⟩ => ⟨a, b.symm⟩
      cases hbad : ws.any badW with
      | true =>
        have HB := hid hbad; clear hbad
        go_enter Try.func17, Try.ntmps17
        go_wp2_with (first
          | (go_at_call 36; refine HC.out.mono ?_; rintro e w1 ⟨g, rfl, hg, hb1⟩; obtain ⟨hb, l, bp, k, nxt, rch, pf, AP, cP, HG⟩ := made_go hb1 hg; have p1 := HG.out.gat.nn; have p0 := HG.out.gat.links)
          | (go_at_call 41; refine (HCF.out _ hb).mono ?_; rintro e w2 ⟨rfl, rfl⟩; rw [HB.out]))
        refine bodyPost_ret (results_tmp3 rfl _ _ _) rfl ?_
        rw [heavyL_range HG0.out HMW.out HB.out]
        exact ⟨_, rfl, Sl.nil_ _ _, hb⟩
      | false =>
        have HWOK := hid (wok_of hbad)
        have HB := hid hbad; clear hbad
        obtain ⟨k, hk⟩ : ∃ k, (order E mw).length = k := ⟨_, rfl⟩
        have hkn : k ≤ mw := by have h2 := order_le E mw; omega
        have hmk := fun wz => run_mk (P := Try.prog) (bytes := 8) (z := .int .i64 0) Try.underlying25 (by kernel_rfl) k (by omega) (by omega) wz
        rw [made1 _ rfl] at hmk
        have hmk2 := fun wz => run_mk (P := Try.prog) (bytes := 24) (z := .slice none 0 0) Try.underlying52 (by kernel_rfl) k (by omega) (by omega) wz
        rw [made1 _ rfl] at hmk2
        have HK := hid hk; clear hk
        go_enter Try.func17, Try.ntmps17
        go_upto_region 9 with (first
          | (go_at_call 36; refine HC.out.mono ?_; rintro e w1 ⟨g, rfl, hg, hb1⟩; obtain ⟨hb, l, bp, k', nxt, rch, pf, AP, cP, HG⟩ := made_go hb1 hg; obtain rfl : k = k' := HK.out.symm.trans HG.out.hk; have p1 := HG.out.gat.nn; have p0 := HG.out.gat.links; have p2 := HG.out.pc)
          | (go_at_call 41; refine (HCF.out _ hb).mono ?_; rintro e w2 ⟨rfl, rfl⟩; rw [HB.out]))
        go_cut [10, 11] (fun so sb wx => ∃ bo bb, so = .slice (some ⟨bo, 0, none⟩) k k ∧ sb = .slice (some ⟨bb, 0, none⟩) k k ∧ Blk wx bo 3 (IC k fun _ => 0) ∧ Blk wx bb 3 (IC k fun _ => 0) ∧ bo ≠ bb ∧ w1.heap.size ≤ bo ∧ w1.heap.size ≤ bb ∧ Below w1.heap.size w1 wx)
        case first =>
          go_region
          all_goals
            go_wp2_with fail
            go_meet
            case rel =>
              obtain ⟨t1, t2⟩ := two_tables w1 k
              first
                | exact ⟨_, _, rfl, rfl, t1, t2, by omega, by omega, by omega, (((Below.refl _ _).alloc (Nat.le_refl _) _).alloc (by simp) _).drew⟩
                | exact ⟨_, _, rfl, rfl, t2, t1, by omega, by omega, by omega, (((Below.refl _ _).alloc (Nat.le_refl _) _).alloc (by simp) _).drew⟩
        case rest =>
          obtain ⟨bo, bb, rfl, rfl, hbo, hbbk, hobb, hlo, hlb, hbwc⟩ := hcut
          have hgl := HG.out.gat.sg.2
          have hkc := HG.out.kc
          have hH : HInv k w1 (wc.alloc (.cells (Array.replicate k (.slice none 0 0)) 25)) bo bb wc.heap.size (ownQ E mw ws k 0) (bcUp E mw ws k 0) := by
            refine ⟨?_, (hbbk.alloc _), ⟨_, Blk.new _ _ _, by simp, fun x hx => ⟨_, by rw [Array.getElem?_replicate, if_pos hx], Sl.nil_ _ _⟩⟩, ⟨hobb, hbo.lt, hbbk.lt⟩, ⟨hlo, hlb⟩, hbwc.alloc hbwc.size _⟩
            rw [IC_congr (g := fun _ => 0) fun x hx => by unfold ownQ; rw [if_neg (by omega)]]
            exact hbo.alloc _
          have HH := hid hH; clear hH
          have hbol := hbo.lt
          have hbbl := hbbk.lt
          have HBO := hid hbo; clear hbo
          have HBB := hid hbbk; clear hbbk
          go_wp2
          go_loopw [13] (fun i wr => ∃ q : Nat, q ≤ k ∧ i = .int .i64 ((k : Int) - 1 - q) ∧ Hid (HInv k w1 wr bo bb wc.heap.size (ownQ E mw ws k q) (bcUp E mw ws k q))) (fun i _ => ((intOf i) + 1).toNat)
          case atStart => exact ⟨0, Nat.zero_le _, by go_num, HH⟩
          case round =>
            clear HH HBO HBB hmk hmk2
            obtain ⟨q, hq, rfl, HH⟩ := hrel
            by_cases hlt : q < k
            · obtain ⟨x, hx⟩ : ∃ x, k - 1 - q = x := ⟨_, rfl⟩
              have hxi : (k : Int) - 1 - q = x := by omega
              rw [hxi]
              have HXI := hid hxi; clear hxi
              have HX := hid hx
              have hxk : x < k := by omega
              have hbw := HH.out.below
              have d2 := (hbw.cell (p := ⟨g, 2, none⟩) hgl).trans p2
              obtain ⟨ad, hd, A1, m1, c1, rfl, had, ho1, hh1, hd1, hc1, hm1, hmc1, hat1⟩ := HG.out.at_ hxk
              have d3 := (hbw.cell (p := ad.add x) (by rw [block_add]; exact had.2)).trans hc1
              have hm64 : m1 ≤ 64 := by have := comp_length_le E mw hd; omega
              have hl1 : (compI E mw hd).length = m1 := by rw [compI_length]; exact hm1
              have hown : ownTo ws (comp E mw hd) m1 = ownK E mw ws x := by rw [ownK, ho1, ← hm1]; rfl
              have HAT := hid hat1; clear hat1
              have HL1 := hid hl1; clear hl1
              have HM1 := hid hm1; clear hm1
              have HOWN := hid hown; clear hown
              clear ho1 hc1
              go_wp2
              go_loopw [65] (fun i wi => ∃ r : Nat, r ≤ m1 ∧ i = .int .i64 r ∧ Hid (HInv k w1 wi bo bb wc.heap.size (updI (ownQ E mw ws k q) x (ownTo ws (comp E mw hd) r)) (bcUp E mw ws k q))) (fun i _ => m1 - (intOf i).toNat)
              case atStart => exact ⟨0, Nat.zero_le _, rfl, by rw [ownTo, ownQ_low HX.out hlt]; exact HH⟩
              case round =>
                clear HH hbw d2 d3
                obtain ⟨r, hr, rfl, HI⟩ := hrel
                have hbw := HI.out.below
                by_cases hlt2 : r < m1
                · obtain ⟨adx, yv, rfl, hax, hy, hyc⟩ := HAT.out.at_ HL1.out hlt2
                  rw [IntE, Nat.mul_one] at hyc
                  obtain ⟨yy, rfl, hyq, hyn, _⟩ := compI_get hy
                  have e1 := (hbw.cell (p := adx.add r) (by rw [block_add]; exact hax.2)).trans hyc
                  obtain ⟨adw, z, rfl, haw, hz, hzc⟩ := HATW.out.at_ HMW.out hyn
                  rw [IntE, Nat.mul_one] at hzc
                  have e2 := ((hb.trans (hbw.mono hb.size)).cell (p := adw.add yy) (by rw [block_add]; exact haw.2)).trans hzc
                  have e3 := HI.out.own_at hxk
                  rw [show updI (ownQ E mw ws k q) x (ownTo ws (comp E mw hd) r) x = ownTo ws (comp E mw hd) r by simp [updI]] at e3
                  have e4 := HI.out.own_fz x
                  have hsucc : ownTo ws (comp E mw hd) (r + 1) = max (ownTo ws (comp E mw hd) r) z := by rw [ownTo, hyq, wt]; simp [hz]
                  have HS := hid hsucc; clear hsucc
                  have HYQ := hid hyq; clear hyq
                  have HZ := hid hz; clear hz
                  clear hy hyc hzc
                  go_wp2
                  go_region
                  go_wp2
                  go_roundw
                  case rel =>
                    refine ⟨r + 1, hlt2, rfl, ?_⟩
                    have h := (HI.out.setOwn hxk (if ownTo ws (comp E mw hd) r < z then z else ownTo ws (comp E mw hd) r)).drew
                    rw [updI_updI] at h
                    rw [show ownTo ws (comp E mw hd) (r + 1) = (if ownTo ws (comp E mw hd) r < z then z else ownTo ws (comp E mw hd) r) by rw [HS.out]; split <;> omega]
                    exact h
                  case measure => simp [intOf]; omega
                · obtain rfl : r = m1 := by omega
                  rw [HOWN.out, ownQ_succ HX.out hlt] at HI
                  have HA := hid (HI.out.later (w2 := wr.alloc (.cells #[.int .i64 x] 3)) ((Below.refl _ _).alloc (Nat.le_refl _) _))
                  have e3 := HI.out.own_at hxk
                  rw [show ownQ E mw ws k (q + 1) x = ownK E mw ws x by unfold ownQ; rw [if_pos (by omega)]] at e3
                  have e3' := cell_al e3
                  have e4 := HA.out.best_at hxk
                  have e5 := HA.out.best_fz x
                  obtain ⟨Ac, cc, e6, _⟩ := HA.out.chain_at hxk
                  have e7 := HA.out.chain_fz x
                  have hbbc : bb ≠ wc.heap.size := by have := HI.out.ne; omega
                  have e6' : ((wr.alloc (.cells #[.int .i64 x] 3)).setCell ⟨bb, x, none⟩ (.int .i64 (ownK E mw ws x))).cell? ⟨wc.heap.size, x, none⟩ = some (.slice Ac (bcUp E mw ws k q x).2.length cc) := (World.cell?_setCell_other _ ⟨bb, x, none⟩ ⟨wc.heap.size, x, none⟩ _ (fun e => hbbc (congrArg Addr.block e))).trans e6
                  have hone : Ints (wr.alloc (.cells #[.int .i64 x] 3)) (Iv (wc.heap.size + 1) (wr.alloc (.cells #[.int .i64 x] 3)).heap.size) (.slice (some ⟨wr.heap.size, 0, none⟩) 1 1) (castL [x]) := by
                    have := HI.out.bcLt
                    refine ⟨_, 1, rfl, Nat.le_refl _, by omega, fun _ => ⟨_, rfl, ⟨by show _ ≤ wr.heap.size; omega, by simp⟩, fun j y hj => ?_⟩⟩
                    cases j with
                    | zero =>
                      simp [castL] at hj
                      subst hj
                      rw [IntE, Nat.mul_one, show (⟨wr.heap.size, 0, none⟩ : Addr).add 0 = ⟨wr.heap.size, 0, none⟩ by simp [Addr.add], World.cell?_alloc_new]; rfl
                    | succ j => simp [castL] at hj
                  have hP := HA.out.put hxk (ownK E mw ws x) [x] _ hone
                  rw [← bcIn_low (ws := ws) (E := E) (n := mw) (f := bcUp E mw ws k q) x (x + 1) (Nat.le_refl _)] at hP
                  have HP := hid hP; clear hP
                  have HNE := hid hbbc; clear hbbc hone
                  have HQ1 : Hid (ownQ E mw ws k (q + 1) x = ownK E mw ws x) := by unfold ownQ; rw [if_pos (by omega)]; exact rfl
                  have HKI := hid (ownK_in HWOK.out E mw x)
                  have HBI := hid (bcUp_in HWOK.out E mw k q)
                  have HBL := hid (bcUp_len (ws := ws) E mw k q)
                  have HBN := hid (bcUp_ne (ws := ws) E mw k q)
                  have hq64 : q < 64 := by omega
                  go_wp2
                  clear e3 e3' e4 e5 e6 e6' e7
                  go_loopw [16] (fun i wi => ∃ t : Nat, x + 1 ≤ t ∧ t ≤ k ∧ i = .int .i64 t ∧ Hid (HInv k w1 wi bo bb wc.heap.size (ownQ E mw ws k (q + 1)) (updB (bcUp E mw ws k q) x (bcIn E mw ws (bcUp E mw ws k q) x t)))) (fun i _ => k - (intOf i).toNat)
                  case atStart => exact ⟨x + 1, Nat.le_refl _, hxk, by go_num, HP⟩
                  case round =>
                    clear HP HA HI hbw
                    obtain ⟨t, htx, htk, rfl, HI⟩ := hrel
                    by_cases hlt3 : t < k
                    · have hbw := HI.out.below
                      have HGw := hid (HG.out.same (sameOn_below hbw iv_lt))
                      have HCALL := hid (edge43 HGw.out hn64 x t hxk hlt3)
                      have e3 := HI.out.own_at hxk
                      rw [HQ1.out] at e3
                      have e4 := HI.out.best_at hlt3
                      rw [show (updB (bcUp E mw ws k q) x (bcIn E mw ws (bcUp E mw ws k q) x t) t) = bcUp E mw ws k q t by unfold updB; rw [if_neg (by omega)]] at e4
                      have e5 := HI.out.best_at hxk
                      rw [show (updB (bcUp E mw ws k q) x (bcIn E mw ws (bcUp E mw ws k q) x t) x) = bcIn E mw ws (bcUp E mw ws k q) x t by unfold updB; rw [if_pos rfl]] at e5
                      obtain ⟨b1, b2⟩ := HKI.out
                      obtain ⟨b3, b4⟩ := HBI.out t
                      have b5 : (bcUp E mw ws k q t).1 ≤ 64000 := by omega
                      by_cases hc : edgeK E mw x t = true ∧ ownK E mw ws x + (bcUp E mw ws k q t).1 > (bcIn E mw ws (bcUp E mw ws k q) x t).1
                      · obtain ⟨he, hgt⟩ := hc
                        have hyes := bcIn_yes (by omega) he hgt
                        have HYES := hid hyes; clear hyes
                        have HE := hid he; clear he b4
                        obtain ⟨Ac, cc, e6, hch⟩ := HI.out.chain_at hlt3
                        rw [show (updB (bcUp E mw ws k q) x (bcIn E mw ws (bcUp E mw ws k q) x t) t) = bcUp E mw ws k q t by unfold updB; rw [if_neg (by omega)]] at e6 hch
                        have e6' := cell_al e6
                        have HCH := hid hch; clear hch
                        go_upto_region 23 with (fail)
                        go_region
                        go_upto_region 25 with (go_at_call 43; refine (edge43 (HGw.out.same (w' := wr.drew) fun _ _ => rfl) hn64 x t hxk hlt3).mono ?_; rintro e w' ⟨rfl, rfl⟩; rw [HE.out])
                        have hbn := HBN.out t (by omega) hlt3
                        have hbl := HBL.out t
                        have HJ := hid (joined44 _ [[(x : Int)], castL (bcUp E mw ws k q t).2] (twoW wr x (.slice Ac (bcUp E mw ws k q t).2.length cc)) (two_lists HCH.out)
                          (by
                            intro l' hl'
                            simp at hl'
                            rcases hl' with rfl | rfl
                            · simp
                            · intro h0
                              have := congrArg List.length h0
                              simp [castL] at this
                              rw [this] at hbn
                              simp at hbn)
                          (by simp [castL]; omega))
                        clear hbn hbl
                        go_wp2_with (go_at_call 44; refine HJ.out.mono ?_; rintro e w5 ⟨v5, rfl, hg5, hb5⟩; have HI5 := hid ((HI.out.later (two_below wr x (.slice Ac (bcUp E mw ws k q t).2.length cc))).later hb5); obtain ⟨A5, c5, rfl, hA5, hc5⟩ := own_form hg5.1; have f4 := HI5.out.best_at hxk; have f5 := HI5.out.best_fz x; obtain ⟨Ax, cx, f6, _⟩ := HI5.out.chain_at hxk; have f7 := HI5.out.chain_fz x)
                        go_roundw
                        case rel =>
                          refine ⟨t + 1, by omega, hlt3, rfl, ?_⟩
                          have hI := hg5.ints (A := wc.heap.size + 1) (Nat.le_trans HI.out.bcLt (two_below wr x (.slice Ac (bcUp E mw ws k q t).2.length cc)).size)
                          have hP := HI5.out.put hxk (ownK E mw ws x + (bcUp E mw ws k q t).1) (x :: (bcUp E mw ws k q t).2) _ (show Ints w5 _ _ (castL (x :: (bcUp E mw ws k q t).2)) by simpa [castL] using hI)
                          rw [updB_updB] at hP
                          rw [HYES.out]
                          simpa [castL] using hid hP
                        case measure => simp [intOf]; omega
                      · have hno := bcIn_no hc
                        have HNO := hid hno; clear hno
                        cases he : edgeK E mw x t with
                        | false =>
                          have HE := hid he; clear he hc b4
                          go_upto_region 23 with (fail)
                          go_region
                          clear e3 e4 e5
                          go_wp2_with (go_at_call 43; refine (edge43 (HGw.out.same (w' := wr.drew) fun _ _ => rfl) hn64 x t hxk hlt3).mono ?_; rintro e w' ⟨rfl, rfl⟩; rw [HE.out])
                          go_roundw
                          case rel => exact ⟨t + 1, by omega, hlt3, by go_num, by rw [HNO.out]; exact HI.out.drew⟩
                          case measure => simp [intOf]; omega
                        | true =>
                          have hle : ¬ (ownK E mw ws x + (bcUp E mw ws k q t).1 > (bcIn E mw ws (bcUp E mw ws k q) x t).1) := fun h => hc ⟨he, h⟩
                          have HE := hid he; clear he hc b4
                          have HGz := HGw
                          go_upto_region 23 with (fail)
                          go_region
                          go_wp2_with (go_at_call 43; refine (edge43 (HGw.out.same (w' := wr.drew) fun _ _ => rfl) hn64 x t hxk hlt3).mono ?_; rintro e w' ⟨rfl, rfl⟩; rw [HE.out])
                          go_roundw
                          case rel => exact ⟨t + 1, by omega, hlt3, by go_num, by rw [HNO.out]; exact HI.out.drew⟩
                          case measure => simp [intOf]; omega
                    · obtain rfl : k = t := by omega
                      go_wp2
                      go_roundw
                      case rel =>
                        refine ⟨q + 1, hlt, by go_num, ?_⟩
                        have h := HI
                        rw [← HX.out] at h
                        exact h
                      case measure => simp [intOf]
            · obtain rfl : k = q := by omega
              generalize hf : bcUp E mw ws k k = f at HH
              have HF := hid hf; clear hf
              go_wp2
              obtain ⟨wo, rfl⟩ : ∃ wo : World, wo = wr := ⟨_, rfl⟩
              go_loopw [18, 138] (fun a i wi => ∃ r j : Nat, r ≤ k ∧ i = .int .i64 r ∧ a = .int .i64 (atF f r) ∧ wi = wo.drewN j) (fun _ i _ => k - (intOf i).toNat)
              case atStart => exact ⟨0, 0, Nat.zero_le _, rfl, rfl, rfl⟩
              case round =>
                obtain ⟨r, j, hr, rfl, rfl, rfl⟩ := hrel
                by_cases hlt2 : r < k
                · have e1 := HH.out.best_at hlt2
                  obtain ⟨al, ag⟩ := atF_ge f r
                  have au := atF_lt f r
                  clear ag
                  by_cases hneg : atF f r < 0
                  · have hs : atF f (r + 1) = r := by rw [atF, if_pos (.inl hneg)]
                    have HS := hid hs; clear hs
                    generalize atF f r = at_ at *
                    go_upto_region 30 with (fail)
                    go_quiet (fail)
                    go_wp2
                    go_roundw
                    case rel => exact ⟨r + 1, j + nq, hlt2, by go_num, by rw [HS.out], rfl⟩
                    case measure => simp [intOf]; omega
                  · have hs : atF f (r + 1) = if (f r).1 > (f (atF f r).toNat).1 then (r : Int) else atF f r := by
                      rw [atF]
                      by_cases hc : (f r).1 > (f (atF f r).toNat).1
                      · rw [if_pos (.inr hc), if_pos hc]
                      · rw [if_neg (fun h => h.elim hneg hc), if_neg hc]
                    have e2 := HH.out.best_at (i := (atF f r).toNat) (by omega)
                    have ha0 : 0 ≤ atF f r := by omega
                    have hak : atF f r < k := by omega
                    by_cases hc : (f r).1 > (f (atF f r).toNat).1
                    · rw [if_pos hc] at hs
                      have HS := hid hs; clear hs
                      generalize atF f r = at_ at *
                      go_upto_region 30 with (fail)
                      go_quiet (fail)
                      go_wp2
                      go_roundw
                      case rel => exact ⟨r + 1, j + nq, hlt2, by go_num, by rw [HS.out], rfl⟩
                      case measure => simp [intOf]; omega
                    · rw [if_neg hc] at hs
                      have HS := hid hs; clear hs
                      generalize atF f r = at_ at *
                      go_upto_region 30 with (fail)
                      go_quiet (fail)
                      go_wp2
                      go_roundw
                      case rel => exact ⟨r + 1, j + nq, hlt2, by go_num, by rw [HS.out], rfl⟩
                      case measure => simp [intOf]; omega
                · obtain rfl : k = r := by omega
                  have hbw := HH.out.below
                  by_cases hneg : atF f k < 0
                  · have hres := heavyN_of HK.out HF.out
                    rw [if_pos hneg] at hres
                    have HR := hid hres; clear hres
                    generalize atF f k = at_ at *
                    go_wp2
                    refine bodyPost_ret (results_tmp3 rfl _ _ _) rfl ?_
                    rw [heavyL_ok HG0.out HMW.out HB.out, HR.out]
                    exact ⟨_, rfl, Sl.nil_ _ _, below_drewN (hb.trans (hbw.mono hb.size)) _⟩
                  · have hres := heavyN_of HK.out HF.out
                    rw [if_neg hneg] at hres
                    have HR := hid hres; clear hres
                    have au := atF_lt f k
                    have e2 := HH.out.best_at (i := (atF f k).toNat) (by omega)
                    obtain ⟨Ac, cc, e3, hch⟩ := HH.out.chain_at (i := (atF f k).toNat) (by omega)
                    have HCH := hid hch; clear hch
                    have ha0 : 0 ≤ atF f k := by omega
                    have HLT := HH.out.bcLt
                    generalize atF f k = at_ at *
                    go_upto_region 35 with (fail)
                    go_quiet (fail)
                    go_wp2
                    refine bodyPost_ret (results_tmp3 rfl _ _ _) rfl ?_
                    rw [heavyL_ok HG0.out HMW.out HB.out, HR.out]
                    have hall := below_drewN (hb.trans (hbw.mono hb.size)) (j + nq)
                    refine ⟨_, rfl, ?_, hall⟩
                    exact (HCH.out.same intE (fun _ _ => rfl)).iv intE (by have := hb.size; have := hbwc.size; omega) (Nat.le_refl _)
    · have hneb : (((mw : Int) != (n : Int)) = true) := by simp; omega
      go_enter Try.func17, Try.ntmps17
      go_wp2_with (go_at_call 36; refine HC.out.mono ?_; rintro e w1 ⟨g, rfl, hg, hb1⟩; obtain ⟨hb, l, bp, k, nxt, rch, pf, AP, cP, HG⟩ := made_go hb1 hg; have p1 := HG.out.gat.nn; have p0 := HG.out.gat.links)
      refine bodyPost_ret (results_tmp3 rfl _ _ _) rfl ?_
      rw [heavyL_form HG0.out (by rw [HMW.out]; exact hlen)]
      exact ⟨_, rfl, Sl.nil_ _ _, hb⟩
  · have HC := hid (made36_bad N v E _ hE1 hgood)
    have hne : (((checkL N E).1 != 0) = true) := by simpa using hgood
    rw [heavyL_bad hgood]
    obtain ⟨A, m, c, rfl, hm, hmc, hcc, rE⟩ := hE.open_; clear hE hm
    generalize (checkL N E).1 = er at *
    clear hgood hE1
    go_enter Try.func17, Try.ntmps17
    go_wp2_with (go_at_call 36; refine HC.out.mono ?_; rintro e w1 ⟨rfl, hb1⟩)
    refine bodyPost_ret (results_tmp3 rfl _ _ _) rfl ?_
    exact ⟨_, rfl, Sl.nil_ _ _, h1.trans (hb1.mono (by simp))⟩
end Go.Proofs.Ythehbamfjglodaa
