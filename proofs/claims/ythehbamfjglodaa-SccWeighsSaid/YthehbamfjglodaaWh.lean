/-
  Walks: Path.
-/
import Derived.Test.YthehbamfjglodaaWg
import Derived.Test.YthehbamfjglodaaMath3
namespace Go.Proofs.Ythehbamfjglodaa
open Go.RowKit

theorem partCells_congr {n : Nat} {f g : Nat → Nat} (h : ∀ i, i < n → f i = g i) : PartCells n f = PartCells n g := by
  apply Array.ext_getElem?
  intro k
  simp only [PartCells, Array.getElem?_ofFn]
  by_cases h2 : k < n
  · simp [h2, h k h2]
  · simp [h2]
theorem Grows.last {w wr : World} {v : Value} {ps : List Nat} {x : Nat} (h : Grows w wr v ((ps ++ [x]).map fun (x : Nat) => (x : Int))) :
    ∃ gb c, v = .slice (some ⟨gb, 0, none⟩) (ps.length + 1) c ∧ wr.cell? ⟨gb, ps.length, none⟩ = some (.int .i64 x) ∧ ps.length + 1 ≤ c := by
  rcases h.1.2 with ⟨rfl, h0⟩ | ⟨g, cap, cur, rfl, _, hgg, hnc, hcm, hcs, htake⟩
  · simp at h0
  · have hc := h.1.cells (g := g) rfl ps.length (.int .i64 x) (by simp)
    have e1 : (⟨g, 0, none⟩ : Addr).add ps.length = ⟨g, ps.length, none⟩ := by unfold Addr.add; split <;> simp_all
    rw [e1] at hc
    have hl : ((ps ++ [x]).map fun (x : Nat) => (x : Int)).length = ps.length + 1 := by simp
    rw [hl] at hnc ⊢
    exact ⟨g, cap, rfl, hc, hnc⟩
theorem lt_step {p : Nat → Bool} {t : Nat} (h : ∀ j, j < t → p j = false) (hp : p t = false) : ∀ j, j < t + 1 → p j = false := fun j hj => by
  by_cases e : j = t
  · rw [e]; exact hp
  · exact h j (by omega)
theorem way_some {E : EdgeL} {n tt a i d : Nat} {ps way : List Nat} (h : (ps ++ [a]) ++ wayL E n tt (d + 1) a = way) (hn : nextF E n tt a (d + 1) = some i) : ((ps ++ [a]) ++ [i]) ++ wayL E n tt d i = way := by
  rw [wayL, hn] at h
  rw [← h, List.append_assoc]; rfl
theorem way_none {E : EdgeL} {n tt a d : Nat} {ps way : List Nat} (h : (ps ++ [a]) ++ wayL E n tt (d + 1) a = way) (hn : nextF E n tt a (d + 1) = none) : (ps ++ [a]) ++ wayL E n tt d a = way := by
  rw [wayL, hn] at h
  exact h
theorem wrap_pow (y : Nat) (hy : y < 64) : IntKind.u64.wrap ((2 : Int) ^ y) = ((2 ^ y : Nat) : Int) := by
  have h2 := pow_lt y hy
  have c : ((2 ^ y : Nat) : Int) = (2 : Int) ^ y := by simp
  rw [IntKind.wrap_u64, ← c]
  generalize 2 ^ y = z at h2
  omega
theorem step_bit {E : EdgeL} {n tt d S : Nat} {nxt : Nat → Nat} (hok : Ok n E) (hr : RchRel E 0 nxt) (h : BitsOf S (setN E n tt d)) (i : Nat) :
    (bits BinOp.and IntKind.u64 (nxt i : Int) (S : Int) != 0) = setN E n tt (d + 1) i := by
  rw [u64_and_nat _ _ (hr.1 i) h.1, setN, ← and_any hok hr h]
  rw [Bool.eq_iff_iff]
  simp only [bne_iff_ne, ne_eq]
  omega
theorem goes_xy {w : World} {S : Reg} {g l n m x y : Nat} {E : EdgeL} {nxt rch : Nat → Nat} {a b : Int} (hG : GAt w S g l n nxt rch) (hr : RchRel E m rch) (ha : a = x) (hb : b = y) (hi : x < 64) (hj : y < 64) :
    Calls Try.prog 37 #[.pointer (some ⟨l, 0, none⟩), .int .i64 a, .int .i64 b] w fun e w' => e = .returned (.bool (W E m x y)) ∧ w = w' := by
  subst ha; subst hb
  exact goes_g hG hr x y hi hj

set_option maxRecDepth 100000 in
set_option maxHeartbeats 4000000 in
theorem path14 (N a b : Int) (v : Value) (E : EdgeL) (w : World) (hE : Edges w (Iv 0 w.heap.size) v E) :
    Calls Try.prog 14 #[.agg #[.int .i64 N, v], .int .i64 a, .int .i64 b] w fun e w' => ∃ u, e = .returned (.tuple #[u, .int .i64 (pathL N E a b).2]) ∧ Ints w' (Iv w.heap.size w'.heap.size) u (pathL N E a b).1 ∧ Below w.heap.size w w' := by
  obtain ⟨h1, hE1⟩ := boxE (N := N) hE
  by_cases hgood : (checkL N E).1 = 0
  · obtain ⟨h0, _, _⟩ := checkL_valid hgood
    obtain ⟨n, rfl⟩ : ∃ n : Nat, N = n := ⟨N.toNat, by omega⟩
    have hn64 := (ok_of_check hgood).1
    have HO := hid (ok_of_check hgood).2
    have HC := hid (made36_ok n v E _ hE1 hgood)
    obtain ⟨A, m, c, rfl, hm, hmc, hcc, rE⟩ := hE.open_; clear hE hm
    clear hE1 h1 h0
    by_cases ha : 0 ≤ a ∧ a < n ∧ 0 ≤ b ∧ b < n
    · obtain ⟨x, hxa⟩ : ∃ x : Nat, a = x := ⟨a.toNat, by omega⟩
      obtain ⟨y, hyb⟩ : ∃ y : Nat, b = y := ⟨b.toNat, by omega⟩
      have hx : x < n := by omega
      have hy : y < n := by omega
      obtain ⟨a0, a1, b0, b1⟩ := ha
      have HG0 := hid hgood; clear hgood
      have HXA := hid hxa; clear hxa
      have HYB := hid hyb; clear hyb
      go_enter Try.func14, Try.ntmps14
      go_upto_region 4 with (go_at_call 36; refine HC.out.mono ?_; rintro e w1 ⟨g, rfl, hg, hb1⟩; obtain ⟨hb, l, bp, k, nxt, rch, pf, AP, cP, HG⟩ := made_go hb1 hg; have p1 := HG.out.gat.nn; have p0 := HG.out.gat.links)
      go_cut [28] (fun s wx => s = .bool false ∧ w1 = wx)
      case first =>
        go_wp2_with fail
        all_goals
          go_meet
          case rel => refine ⟨?_, rfl⟩; first | (simp; done) | (simp; omega)
      case rest =>
        obtain ⟨rfl, rfl⟩ := hcut
        have hgl := HG.out.gat.sg.2
        have hmk := fun wz => run_mk (P := Try.prog) (bytes := 8) (z := .int .i64 0) Try.underlying25 (by kernel_rfl) n (by omega) (by omega) wz
        rw [made1 _ rfl] at hmk
        cases hw : W E n x y with
        | false =>
          have HW := hid hw; clear hw
          go_wp2_with (go_at_call 37; refine (goes_xy HG.out.gat HG.out.rn HXA.out HYB.out (by omega) (by omega)).mono ?_; rintro e w' ⟨rfl, rfl⟩; rw [HW.out])
          go_ret2
          rw [HXA.out, HYB.out, pathL_none (by rw [HG0.out]) hx hy HW.out]
          exact ⟨_, rfl, Sl.nil_ _ _, hb⟩
        | true =>
          have HW := hid hw; clear hw
          have hy2 : b < 64 := by omega
          go_wp2_with (go_at_call 37; refine (goes_xy HG.out.gat HG.out.rn HXA.out HYB.out (by omega) (by omega)).mono ?_; rintro e w' ⟨rfl, rfl⟩; rw [HW.out])
          go_loopw [11, 12] (fun s d wr => ∃ (D S : Nat), D ≤ n ∧ d = .int .i64 ((D : Int) + 1) ∧ s = .int .u64 (S : Nat) ∧ Hid (BitsOf S (setN E n y D)) ∧ Blk wr w1.heap.size 3 (PartCells n (farF E n y D)) ∧ Below w1.heap.size w1 wr) (fun _ d _ => n + 1 - (intOf d).toNat)
          case atStart =>
            refine ⟨0, 2 ^ y, Nat.zero_le _, rfl, ?_, bits_one (by omega) E n, ?_, (Below.refl _ _).alloc (Nat.le_refl _) _⟩
            · rw [HYB.out, Int.toNat_natCast, wrap_pow y (by omega)]
            · rw [← show Array.replicate n (Value.int .i64 0) = PartCells n (farF E n y 0) from partCells_start n]; exact Blk.new _ _ _
          case round =>
            clear hmk
            obtain ⟨D, S, hD, rfl, rfl, HS, hB, hbw⟩ := hrel
            have d1 := (hbw.cell (p := ⟨g, 1, none⟩) hgl).trans p1
            by_cases hlt : D < n
            · have HB := hid hB; clear hB
              go_wp2
              go_loopw [13, 72] (fun s i wi => ∃ (t T : Nat), t ≤ n ∧ i = .int .i64 t ∧ s = .int .u64 (T : Nat) ∧ Hid (BitsOf T (nextIn E n y (D + 1) t)) ∧ Blk wi w1.heap.size 3 (PartCells n (farIn E n y D t)) ∧ Below w1.heap.size w1 wi) (fun _ i _ => n - (intOf i).toNat)
              case atStart => exact ⟨0, 0, Nat.zero_le _, rfl, rfl, bits_zero.congr fun j => by simp [nextIn], by rw [farIn_start]; exact HB.out, hbw⟩
              case round =>
                clear hbw HB d1
                obtain ⟨t, T, ht, rfl, rfl, HT, hB, hbw⟩ := hrel
                by_cases hlt2 : t < n
                · have d0 := (hbw.cell (p := ⟨g, 0, none⟩) hgl).trans p0
                  have d2 := (hbw.cell (p := ⟨l, t, none⟩) HG.out.gat.sl.2).trans (HG.out.gat.nx t (by omega))
                  have hbb := step_bit HO.out HG.out.r0 HS.out t
                  have hc := hB.cell t
                  rw [partCells_get _ _ _ hlt2] at hc
                  have hcf := hB.frozen t
                  have HB := hid hB; clear hB
                  cases hs : setN E n y (D + 1) t with
                  | false =>
                    rw [hs] at hbb
                    have HSN := hid hs; clear hs
                    clear hc hcf
                    go_wp2
                    go_roundw
                    case rel => exact ⟨t + 1, T, hlt2, by go_num, rfl, nextIn_no HT.out HSN.out, by rw [farIn_no (by rw [HSN.out]; simp)]; exact HB.out, hbw⟩
                    case measure => simp [intOf]; omega
                  | true =>
                    rw [hs] at hbb
                    have HSN := hid hs; clear hs
                    by_cases hf : farIn E n y D t t = 0
                    · rw [hf] at hc
                      have HF := hid hf; clear hf
                      go_wp2
                      go_roundw
                      case rel =>
                        refine ⟨t + 1, T ||| 2 ^ t, hlt2, by go_num, by rw [or_bit _ _ HT.out.1 (by omega)], nextIn_yes HT.out (by omega) HSN.out, ?_, hbw.setCell (p := ⟨w1.heap.size, t, none⟩) (Nat.le_refl _) _⟩
                        have h := HB.out.set_ t (.int .i64 ((D + 1 : Nat) : Int))
                        rw [partCells_set _ _ _ _ hlt2, farIn_set HF.out HSN.out] at h
                        exact h
                      case measure => simp [intOf]; omega
                    · have hfb : (((farIn E n y D t t : Nat) : Int) == 0) = false := by simp; omega
                      have HF := hid hf; clear hf
                      go_wp2
                      go_roundw
                      case rel =>
                        exact ⟨t + 1, T ||| 2 ^ t, hlt2, by go_num, by rw [or_bit _ _ HT.out.1 (by omega)], nextIn_yes HT.out (by omega) HSN.out, by rw [farIn_no (fun h => HF.out h.1)]; exact HB.out, hbw⟩
                      case measure => simp [intOf]; omega
                · obtain rfl : n = t := by omega
                  have HB := hid hB; clear hB
                  go_wp2
                  go_roundw
                  case rel =>
                    refine ⟨D + 1, T, hlt, by go_num, rfl, nextIn_done HO.out HT.out, ?_, hbw⟩
                    rw [← partCells_congr (f := farIn E n y D n) fun i hi => by simp [farIn, hi]]
                    exact HB.out
                  case measure => simp [intOf]; omega
            · obtain rfl : n = D := by omega
              have HB := hid hB; clear hB
              obtain ⟨wo, rfl⟩ : ∃ wo : World, wo = wr := ⟨_, rfl⟩
              have hcx : ∀ o, (wo.alloc o).cell? ⟨w1.heap.size, a.toNat, none⟩ = some (.int .i64 ((farF E n y n x : Nat) : Int)) := by
                have h := HB.out.cell x
                rw [partCells_get _ _ _ hx] at h
                have e : a.toNat = x := by rw [HXA.out, Int.toNat_natCast]
                rw [e]
                exact cell_al h
              have hfl := farF_le E n y n x
              have hw1o : w1.heap.size < wo.heap.size := HB.out.lt
              go_wp2
              clear d1 hcx
              have HWAY : Hid (([] ++ [x]) ++ wayL E n y ((farF E n y n x : Int) - 1).toNat x = x :: wayL E n y (farF E n y n x - 1) x) := by
                rw [show ((farF E n y n x : Int) - 1).toNat = farF E n y n x - 1 by omega]; rfl
              generalize hway : x :: wayL E n y (farF E n y n x - 1) x = way at HWAY
              have HWY := hid hway; clear hway
              go_loopw [15, 16] (fun v i wr => ∃ (ps : List Nat) (at_ : Nat) (d : Int), -1 ≤ d ∧ d ≤ 64 ∧ i = .int .i64 d ∧ at_ < n ∧ (ps.length : Int) + d ≤ 65 ∧ Hid (Grows wo wr v ((ps ++ [at_]).map fun (x : Nat) => (x : Int))) ∧
                  Hid ((ps ++ [at_]) ++ wayL E n y d.toNat at_ = way) ∧ Below wo.heap.size wo wr) (fun _ i _ => (intOf i + 1).toNat)
              case atStart =>
                refine ⟨[], x, (farF E n y n x : Int) - 1, by omega, by omega, by go_num, hx, by simp; omega, ⟨?_, ?_⟩, HWAY, (Below.refl _ _).alloc (Nat.le_refl _) _⟩
                · rw [HXA.out]
                  refine ⟨rfl, .inr ⟨wo.heap.size, 1, _, rfl, Nat.zero_le _, heap_alloc_new wo _, by simp, by simp [maxLen], rfl, rfl⟩⟩
                · intro b' hb'; injection hb' with hb'; exact Nat.le_of_eq hb'
              case round =>
                clear hfl HWAY
                obtain ⟨ps, at_, d, hd1, hd2, rfl, hat, hlen, HGR, HWY2, hbo⟩ := hrel
                obtain ⟨gb, c5, rfl, hlast, hc5⟩ := HGR.out.last
                have hbow := hbw.trans (hbo.mono hbw.size)
                by_cases hpos : 0 < d
                · have e1 := (hbow.cell (p := ⟨g, 1, none⟩) hgl).trans p1
                  go_wp2
                  obtain ⟨w3, rfl⟩ : ∃ w3 : World, w3 = wr := ⟨_, rfl⟩
                  go_loopw [15, 124] (fun v i wi => ∃ t : Nat, v = .slice (some ⟨gb, 0, none⟩) (ps.length + 1) c5 ∧ t ≤ n ∧ i = .int .i64 t ∧ Hid (∀ j, j < t → (adj E at_ j && farF E n y n j == d.toNat) = false) ∧ w3 = wi) (fun _ i _ => n - (intOf i).toNat)
                  case atStart => exact ⟨0, rfl, Nat.zero_le _, rfl, fun j hj => absurd hj (Nat.not_lt_zero _), rfl⟩
                  case round =>
                    clear e1 hlast
                    obtain ⟨t, rfl, ht, rfl, HNO, rfl⟩ := hrel
                    by_cases hlt3 : t < n
                    · have d0 := (hbow.cell (p := ⟨g, 0, none⟩) hgl).trans p0
                      have d2 := (hbow.cell (p := ⟨l, at_, none⟩) HG.out.gat.sl.2).trans (HG.out.gat.nx at_ (by omega))
                      have hbb := edge_bit HG.out.r0 at_ t
                      have hc := (hbo.cell (p := ⟨w1.heap.size, t, none⟩) hw1o).trans (HB.out.cell t)
                      rw [partCells_get _ _ _ hlt3] at hc
                      cases hs : adj E at_ t with
                      | false =>
                        rw [hs] at hbb
                        have HSN := hid hs; clear hs
                        clear hc
                        go_wp2
                        go_roundw
                        case rel => exact ⟨t + 1, rfl, hlt3, by go_num, lt_step HNO.out (by rw [HSN.out]; rfl), trivial⟩
                        case measure => simp [intOf]; omega
                      | true =>
                        rw [hs] at hbb
                        have HSN := hid hs; clear hs
                        by_cases hf : ((farF E n y n t : Nat) : Int) = d
                        · have hfb : (((farF E n y n t : Nat) : Int) == d) = true := by simp [hf]
                          have hnf := nextF_some (E := E) (n := n) (a := at_) (d := d.toNat) hlt3 (by rw [HSN.out]; simp; omega) HNO.out
                          have hdt : d.toNat = (d - 1).toNat + 1 := by omega
                          rw [hdt] at hnf HWY2
                          have hw2 := way_some HWY2.out hnf
                          have HF := hid hf; clear hf
                          have HNF := hid hnf; clear hnf
                          have HW2 := hid hw2; clear hw2 hdt
                          have hown := HGR.out.1
                          have hol : ((ps ++ [at_]).map fun (x : Nat) => (x : Int)).length ≤ 70 := by simp; omega
                          generalize hxs : ((ps ++ [at_]).map fun (x : Nat) => (x : Int)) = xs at hown hol HGR
                          have HXS := hid hxs; clear hxs
                          go_upto_region 32 with (fail)
                          go_upto_region 26 with ((at_builtin; refine wpList_app1 tInts rfl (.tmp 149) (.tmp 151) rfl _ xs.length (xs.map (.int .i64)) rfl hown [.int .i64 (t : Int)] rfl rfl (by simp [Value.oneCell']) (by simp only [maxLen]; omega) (by omega) ?_; intro v2 w2 ho2 hg2 hb2 hs2))
                          have HS := hid (HGR.out.step hbo.size ho2 hb2)
                          have hbo2 := HGR.out.below hbo hg2
                          clear ho2 hown
                          go_wp2
                          go_roundw
                          case rel => exact ⟨ps ++ [at_], t, d - 1, by omega, by omega, by go_num, hlt3, by simp; omega, by rw [List.map_append, HXS.out]; exact HS, HW2, hbo2⟩
                          case measure => simp [intOf]; omega
                        · have hfb : (((farF E n y n t : Nat) : Int) == d) = false := by simp; omega
                          have HF := hid hf; clear hf
                          go_wp2
                          go_roundw
                          case rel => exact ⟨t + 1, rfl, hlt3, by go_num, lt_step HNO.out (by rw [HSN.out]; have h := HF.out; simp; omega), trivial⟩
                          case measure => simp [intOf]; omega
                    · obtain rfl : n = t := by omega
                      have hdt : d.toNat = (d - 1).toNat + 1 := by omega
                      have hnf := nextF_none HNO.out
                      rw [hdt] at hnf HWY2
                      have HW2 := hid (way_none HWY2.out hnf)
                      have HNF := hid hnf; clear hnf hdt
                      go_wp2
                      go_roundw
                      case rel => exact ⟨ps, at_, d - 1, by omega, by omega, by go_num, hat, by omega, HGR, HW2, hbo⟩
                      case measure => simp [intOf]; omega
                · have h0 : d.toNat = 0 := by omega
                  rw [h0] at HWY2
                  have hwy := HWY2.out
                  rw [wayL, List.append_nil] at hwy
                  have hown := HGR.out.1
                  have hol : ((ps ++ [at_]).map fun (x : Nat) => (x : Int)).length ≤ 70 := by simp; omega
                  rw [hwy] at hown hol HGR
                  have HWW := hid hwy; clear hwy h0
                  generalize hxs : (way.map fun (x : Nat) => (x : Int)) = xs at hown hol HGR
                  have HXS := hid hxs; clear hxs
                  go_wp2_with ((at_builtin; refine wpList_app1 tInts rfl (.tmp 154) (.tmp 156) rfl _ xs.length (xs.map (.int .i64)) rfl hown [.int .i64 b] rfl rfl (by simp [Value.oneCell']) (by simp only [maxLen]; omega) (by omega) ?_; intro v2 w2 ho2 hg2 hb2 hs2))
                  have hS := HGR.out.step hbo.size ho2 hb2
                  have hbo2 := HGR.out.below hbo hg2
                  go_ret2
                  rw [HXA.out, HYB.out, pathL_in (by rw [HG0.out]) hx hy HW.out]
                  refine ⟨_, rfl, ?_, hb.trans ((hbw.trans (hbo2.mono hbw.size)).mono hb.size)⟩
                  have hp : pathN E n x y = xs ++ [b] := by rw [pathN, HWY.out, List.map_append, HXS.out, HYB.out]; rfl
                  rw [hp]
                  exact hS.ints (Nat.le_trans hb.size hbw.size)
    · rw [pathL_out hgood ha]
      clear hgood
      have HA := hid ha; clear ha
      go_enter Try.func14, Try.ntmps14
      go_upto_region 4 with (go_at_call 36; refine HC.out.mono ?_; rintro e w1 ⟨g, rfl, hg, hb1⟩; obtain ⟨hb, l, bp, k, nxt, rch, pf, AP, cP, HG⟩ := made_go hb1 hg; have p1 := HG.out.gat.nn; have p0 := HG.out.gat.links)
      go_cut [28] (fun s wx => s = .bool true ∧ w1 = wx)
      case first =>
        go_wp2_with fail
        all_goals
          go_meet
          case rel => refine ⟨?_, rfl⟩; have ha := HA.out; first | (simp; done) | (simp; omega)
      case rest =>
        obtain ⟨rfl, rfl⟩ := hcut
        go_wp2
        go_ret2
        exact ⟨_, rfl, Sl.nil_ _ _, hb⟩
  · have HC := hid (made36_bad N v E _ hE1 hgood)
    have hne : (((checkL N E).1 != 0) = true) := by simpa using hgood
    rw [pathL_bad hgood]
    obtain ⟨A, m, c, rfl, hm, hmc, hcc, rE⟩ := hE.open_; clear hE hm
    generalize (checkL N E).1 = er at *
    clear hgood hE1
    go_enter Try.func14, Try.ntmps14
    go_wp2_with (go_at_call 36; refine HC.out.mono ?_; rintro e w1 ⟨rfl, hb1⟩)
    go_ret2
    exact ⟨_, rfl, Sl.nil_ _ _, h1.trans (hb1.mono (by simp))⟩
end Go.Proofs.Ythehbamfjglodaa
