/-
  Walks: Condense.
-/
import Derived.Test.YthehbamfjglodaaWf
import Derived.Laws.ResultCell
namespace Go.Proofs.Ythehbamfjglodaa
open Go.RowKit

def cellsE (l : EdgeL) : List Value := l.flatMap fun p => [.int .i64 p.1, .int .i64 p.2]
theorem cellsE_get (l : EdgeL) : ∀ (j : Nat) (p : Int × Int), l[j]? = some p → (cellsE l)[j * 2]? = some (.int .i64 p.1) ∧ (cellsE l)[j * 2 + 1]? = some (.int .i64 p.2) := by
  induction l with
  | nil => intro j p h; simp at h
  | cons x t ih =>
    intro j p h
    cases j with
    | zero =>
      simp at h
      subst h
      exact ⟨rfl, rfl⟩
    | succ j =>
      have := ih j p (by simpa using h)
      rw [show (j + 1) * 2 = j * 2 + 2 by omega]
      exact this
theorem cellsE_snoc (l : EdgeL) (p : Int × Int) : cellsE (l ++ [p]) = cellsE l ++ [.int .i64 p.1, .int .i64 p.2] := by simp [cellsE]
theorem cellsE_one (l : EdgeL) : ∀ u ∈ cellsE l, u.oneCell' = true := by
  intro u hu
  obtain ⟨p, _, hp⟩ := List.mem_flatMap.1 hu
  simp at hp
  rcases hp with rfl | rfl <;> rfl
/-- A list of edges that is being appended to. -/
def GrowsE (B : Nat) (wr : World) (v : Value) (xs : EdgeL) : Prop := Own wr 56 2 v xs.length (cellsE xs) ∧ (∀ b, v.ownBlock = some b → B ≤ b)
theorem GrowsE.nil (B : Nat) (w : World) : GrowsE B w (.slice none 0 0) [] := ⟨World.ownsRow_nil _ _ _ _, fun b hb => (by simp [Value.ownBlock] at hb)⟩
theorem GrowsE.step {B : Nat} {wr w2 : World} {v v2 : Value} {xs : EdgeL} {p : Int × Int} (h : GrowsE B wr v xs) (hw : B ≤ wr.heap.size + 1) (ho : Own w2 56 2 v2 (xs.length + 1) (cellsE xs ++ [.int .i64 p.1, .int .i64 p.2]))
    (hb : v2.ownBlock = v.ownBlock ∨ v2.ownBlock = some (wr.heap.size + 1)) : GrowsE B w2 v2 (xs ++ [p]) := by
  refine ⟨by rw [cellsE_snoc, List.length_append]; exact ho, fun b hv => ?_⟩
  rcases hb with e | e
  · exact h.2 b (e.symm.trans hv)
  · rw [e] at hv; injection hv with hv; omega
theorem GrowsE.far {B : Nat} {w : World} {v : Value} {xs : EdgeL} (h : GrowsE B w v xs) {p : Addr} (hp : p.block < B) (u : Value) : GrowsE B (w.setCell p u) v xs :=
  ⟨own_keep h.1 fun b hv => Below.heap_setCell _ _ _ _ (by have := h.2 b hv; omega), h.2⟩
theorem own_edges {w : World} {v : Value} {n : Nat} {xs : EdgeL} {S : Reg} (h : Own w 56 2 v n (cellsE xs)) (hS : ∀ b, v.ownBlock = some b → S b) (hn : n = xs.length) : Edges w S v xs := by
  subst hn
  rcases h.2 with ⟨rfl, h0⟩ | ⟨g, cap, cur, rfl, _, hgg, hnc, hcm, hcs, htake⟩
  · have : xs = [] := List.eq_nil_of_length_eq_zero h0
    subst this
    exact Sl.nil_ w S
  · refine ⟨_, cap, rfl, hnc, by simpa [maxLen] using hcm, fun hp => ⟨_, rfl, hS g rfl, fun j x hx => ?_⟩⟩
    obtain ⟨h1, h2⟩ := cellsE_get xs j x hx
    have a1 := h.cells (g := g) rfl (j * 2) _ h1
    have a2 := h.cells (g := g) rfl (j * 2 + 1) _ h2
    have e1 : (⟨g, 0, none⟩ : Addr).add (j * 2) = ⟨g, j * 2, none⟩ := by unfold Addr.add; split <;> simp_all
    have e2 : (⟨g, 0, none⟩ : Addr).add (j * 2 + 1) = ⟨g, j * 2 + 1, none⟩ := by unfold Addr.add; split <;> simp_all
    rw [e1] at a1 ⊢
    rw [e2] at a2
    exact ⟨a1, a2⟩
theorem GrowsE.edges {B A : Nat} {w : World} {v : Value} {xs : EdgeL} (h : GrowsE B w v xs) (hA : A ≤ B) : Edges w (Iv A w.heap.size) v xs :=
  own_edges h.1 (fun b hv => ⟨by have := h.2 b hv; omega, own_lt h.1 hv⟩) rfl

/-- The graph behind a call of 'made' in any world, for good. -/
theorem made_at {E : EdgeL} {n g : Nat} {w0 w1 : World} (hg : GRep E n w1 (Iv w0.heap.size w1.heap.size) g) :
    ∃ l bp k nxt rch pf AP cP, Hid (GO E n w1 (Iv w0.heap.size w1.heap.size) g l bp k nxt rch pf AP cP) := hg.open_

set_option maxRecDepth 100000 in
set_option maxHeartbeats 400000 in
theorem condense25 (N : Int) (v : Value) (E : EdgeL) (w : World) (hE : Edges w (Iv 0 w.heap.size) v E) :
    Calls Try.prog 25 #[.agg #[.int .i64 N, v]] w fun e w' => ∃ u, e = .returned (.tuple #[.agg #[.int .i64 (condL N E).1, u], .int .i64 (checkL N E).1]) ∧ Edges w' (Iv w.heap.size w'.heap.size) u (condL N E).2 ∧ Below w.heap.size w w' := by
  have h1 : Below w.heap.size w ((w.alloc (.cells #[.int .i64 N, v] 24)).alloc (.cells #[.int .i64 0, .slice none 0 0] 24)) := ((Below.refl _ _).alloc (Nat.le_refl _) _).alloc (by simp) _
  have hE1 : Edges ((w.alloc (.cells #[.int .i64 N, v] 24)).alloc (.cells #[.int .i64 0, .slice none 0 0] 24)) (Iv 0 ((w.alloc (.cells #[.int .i64 N, v] 24)).alloc (.cells #[.int .i64 0, .slice none 0 0] 24)).heap.size) v E :=
    (hE.same edgeE (sameOn_below h1 iv_lt)).iv edgeE (Nat.le_refl _) (by simp; omega)
  by_cases hgood : (checkL N E).1 = 0
  · obtain ⟨h0, _, _⟩ := checkL_valid hgood
    obtain ⟨n, rfl⟩ : ∃ n : Nat, N = n := ⟨N.toNat, by omega⟩
    have hn64 := (ok_of_check hgood).1
    have HC := hid (made36_ok n v E _ hE1 hgood)
    have HP := hid (condL_ok hgood)
    rw [hgood]
    clear hgood hE1 h0
    obtain ⟨A, m, c, rfl, hm, hmc, hcc, rE⟩ := hE.open_; clear hE hm
    obtain ⟨k, hk⟩ : ∃ k, (order E n).length = k := ⟨_, rfl⟩
    have hkn : k ≤ n := by have h2 := order_le E n; omega
    rw [hk] at HP
    have HK := hid hk; clear hk
    have H1 := hid h1; clear h1
    go_enter Try.func25, Try.ntmps25
    go_wp2_with (go_at_call 36; refine HC.out.mono ?_; rintro e w1 ⟨g, rfl, hg, hb1⟩; obtain ⟨l, bp, k', nxt, rch, pf, AP, cP, HG⟩ := made_at hg; obtain rfl : k = k' := HK.out.symm.trans HG.out.hk; have p2 := HG.out.pc; have p2' := cell_al HG.out.pc)
    have hgl := HG.out.gat.sg.2
    have hkc := HG.out.kc
    have hs1 : w.heap.size + 1 < w1.heap.size := by have := hb1.size; simp at this; omega
    have HBK := hid (Blk.below (blk_new (w := w.alloc (.cells #[.int .i64 n, .slice A m c] 24)) (g := w.heap.size + 1) (t := 24) (cs := #[.int .i64 0, .slice none 0 0]) (by simp)) hb1 (by simp))
    have hbw1 := H1.out.trans (hb1.mono (by simp; omega))
    have HBW1 := hid hbw1; clear hbw1
    go_loopw [29] (fun i wr => ∃ (q : Nat) (vL : Value), q ≤ k ∧ i = .int .i64 q ∧ Blk wr w1.heap.size 24 #[.int .i64 k, vL] ∧ Hid (GrowsE (w1.heap.size + 1) wr vL (condTo E n k q)) ∧ Below w1.heap.size w1 wr) (fun i _ => k - (intOf i).toNat)
    case atStart => exact ⟨0, _, Nat.zero_le _, rfl, Blk.new _ _ _, GrowsE.nil _ _, (Below.refl _ _).alloc (Nat.le_refl _) _⟩
    case round =>
      obtain ⟨q, vL, hq, rfl, hB, HR, hbw⟩ := hrel
      obtain ⟨AL, cL, rfl, hAL, hcL⟩ := own_form HR.out.1
      have d2 := (hbw.cell (p := ⟨g, 2, none⟩) hgl).trans p2
      by_cases hlt : q < k
      · have HB := hid hB; clear hB
        go_wp2
        go_loopw [37] (fun i wi => ∃ (t : Nat) (vL : Value), t ≤ k ∧ i = .int .i64 t ∧ Blk wi w1.heap.size 24 #[.int .i64 k, vL] ∧ Hid (GrowsE (w1.heap.size + 1) wi vL (condTo E n k q ++ condI E n q t)) ∧ Below w1.heap.size w1 wi) (fun i _ => k - (intOf i).toNat)
        case atStart => exact ⟨0, _, Nat.zero_le _, rfl, HB.out, by simpa [condI] using HR, hbw⟩
        case round =>
          clear hbw HB HR d2 hAL hcL
          obtain ⟨t, vL, ht, rfl, hB, HR, hbw⟩ := hrel
          obtain ⟨AL, cL, rfl, hAL, hcL⟩ := own_form HR.out.1
          by_cases hlt2 : t < k
          · have hcs := condI_succ E n q t
            have HGw := hid (HG.out.same (sameOn_below hbw iv_lt))
            have HCALL := hid (edge43 HGw.out hn64 q t hlt hlt2)
            have hc1 := hB.cell 1
            have hcf := hB.frozen 1
            have HB := hid hB; clear hB
            by_cases hqt : q = t
            · subst hqt
              have hne : (((q : Int) != (q : Int)) = false) := by simp
              rw [show (q != q && edgeK E n q q) = false by simp] at hcs
              have HCS := hid hcs; clear hcs
              clear hc1 hcf
              go_wp2
              go_roundw
              case rel => exact ⟨q + 1, _, hlt2, by go_num, HB.out, by rw [HCS.out]; simpa using HR, hbw⟩
              case measure => simp [intOf]; omega
            · have hne : (((q : Int) != (t : Int)) = true) := by simp; omega
              rw [show (q != t && edgeK E n q t) = edgeK E n q t by simp [hqt]] at hcs
              have HQT := hid hqt; clear hqt
              cases he : edgeK E n q t with
              | false =>
                rw [he] at hcs
                have HE := hid he; clear he
                have HCS := hid hcs; clear hcs
                clear hc1 hcf
                go_wp2_with (go_at_call 43; refine HCALL.out.mono ?_; rintro e w' ⟨rfl, rfl⟩; rw [HE.out])
                go_roundw
                case rel => exact ⟨t + 1, _, hlt2, by go_num, HB.out, by rw [HCS.out]; simpa using HR, hbw⟩
                case measure => simp [intOf]; omega
              | true =>
                rw [he] at hcs
                have HE := hid he; clear he
                have HCS := hid hcs; clear hcs
                have hlen : (condTo E n k q ++ condI E n q t).length ≤ 4200 := by
                  have a1 := condTo_le E n k q
                  have a2 := condI_le E n q t
                  have a3 : q * k ≤ 64 * 64 := Nat.mul_le_mul (by omega) (by omega)
                  rw [List.length_append]; omega
                have hown := HR.out.1
                generalize hX : condTo E n k q ++ condI E n q t = X at *
                have HX := hid hX; clear hX
                go_upto_region 12 with (go_at_call 43; refine HCALL.out.mono ?_; rintro e w' ⟨rfl, rfl⟩; rw [HE.out])
                go_upto_region 13 with ((at_builtin; refine wpList_app1 tEdges rfl (.tmp 50) (.tmp 54) rfl _ X.length (cellsE X) rfl hown [.int .i64 (q : Int), .int .i64 (t : Int)] rfl rfl (by simp [Value.oneCell']) (by simp only [maxLen]; omega) (by omega) ?_; intro v2 w2 ho2 hg2 hb2 hs2; obtain ⟨A5, c5, rfl, hA5, hc5⟩ := own_form ho2; have hB2 := grown_far HB.out hg2 (fun b hv => by have := HR.out.2 b hv; omega); have hc2 := hB2.cell 1; have hcf2 := hB2.frozen 1))
                have HS := hid ((HR.out.step (p := ((q : Int), (t : Int))) (by have := hbw.size; omega) ho2 hb2).far (p := ⟨w1.heap.size, 1, none⟩) (Nat.lt_succ_self _) (.slice A5 (X.length + 1) c5))
                have hB3 := hB2.set_ 1 (.slice A5 (X.length + 1) c5)
                have hbw2 := (hbw.grown hg2 hbw.size (fun b hv => by have := HR.out.2 b hv; omega)).setCell (p := ⟨w1.heap.size, 1, none⟩) (Nat.le_refl _) (.slice A5 (X.length + 1) c5)
                have HB3 := hid hB3; clear hB3 hB2 ho2 hown
                go_wp2
                go_roundw
                case rel => exact ⟨t + 1, _, hlt2, by go_num, HB3.out, by rw [HCS.out, if_pos trivial, ← List.append_assoc, HX.out]; exact HS, hbw2⟩
                case measure => simp [intOf]; omega
          · obtain rfl : t = k := by omega
            have HB := hid hB; clear hB
            go_wp2
            go_roundw
            case rel => exact ⟨q + 1, _, hlt, by go_num, HB.out, by rw [condTo_succ]; exact HR, hbw⟩
            case measure => simp [intOf]; omega
      · obtain rfl : q = k := by omega
        have hc0 := hB.cell 0
        have hc1 := hB.cell 1
        have hBK := HBK.out.below hbw hs1
        have e0 := hBK.cell 0
        have e1 := hBK.cell 1
        have ef0 := hBK.frozen 0
        have ef1 := hBK.frozen 1
        have HB := hid hB; clear hB
        have HBK2 := hid hBK; clear hBK
        go_wp2
        have hF := (HBK2.out.set_ 0 (.int .i64 (q : Int))).set_ 1 (.slice AL (condTo E n q q).length cL)
        have f0 := hF.cell 0
        have f1 := hF.cell 1
        have HF := hid hF; clear hF
        (try simp only [Exit.inBlock, Exit.then])
        refine bodyPost_ret (v := .tuple #[.agg #[.int .i64 (q : Int), .slice AL (condTo E n q q).length cL], .int .i64 0]) ?_ rfl ⟨_, by rw [HP.out], ?_, ?_⟩
        · rw [results_cell_tmp rfl]; go_simp
        · rw [HP.out]
          have hE2 := (HR.out.far (p := ⟨w.heap.size + 1, 0, none⟩) (Nat.lt_succ_of_lt hs1) (.int .i64 (q : Int))).far (p := ⟨w.heap.size + 1, 1, none⟩) (Nat.lt_succ_of_lt hs1) (.slice AL (condTo E n q q).length cL)
          exact hE2.edges (by omega)
        · exact ((HBW1.out.trans (hbw.mono (by omega))).setCell (p := ⟨w.heap.size + 1, 0, none⟩) (Nat.le_succ _) _).setCell (p := ⟨w.heap.size + 1, 1, none⟩) (Nat.le_succ _) _
  · have HC := hid (made36_bad N v E _ hE1 hgood)
    have hne : (((checkL N E).1 != 0) = true) := by simpa using hgood
    have HP := hid (condL_bad hgood)
    obtain ⟨A, m, c, rfl, hm, hmc, hcc, rE⟩ := hE.open_; clear hE hm
    generalize (checkL N E).1 = er at *
    have H1 := hid h1; clear h1
    clear hgood hE1
    go_enter Try.func25, Try.ntmps25
    go_wp2_with (go_at_call 36; refine HC.out.mono ?_; rintro e w1 ⟨rfl, hb1⟩; have hBK := Blk.below (blk_new (w := w.alloc (.cells #[.int .i64 N, .slice A m c] 24)) (g := w.heap.size + 1) (t := 24) (cs := #[.int .i64 0, .slice none 0 0]) (by simp)) hb1 (by simp); have e0 := hBK.cell 0; have e1 := hBK.cell 1; have ef0 := hBK.frozen 0; have ef1 := hBK.frozen 1; have e2 := (hBK.set_ 0 (.int .i64 0)).cell 1; have e3 := (hBK.set_ 0 (.int .i64 0)).frozen 1; have HBK := hid hBK; clear hBK)
    have hF := (HBK.out.set_ 0 (.int .i64 0)).set_ 1 (.slice none 0 0)
    have f0 := hF.cell 0
    have f1 := hF.cell 1
    have HF := hid hF; clear hF
    (try simp only [Exit.inBlock, Exit.then])
    refine bodyPost_ret (v := .tuple #[.agg #[.int .i64 0, .slice none 0 0], .int .i64 er]) ?_ rfl ⟨_, by rw [HP.out], ?_, ?_⟩
    · rw [results_cell_tmp rfl]; go_simp
    · rw [HP.out]; exact Sl.nil_ _ _
    · exact ((H1.out.trans (hb1.mono (by simp; omega))).setCell (p := ⟨w.heap.size + 1, 0, none⟩) (Nat.le_succ _) _).setCell (p := ⟨w.heap.size + 1, 1, none⟩) (Nat.le_succ _) _
end Go.Proofs.Ythehbamfjglodaa
