/-
  Walks: made of the statements' own package: a graph made of numbers.
-/
import Derived.Test.YthehbamfjglodaaWo
import Derived.Test.YthehbamfjglodaaMath5
namespace Go.Proofs.Ythehbamfjglodaa
open Go.RowKit
attribute [local go_sem ↓] run_execOp_app

/-- which cells of the table are set behind q numbers -/
def hasT (n : Nat) (xs : List Int) (q : Nat) (a b : Nat) : Bool := (xs.take q).any fun x => (x % 1048576).toNat % n == a && (x % 1048576).toNat / 16 % n == b
theorem hasT_succ {n q : Nat} {xs : List Int} {x : Int} (hx : xs[q]? = some x) (a b : Nat) : hasT n xs (q + 1) a b = (hasT n xs q a b || ((x % 1048576).toNat % n == a && (x % 1048576).toNat / 16 % n == b)) := by
  unfold hasT; rw [List.take_add_one, hx]; simp [List.any_append]
def HasCells (f : Nat → Nat → Bool) : Array Value := Array.ofFn (n := 144) fun i => .bool (f (i / 12) (i % 12))
theorem hasCells_get (f : Nat → Nat → Bool) {a b : Nat} (ha : a < 12) (hb : b < 12) : (HasCells f)[a * 12 + b]? = some (.bool (f a b)) := by
  have h1 : (a * 12 + b) / 12 = a := by omega
  have h2 : (a * 12 + b) % 12 = b := by omega
  simp [HasCells, show a * 12 + b < 144 by omega, h1, h2]
theorem hasCells_set (f g : Nat → Nat → Bool) {a b : Nat} (ha : a < 12) (hb : b < 12) (h : ∀ x y, g x y = (f x y || (a == x && b == y))) : (HasCells f).setIfInBounds (a * 12 + b) (.bool true) = HasCells g := by
  apply Array.ext_getElem?
  intro k
  rw [Array.getElem?_setIfInBounds]
  simp only [HasCells, Array.getElem?_ofFn, Array.size_ofFn, h]
  by_cases h1 : a * 12 + b = k
  · subst h1
    have h1 : (a * 12 + b) / 12 = a := by omega
    have h2 : (a * 12 + b) % 12 = b := by omega
    simp [show a * 12 + b < 144 by omega, h1, h2]
  · by_cases h2 : k < 144
    · have : ¬ (a = k / 12 ∧ b = k % 12) := by omega
      have e : (a == k / 12 && b == k % 12) = false := by
        rw [Bool.eq_false_iff]; intro hc; simp at hc; exact this hc
      simp [h1, h2, e]
    · simp [h1, h2]
theorem zero86 : Try.zeroCells86 = HasCells (fun _ _ => false) := by kernel_rfl
/-- The graph of the numbers. -/
def madeN (x : Int) : Nat := (x % 13).toNat
def madeE (x : Int) (xs : List Int) : EdgeL := if madeN x = 0 then [] else rowsE (hasT (madeN x) xs (min xs.length 40)) (madeN x) (madeN x)

set_option maxRecDepth 100000 in
set_option maxHeartbeats 4000000 in
theorem made29 (x : Int) (v : Value) (xs : List Int) (w : World) (hx : -9223372036854775808 ≤ x ∧ x ≤ 9223372036854775807) (hv : Ints w (Iv 0 w.heap.size) v xs) (hxs : ∀ y ∈ xs, -9223372036854775808 ≤ y ∧ y ≤ 9223372036854775807) :
    Calls Try.prog 29 #[.int .i64 x, v] w fun e w' => ∃ u, e = .returned (.agg #[.int .i64 (madeN x), u]) ∧ Edges w' (Iv w.heap.size w'.heap.size) u (madeE x xs) ∧ Below w.heap.size w w' := by
  obtain ⟨A, m, c, rfl, hm, hmc, hcc, hat⟩ := hv.open_; clear hv
  obtain ⟨n, hn⟩ : ∃ n : Nat, madeN x = n := ⟨_, rfl⟩
  have hxn : x % 13 = n := by unfold madeN at hn; omega
  have hn12 : n < 13 := by omega
  have HM := hid hm; clear hm
  have HAT := hid hat; clear hat
  have HN := hid hn; clear hn
  have HXN := hid hxn; clear hxn
  have HXS := hid hxs; clear hxs
  have HX := hid hx; clear hx
  go_enter Try.func29, Try.ntmps29
  go_wp2_with (go_at_call 31; refine (mod31 x 13 _ HX.out (by omega)).mono ?_; rintro e w' ⟨rfl, rfl⟩; rw [HXN.out])
  go_loopw [7] (fun i wr => ∃ q : Nat, q ≤ min m 40 ∧ (n = 0 → q = 0) ∧ i = .int .i64 q ∧ Hid (Blk wr w.heap.size 24 #[.int .i64 0, .slice none 0 0]) ∧ Hid (Blk wr (w.heap.size + 1) 24 #[.int .i64 n, .slice none 0 0]) ∧ Hid (Blk wr (w.heap.size + 1 + 1) 86 (HasCells (hasT n xs q))) ∧ Below w.heap.size w wr) (fun i _ => m - (intOf i).toNat)
  case atStart =>
    refine ⟨0, Nat.zero_le _, fun _ => rfl, rfl, ((Blk.new _ _ _).alloc _).alloc _, (blk_new (by simp)).alloc _, ?_, (((Below.refl _ _).alloc (Nat.le_refl _) _).alloc (by simp) _).alloc (by simp; omega) _⟩
    rw [zero86]; exact blk_new (by simp)
  case round =>
    obtain ⟨q, hq, hq0, rfl, HB0, HB1, HB2, hbw⟩ := hrel
    have c0 := HB1.out.cell 0
    have c0 : wr.cell? ⟨w.heap.size + 1, 0, none⟩ = some (.int .i64 n) := HB1.out.cell 0
    by_cases hgo : q < m ∧ q < 40 ∧ 0 < n
    · obtain ⟨hqm, hq40, hn0⟩ := hgo
      have hq40i : (q : Int) < 40 := by omega
      obtain ⟨ad, y, rfl, hax, hy, hyc⟩ := HAT.out.at_ HM.out hqm
      rw [IntE, Nat.mul_one] at hyc
      have e1 := (hbw.cell (p := ad.add q) (by rw [block_add]; exact hax.2)).trans hyc
      have hyb := HXS.out y (List.mem_of_getElem? hy)
      obtain ⟨k, hk⟩ : ∃ k : Nat, y % 1048576 = k := ⟨(y % 1048576).toNat, by omega⟩
      have hk2 : k < 1048576 := by omega
      have hsucc := hasT_succ (n := n) hy
      rw [hk, Int.toNat_natCast] at hsucc
      have HS := hid hsucc; clear hsucc
      have HK := hid hk; clear hk
      have HYB := hid hyb; clear hyb
      have HY := hid hy; clear hy hyc
      go_upto_region 7 with (go_at_call 31; refine (mod31 y 1048576 _ HYB.out (by omega)).mono ?_; rintro e w' ⟨rfl, rfl⟩; rw [HK.out])
      obtain ⟨a, ha⟩ : ∃ a, k % n = a := ⟨_, rfl⟩
      obtain ⟨b, hb⟩ : ∃ b, k / 16 % n = b := ⟨_, rfl⟩
      have ha12 : a < 12 := by have := Nat.mod_lt k hn0; omega
      have hb12 : b < 12 := by have := Nat.mod_lt (k / 16) hn0; omega
      have c2 := HB2.out.cell (a * 12 + b)
      rw [hasCells_get _ ha12 hb12] at c2
      have cf2 := HB2.out.frozen (a * 12 + b)
      have r3 : (k : Int) % (n : Int) = (a : Int) := by rw [← ha]; simp
      have r4 : (k : Int) / 16 % (n : Int) = (b : Int) := by rw [← hb]; simp
      have r1 : (k : Int).tmod (n : Int) = (a : Int) := by rw [Int.tmod_eq_emod_of_nonneg (by omega)]; exact r3
      have r2 : ((k : Int).tdiv 16).tmod (n : Int) = (b : Int) := by rw [Int.tdiv_eq_ediv_of_nonneg (by omega), Int.tmod_eq_emod_of_nonneg (by omega)]; exact r4
      have hnz : ((n : Int) == 0) = false := by simp; omega
      have ha12i : (a : Int) < 12 := by omega
      have hb12i : (b : Int) < 12 := by omega
      have HA := hid ha; clear ha
      have HB := hid hb; clear hb
      go_region
      clear r1 r2 r3 r4 hnz c2 cf2 e1 c0
      have hset := HB2.out.set_ (a * 12 + b) (.bool true)
      rw [hasCells_set _ (hasT n xs (q + 1)) ha12 hb12 (fun x y => by rw [HS.out, HA.out, HB.out])] at hset
      have HSET := hid hset; clear hset
      have HB0' := hid (HB0.out.far (p := ⟨w.heap.size + 1 + 1, a * 12 + b, none⟩) (by show w.heap.size ≠ w.heap.size + 1 + 1; omega) (.bool true))
      have HB1' := hid (HB1.out.far (p := ⟨w.heap.size + 1 + 1, a * 12 + b, none⟩) (by show w.heap.size + 1 ≠ w.heap.size + 1 + 1; omega) (.bool true))
      have hbw' := hbw.setCell (p := ⟨w.heap.size + 1 + 1, a * 12 + b, none⟩) (by show w.heap.size ≤ w.heap.size + 1 + 1; omega) (.bool true)
      go_wp2
      go_roundw
      case rel => exact ⟨q + 1, by omega, by omega, by go_num, HB0'.out.drew, HB1'.out.drew, HSET.out.drew, hbw'.drew⟩
      case measure => simp [intOf]; omega
    · have hfin : madeE x xs = rowsE (hasT n xs q) n n := by
        unfold madeE
        rw [HN.out]
        by_cases h0 : n = 0
        · subst h0; rw [if_pos rfl]; rfl
        · rw [if_neg h0, HM.out, show min m 40 = q by omega]
      have HFIN := hid hfin; clear hfin
      generalize hasT n xs q = f at *
      have h0s : w.heap.size + 1 + 1 < wr.heap.size := HB2.out.lt
      have hways : ¬ q < m ∨ (q < m ∧ ¬ (q : Int) < 40) ∨ (q < m ∧ (q : Int) < 40 ∧ ¬ (n : Int) > 0) := by omega
      rcases hways with h1 | ⟨h1, h2⟩ | ⟨h1, h2, h3⟩
      all_goals
        go_wp2
        obtain ⟨wo, rfl⟩ : ∃ wo : World, wo = wr := ⟨_, rfl⟩
        go_loopw [9] (fun i wr => ∃ (a : Nat) (vL : Value), a ≤ n ∧ i = .int .i64 a ∧ Hid (Blk wr w.heap.size 24 #[.int .i64 0, .slice none 0 0]) ∧ Blk wr (w.heap.size + 1) 24 #[.int .i64 n, vL] ∧ Hid (Blk wr (w.heap.size + 1 + 1) 86 (HasCells f)) ∧ Hid (GrowsE (w.heap.size + 3) wr vL (rowsE f n a)) ∧ w.heap.size + 3 ≤ wr.heap.size ∧ Below w.heap.size w wr) (fun i _ => n - (intOf i).toNat)
        case atStart => exact ⟨0, _, Nat.zero_le _, rfl, HB0, HB1.out, HB2, GrowsE.nil _ _, by omega, hbw⟩
        case round =>
          clear HB0 HB1 HB2 hbw c0 h0s
          obtain ⟨a, vL, ha, rfl, HB0, hB1, HB2, HR, hsz, hbw⟩ := hrel
          obtain ⟨AL, cL, rfl, hAL, hcL⟩ := own_form HR.out.1
          have c0 : wr.cell? ⟨w.heap.size + 1, 0, none⟩ = some (.int .i64 n) := hB1.cell 0
          by_cases hlt : a < n
          · first
            | (exfalso; omega)
            | (have HB1 := hid hB1; clear hB1
               go_wp2
               go_loopw [10] (fun i wi => ∃ (b : Nat) (vL : Value), b ≤ n ∧ i = .int .i64 b ∧ Hid (Blk wi w.heap.size 24 #[.int .i64 0, .slice none 0 0]) ∧ Blk wi (w.heap.size + 1) 24 #[.int .i64 n, vL] ∧ Hid (Blk wi (w.heap.size + 1 + 1) 86 (HasCells f)) ∧ Hid (GrowsE (w.heap.size + 3) wi vL (rowsE f n a ++ rowE f a b)) ∧ w.heap.size + 3 ≤ wi.heap.size ∧ Below w.heap.size w wi) (fun i _ => n - (intOf i).toNat)
               case atStart => exact ⟨0, _, Nat.zero_le _, rfl, HB0, HB1.out, HB2, by simpa [rowE] using HR, hsz, hbw⟩
               case round =>
                 clear HB0 HB1 HB2 HR hbw hsz c0 hAL hcL
                 obtain ⟨b, vL, hb, rfl, HB0, hB1, HB2, HR, hsz, hbw⟩ := hrel
                 obtain ⟨AL, cL, rfl, hAL, hcL⟩ := own_form HR.out.1
                 have c0 : wr.cell? ⟨w.heap.size + 1, 0, none⟩ = some (.int .i64 n) := hB1.cell 0
                 by_cases hlt2 : b < n
                 · have c1 := hB1.cell 1
                   have cf1 := hB1.frozen 1
                   have HB1 := hid hB1; clear hB1
                   have c2 := HB2.out.cell (a * 12 + b)
                   rw [hasCells_get _ (by omega) (by omega)] at c2
                   have hrs := rowE_succ f a b
                   have ha12 : (a : Int) < 12 := by omega
                   have hb12 : (b : Int) < 12 := by omega
                   cases hf : f a b with
                   | false =>
                     rw [hf] at hrs c2
                     have HF := hid hf; clear hf
                     have HRS := hid hrs; clear hrs
                     go_wp2
                     go_roundw
                     case rel => exact ⟨b + 1, _, hlt2, by go_num, HB0, HB1.out, HB2, by rw [HRS.out]; simpa using HR, hsz, hbw⟩
                     case measure => simp [intOf]; omega
                   | true =>
                     rw [hf] at hrs c2
                     have HF := hid hf; clear hf
                     have HRS := hid hrs; clear hrs
                     have hlen : (rowsE f n a ++ rowE f a b).length ≤ 200 := by
                       have a1 := rowsE_le f n a
                       have a2 := rowE_le f a b
                       have a3 : a * n ≤ 12 * 12 := Nat.mul_le_mul (by omega) (by omega)
                       rw [List.length_append]; omega
                     have hown := HR.out.1
                     generalize hX : rowsE f n a ++ rowE f a b = X at *
                     have HX := hid hX; clear hX
                     go_upto_region 13 with ((at_builtin; refine wpList_app1 tEdges rfl (.tmp 63) (.tmp 67) rfl _ X.length (cellsE X) rfl hown [.int .i64 (a : Int), .int .i64 (b : Int)] rfl rfl (by simp [Value.oneCell']) (by simp only [maxLen]; omega) (by omega) ?_; intro v2 w2 ho2 hg2 hb2 hs2; obtain ⟨A5, c5, rfl, hA5, hc5⟩ := own_form ho2; have hB2 := grown_far HB1.out hg2 (fun b hv => by have := HR.out.2 b hv; omega); have hc2 := hB2.cell 1; have hcf2 := hB2.frozen 1))
                     have HB0' := hid ((grown_far HB0.out hg2 (fun b hv => by have := HR.out.2 b hv; omega)).far (p := ⟨w.heap.size + 1, 1, none⟩) (by simp) (.slice A5 (X.length + 1) c5))
                     have HB2' := hid ((grown_far HB2.out hg2 (fun b hv => by have := HR.out.2 b hv; omega)).far (p := ⟨w.heap.size + 1, 1, none⟩) (by simp) (.slice A5 (X.length + 1) c5))
                     have HS := hid ((HR.out.step (p := ((a : Int), (b : Int))) (by omega) ho2 hb2).far (p := ⟨w.heap.size + 1, 1, none⟩) (by show w.heap.size + 1 < w.heap.size + 3; omega) (.slice A5 (X.length + 1) c5))
                     have hB3 := hB2.set_ 1 (.slice A5 (X.length + 1) c5)
                     have hbw2 := (hbw.grown hg2 hbw.size (fun b hv => by have := HR.out.2 b hv; omega)).setCell (p := ⟨w.heap.size + 1, 1, none⟩) (Nat.le_succ _) (.slice A5 (X.length + 1) c5)
                     have hsz2 : w.heap.size + 3 ≤ (w2.setCell ⟨w.heap.size + 1, 1, none⟩ (.slice A5 (X.length + 1) c5)).heap.size := by
                       have e : (w2.setCell ⟨w.heap.size + 1, 1, none⟩ (.slice A5 (X.length + 1) c5)).heap.size = w2.heap.size := by simp [World.setCell]
                       omega
                     have HB3 := hid hB3; clear hB3 hB2 ho2 hown
                     go_wp2
                     go_roundw
                     case rel => exact ⟨b + 1, _, hlt2, by go_num, HB0'.out, HB3.out, HB2'.out, by rw [HRS.out, if_pos rfl, ← List.append_assoc, HX.out]; exact HS, hsz2, hbw2⟩
                     case measure => simp [intOf]; omega
                 · obtain rfl : b = n := by omega
                   have HB1 := hid hB1; clear hB1
                   go_wp2
                   go_roundw
                   case rel => exact ⟨a + 1, _, hlt, by go_num, HB0, HB1.out, HB2, by rw [rowsE_succ]; exact HR, hsz, hbw⟩
                   case measure => simp [intOf]; omega)
          · obtain rfl : a = n := by omega
            have h0 := HB0.out.cell 0
            have h1 := HB0.out.cell 1
            have hf0 := HB0.out.frozen 0
            have hf1 := HB0.out.frozen 1
            have c1 := hB1.cell 1
            have HB1 := hid hB1; clear hB1
            go_wp2
            have hF := (HB0.out.set_ 0 (.int .i64 a)).set_ 1 (.slice AL (rowsE f a a).length cL)
            have g0 := hF.cell 0
            have g1 := hF.cell 1
            have HF := hid hF; clear hF
            refine bodyPost_ret (v := .agg #[.int .i64 a, .slice AL (rowsE f a a).length cL]) ?_ rfl ⟨_, by rw [HN.out], ?_, ?_⟩
            · rw [results_cell1 rfl]; go_simp
            · rw [HFIN.out]
              have hE2 := (HR.out.far (p := ⟨w.heap.size, 0, none⟩) (by show w.heap.size < w.heap.size + 3; omega) (.int .i64 a)).far (p := ⟨w.heap.size, 1, none⟩) (by show w.heap.size < w.heap.size + 3; omega) (.slice AL (rowsE f a a).length cL)
              exact hE2.edges (by omega)
            · exact (hbw.setCell (p := ⟨w.heap.size, 0, none⟩) (Nat.le_refl _) _).setCell (p := ⟨w.heap.size, 1, none⟩) (Nat.le_refl _) _
end Go.Proofs.Ythehbamfjglodaa
