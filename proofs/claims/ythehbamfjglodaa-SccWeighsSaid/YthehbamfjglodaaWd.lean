/-
  Walks: slices.Grow, slices.Concat, joined.
-/
import Derived.Test.YthehbamfjglodaaWc
import Derived.Lib.AppendZerosOnto
import Derived.Lib.AppendZeros
import Derived.Lib.SliceRun
namespace Go.Proofs.Ythehbamfjglodaa
open Go.RowKit

theorem zeroCells_size (z : Array Value) (hz : z.size = 1) (k : Nat) : (Builtin.zeroCells z k).size = k := by
  simp [Builtin.zeroCells, hz]

set_option maxRecDepth 100000 in
set_option maxHeartbeats 400000 in
theorem grow62 (n : Nat) (hn : n ≤ 5000) (w : World) :
    Calls Try.prog 62 #[.slice none 0 0, .int .i64 n] w fun e w' => ∃ v, e = .returned v ∧ Grows w w' v [] ∧ Below w.heap.size w w' := by
  by_cases h0 : n = 0
  · subst h0
    go_enter Try.func62, Try.ntmps62
    go_wp2
    go_ret
    exact ⟨_, rfl, Grows.nil w, Below.refl _ _⟩
  · obtain ⟨i, hi, hz, hs, hby⟩ := info_parts (show (Try.prog.info? 3).map (fun i => (i.zero, i.size, i.bytes)) = some (some (.int .i64 0), 1, 8) by kernel_rfl)
    obtain ⟨C, G, hr, hG1, hG2, hC⟩ : ∃ (C : Array Value) (G : Nat), (∀ ty, (Builtin.append_ #[25, 3] ty #[.slice none 0 0, .int .i64 n]).run Try.prog w = .ok (.slice (some ⟨w.heap.size, 0, none⟩) n G) (w.drew.alloc (.cells C 3))) ∧ n ≤ G ∧ G ≤ 9223372036854775807 ∧ C.size = G := by
      have hG1 : n ≤ grownCap w n 0 3 := grownCap_ge w _ _ _
      have hG2 : grownCap w n 0 3 ≤ 9223372036854775807 := by
        have := grownCap_le_maxLen w n 0 3 (by unfold maxLen; omega)
        unfold maxLen at this
        omega
      refine ⟨([] : List Value).toArray ++ Builtin.zeroCells (Value.cells (.int .i64 0)) n ++ Builtin.zeroCells (Value.cells (.int .i64 0)) (grownCap w n 0 3 - n), grownCap w n 0 3, fun ty => ?_, hG1, hG2, ?_⟩
      · have h := Lib.run_append_grow_zeros w 25 3 ty 3 i _ .i64 .i64 Try.underlying25 Try.underlying3 hi hz none 0 0 [] (run_firstCells_none w.drew i.size 0 0 0) n (by omega) (by omega) (by omega) (by omega)
          (by rw [hby]; omega) (growslice_fits (by omega) (by rw [hby]; omega))
        simp only [Nat.zero_add] at h
        exact h
      · rw [Array.size_append, Array.size_append, zeroCells_size _ rfl, zeroCells_size _ rfl]; simp; omega
    have hpos : (n : Int) > 0 := by omega
    have h1 : ¬ ((n : Int) < 0) := by omega
    have h3 : wrap64 ((n : Int) - ((0 : Int) - (0 : Int))) = (n : Int) := by unfold wrap64; omega
    have HR := hid hr
    clear hr
    have HI := hid hi; clear hi hz hs hby
    have HCS := hid hC; clear hC
    clear h0
    go_enter Try.func62, Try.ntmps62
    go_wp2_with (at_builtin; refine Lib.wpList_append_run _ rfl _ _ _ _ rfl _ _ rfl rfl _ _ (HR.out _) ?_)
    go_ret
    refine ⟨_, rfl, ⟨⟨rfl, .inr ⟨w.heap.size, G, C, rfl, Nat.zero_le _, ?_, Nat.zero_le _, by simpa [maxLen] using hG2, by rw [HCS.out, Nat.mul_one], by simp⟩⟩, fun b hb => ?_⟩, ?_⟩
    · exact heap_alloc_new w.drew _
    · injection hb with hb; exact Nat.le_of_eq hb
    · exact (Below.refl _ _).drew.alloc (Nat.le_refl _) _

theorem flat_take {ls : List (List Int)} {q : Nat} {x : List Int} (hx : ls[q]? = some x) : (ls.take (q + 1)).flatten = (ls.take q).flatten ++ x := by
  rw [List.take_add_one, hx]; simp
theorem flat_take_le (ls : List (List Int)) (q : Nat) : ((ls.take q).flatten).length ≤ ls.flatten.length := by
  have h : ls.flatten = (ls.take q).flatten ++ (ls.drop q).flatten := by rw [← List.flatten_append, List.take_append_drop]
  rw [h, List.length_append]; omega
theorem Grows.stepL {w wr w2 : World} {v v2 : Value} {xs ys : List Int} (h : Grows w wr v xs) (hw : w.heap.size ≤ wr.heap.size) (ho : Own w2 3 1 v2 (xs.length + ys.length) (xs.map (.int .i64) ++ ys.map (.int .i64)))
    (hb : v2.ownBlock = v.ownBlock ∨ v2.ownBlock = some wr.heap.size) : Grows w w2 v2 (xs ++ ys) := by
  refine ⟨by simpa using ho, fun b hv => ?_⟩
  rcases hb with e | e
  · exact h.2 b (e.symm.trans hv)
  · rw [e] at hv; injection hv with hv; omega
theorem ints_cells {w : World} {S : Reg} {ad : Addr} {x : List Int} (h : ∀ j y, x[j]? = some y → IntE w S (ad.add (j * 1)) y) : ∀ j u, (x.map (Value.int .i64))[j]? = some u → w.cell? (ad.add j) = some u := fun j u hu => by
  rw [List.getElem?_map] at hu
  cases hx : x[j]? with
  | none => rw [hx] at hu; cases hu
  | some y =>
    rw [hx] at hu
    injection hu with hu
    rw [← hu]
    have := h j y hx
    rw [Nat.mul_one] at this
    exact this

def tot (ls : List (List Int)) (q : Nat) : Nat := ((ls.take q).flatten).length
theorem tot_succ {ls : List (List Int)} {q : Nat} {x : List Int} (hx : ls[q]? = some x) : tot ls (q + 1) = tot ls q + x.length := by unfold tot; rw [flat_take hx, List.length_append]
theorem tot_le (ls : List (List Int)) (q : Nat) : tot ls q ≤ ls.flatten.length := flat_take_le ls q
theorem tot_all {ls : List (List Int)} {q : Nat} (h : ls.length = q) : tot ls q = ls.flatten.length := by unfold tot; rw [List.take_of_length_le (by omega)]
def flatTo (ls : List (List Int)) (q : Nat) : List Int := (ls.take q).flatten
theorem flatTo_succ {ls : List (List Int)} {q : Nat} {x : List Int} (hx : ls[q]? = some x) : flatTo ls (q + 1) = flatTo ls q ++ x := flat_take hx
theorem flatTo_all {ls : List (List Int)} {q : Nat} (h : ls.length = q) : flatTo ls q = ls.flatten := by unfold flatTo; rw [List.take_of_length_le (by omega)]
theorem flatTo_len (ls : List (List Int)) (q : Nat) : (flatTo ls q).length = tot ls q := rfl

set_option maxRecDepth 100000 in
set_option maxHeartbeats 400000 in
theorem concat59 (v : Value) (ls : List (List Int)) (w : World) (hv : IntLists w (Iv 0 w.heap.size) v ls) (hne : ∀ l ∈ ls, l ≠ []) (htot : ls.flatten.length ≤ 5000) :
    Calls Try.prog 59 #[v] w fun e w' => ∃ u, e = .returned u ∧ Grows w w' u ls.flatten ∧ Below w.heap.size w w' := by
  obtain ⟨A, k, c, rfl, hk, hkc, hcc, hat⟩ := hv.open_; clear hv
  rw [← flatTo_all hk]
  have hT : ∀ q, tot ls q ≤ 5000 := fun q => Nat.le_trans (tot_le ls q) htot
  clear htot
  have HK := hid hk; clear hk
  have HA := hid hat; clear hat
  have HN := hid hne; clear hne
  have HG := fun wz => hid (grow62 (tot ls k) (hT k) wz)
  have HT := hid hT; clear hT
  go_enter Try.func59, Try.ntmps59
  go_wp2
  go_loopw [3, 11] (fun a i wr => ∃ q : Nat, q ≤ k ∧ i = .int .i64 q ∧ a = .int .i64 (tot ls q : Nat) ∧ w = wr) (fun _ i _ => k - (intOf i).toNat)
  case atStart => exact ⟨0, Nat.zero_le _, rfl, rfl, rfl⟩
  case round =>
    obtain ⟨q, hq, rfl, rfl, rfl⟩ := hrel
    by_cases hlt : q < k
    · obtain ⟨ad, x, rfl, had, hx, u, hu, A1, c1, rfl, hc1, hm1, hat1⟩ := HA.out.at_ HK.out hlt
      rw [Nat.mul_one] at hu
      have hl := tot_succ hx
      have hle := HT.out (q + 1)
      have hle0 := HT.out q
      rw [hl] at hle
      have HL := hid hl; clear hl
      have HX := hid hx; clear hx
      generalize x.length = xl at *
      go_wp2
      go_roundw
      case rel => exact ⟨q + 1, hlt, by go_num, by rw [HL.out]; go_num, trivial⟩
      case measure => simp [intOf]; omega
    · obtain rfl : q = k := by omega
      have hle0 := HT.out q
      go_wp2_with (go_at_call 62; refine (HG _).out.mono ?_; rintro e w1 ⟨v1, rfl, hg1, hb1⟩; have HG1 := hid hg1; clear hg1)
      go_loopw [6, 27] (fun v i wr => ∃ r : Nat, r ≤ q ∧ i = .int .i64 r ∧ Hid (Grows w wr v (flatTo ls r)) ∧ Below w.heap.size w wr) (fun _ i _ => q - (intOf i).toNat)
      case atStart => exact ⟨0, Nat.zero_le _, rfl, HG1, hb1⟩
      case round =>
        obtain ⟨r, hr, rfl, HR, hbw⟩ := hrel
        by_cases hlt2 : r < q
        · obtain ⟨ad, x, rfl, had, hx, u, hu, A1, c1, rfl, hc1, hm1, hat1⟩ := HA.out.at_ HK.out hlt2
          rw [Nat.mul_one] at hu
          have hu := (hbw.cell (p := ad.add r) (by rw [block_add]; exact had.2)).trans hu
          have hlen : tot ls r + x.length ≤ 5000 := by rw [← tot_succ hx]; exact HT.out _
          obtain ⟨ad1, rfl, hb1', hel⟩ := hat1 (List.length_pos_iff.2 (HN.out x (List.mem_of_getElem? hx)))
          have hcells := ints_cells (w := wr) (S := Iv 0 w.heap.size) (ad := ad1) (x := x) fun j y hj => (hbw.cell (p := ad1.add (j * 1)) (by rw [block_add]; exact hb1'.2)).trans (hel j y hj)
          have HX := hid (flatTo_succ hx); clear hx
          have HCELLS := hid hcells; clear hcells
          have hown := HR.out.1
          clear hel hat1
          go_upto_region 14 with ((at_builtin; refine wpList_app tInts rfl (.tmp 31) (.tmp 32) rfl u6 (flatTo ls r).length ((flatTo ls r).map (.int .i64)) rfl hown ad1 x.length c1 (x.map (.int .i64)) rfl (by simp) HCELLS.out (by simp [Value.oneCell']) (by simp only [maxLen, flatTo_len]; omega) (by rw [flatTo_len]; omega) ?_; intro v2 w2 ho2 hg2 hb2))
          have HS := hid (HR.out.stepL hbw.size ho2 hb2)
          have hbw2 := HR.out.below hbw hg2
          clear ho2 hown
          go_wp2
          go_roundw
          case rel => exact ⟨r + 1, hlt2, by go_num, by rw [HX.out]; exact HS, hbw2⟩
          case measure => simp [intOf]; omega
        · obtain rfl : r = q := by omega
          go_wp2
          go_ret
          exact ⟨_, rfl, HR.out, hbw⟩

set_option maxHeartbeats 400000 in
theorem joined44 (v : Value) (ls : List (List Int)) (w : World) (hv : IntLists w (Iv 0 w.heap.size) v ls) (hne : ∀ l ∈ ls, l ≠ []) (htot : ls.flatten.length ≤ 5000) :
    Calls Try.prog 44 #[v] w fun e w' => ∃ u, e = .returned u ∧ Grows w w' u ls.flatten ∧ Below w.heap.size w w' := by
  have HC := hid (concat59 v ls w hv hne htot)
  obtain ⟨A, k, c, rfl, hk, hkc, hcc, hat⟩ := hv.open_; clear hv
  clear hk
  go_enter Try.func44, Try.ntmps44
  go_wp2_with (go_at_call 59; refine HC.out.mono ?_; rintro e w1 ⟨v1, rfl, hg1, hb1⟩)
  go_ret
  exact ⟨_, rfl, hg1, hb1⟩
end Go.Proofs.Ythehbamfjglodaa
