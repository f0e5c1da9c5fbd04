/-
  Walks: goes, of.
-/
import Derived.Test.YthehbamfjglodaaRows
import Derived.Test.YthehbamfjglodaaMem
import Derived.Test.YthehbamfjglodaaMath
import Derived.Deep.QuietTactic
import Derived.BigQuiet
import Derived.BigRegion
import Derived.Deep.DeepCutAuto
namespace Go.Proofs.Ythehbamfjglodaa
open Go.RowKit

theorem bit_test (r j : Nat) (hr : r < 18446744073709551616) : (bits BinOp.and IntKind.u64 ((r : Int) / 2 ^ j) 1 == 1) = r.testBit j := by
  have e : ((r : Int) / 2 ^ j) = ((r / 2 ^ j : Nat) : Int) := by simp
  have hlt : r / 2 ^ j < 18446744073709551616 := Nat.lt_of_le_of_lt (Nat.div_le_self _ _) hr
  rw [e, show (1 : Int) = ((1 : Nat) : Int) from rfl, u64_and_nat _ _ hlt (by omega), Nat.testBit_eq_decide_div_mod_eq, Nat.and_one_is_mod]
  rw [Bool.eq_iff_iff]
  simp
  omega

set_option maxHeartbeats 400000 in
theorem goes_any (l i j r : Nat) (w : World) (hi : i < 64) (hj : j < 64) (hr : r < 18446744073709551616) (hc : w.cell? ⟨l, 64 + i, none⟩ = some (.int .u64 r)) :
    Calls Try.prog 37 #[.pointer (some ⟨l, 0, none⟩), .int .i64 i, .int .i64 j] w fun e w' => e = .returned (.bool (r.testBit j)) ∧ w = w' := by
  go_enter Try.func37, Try.ntmps37
  go_wp2
  go_ret
  exact ⟨ret_bool (bit_test r j hr), rfl⟩

/-- The cells of the struct 'links'. -/
def LinkCells (nxt rch : Nat → Nat) : Array Value := Array.ofFn (n := 128) fun i => .int .u64 (if i.val < 64 then nxt i else rch (i - 64) : Nat)
theorem linkCells_lo (nxt rch : Nat → Nat) (i : Nat) (h : i < 64) : (LinkCells nxt rch)[i]? = some (.int .u64 (nxt i)) := by
  simp [LinkCells, h, show i < 128 by omega]
theorem linkCells_hi (nxt rch : Nat → Nat) (i : Nat) (h : i < 64) : (LinkCells nxt rch)[64 + i]? = some (.int .u64 (rch i)) := by
  simp [LinkCells, show 64 + i < 128 by omega, show ¬ 64 + i < 64 by omega]
theorem linkCells_set_lo (nxt rch : Nat → Nat) (i v : Nat) (h : i < 64) : (LinkCells nxt rch).setIfInBounds i (.int .u64 v) = LinkCells (upd nxt i v) rch := by
  apply Array.ext_getElem?
  intro k
  rw [Array.getElem?_setIfInBounds]
  simp only [LinkCells, upd, Array.getElem?_ofFn, Array.size_ofFn]
  by_cases h1 : i = k
  · subst h1
    simp [h, show i < 128 by omega]
  · by_cases h2 : k < 128 <;> simp [h1, h2, Ne.symm h1]
theorem linkCells_set_hi (nxt rch : Nat → Nat) (i v : Nat) (h : i < 64) : (LinkCells nxt rch).setIfInBounds (64 + i) (.int .u64 v) = LinkCells nxt (upd rch i v) := by
  apply Array.ext_getElem?
  intro k
  rw [Array.getElem?_setIfInBounds]
  simp only [LinkCells, upd, Array.getElem?_ofFn, Array.size_ofFn]
  by_cases h1 : 64 + i = k
  · subst h1
    simp [show 64 + i < 128 by omega, show ¬ 64 + i < 64 by omega]
  · by_cases h2 : k < 128
    · by_cases h3 : k < 64
      · simp [h1, h2, h3]
      · simp [h1, h2, h3, show ¬ (k - 64 = i) by omega]
    · simp [h1, h2]

theorem or_bit (a y : Nat) (ha : a < 18446744073709551616) (hy : y < 64) : bits BinOp.or IntKind.u64 (a : Int) (IntKind.u64.wrap (2 ^ y)) = ((a ||| 2 ^ y : Nat) : Int) := by
  have h2 : 2 ^ y < 18446744073709551616 := Nat.lt_of_lt_of_le (Nat.pow_lt_pow_right (by omega) hy) (by decide)
  have e : IntKind.u64.wrap ((2 : Int) ^ y) = ((2 ^ y : Nat) : Int) := by
    have c : ((2 ^ y : Nat) : Int) = (2 : Int) ^ y := by simp
    rw [IntKind.wrap_u64, ← c]
    generalize 2 ^ y = z at h2
    omega
  rw [e, u64_or_nat _ _ ha h2]
theorem pow_lt (y : Nat) (hy : y < 64) : 2 ^ y < 18446744073709551616 := Nat.lt_of_lt_of_le (Nat.pow_lt_pow_right (by omega) hy) (by decide)
/-- The first 64 cells as a list of their own. -/
def nl (nxt : Nat → Nat) : List Value := (List.range 64).map fun i => .int .u64 (nxt i : Nat)
theorem nl_get {nxt : Nat → Nat} {j : Nat} {v : Value} (h : (nl nxt)[j]? = some v) : j < 64 ∧ ∀ rch f, (LinkCells nxt rch)[j]? = some v ∧ (LinkCells f nxt)[64 + j]? = some v := by
  have hj : j < 64 := by
    rcases Nat.lt_or_ge j 64 with h1 | h1
    · exact h1
    · rw [List.getElem?_eq_none (by simp [nl]; omega)] at h; cases h
  refine ⟨hj, fun rch f => ?_⟩
  rw [linkCells_lo _ _ _ hj, linkCells_hi _ _ _ hj]
  simp [nl, hj] at h
  simp [h]
theorem nl_one (nxt : Nat → Nat) : (nl nxt).toArray.all (·.oneCell') = true := all_oneCell_toArray (by intro v hv; simp [nl] at hv; obtain ⟨i, _, rfl⟩ := hv; rfl)
theorem nl_spl (nxt rch : Nat → Nat) : spl (LinkCells nxt rch) 64 (nl nxt) = LinkCells nxt nxt := by
  apply Array.ext_getElem?
  intro k
  rw [spl_get]
  by_cases h : 64 ≤ k ∧ k < 128
  · rw [if_pos (by simp [nl, LinkCells]; omega)]
    obtain ⟨j, rfl⟩ : ∃ j, k = 64 + j := ⟨k - 64, by omega⟩
    rw [linkCells_hi _ _ _ (by omega)]
    simp [nl, show j < 64 by omega]
  · rw [if_neg (by simp [nl, LinkCells]; omega)]
    by_cases hk : k < 64
    · rw [linkCells_lo _ _ _ hk, linkCells_lo _ _ _ hk]
    · rw [Array.getElem?_eq_none (by simp [LinkCells]; omega), Array.getElem?_eq_none (by simp [LinkCells]; omega)]
theorem range_lo {w : World} {g : Nat} {nxt rch : Nat → Nat} (h : Blk w g 79 (LinkCells nxt rch)) : w.rangeAt g 0 (nl nxt) := fun j v hv => by
  rw [Nat.zero_add, h.cell]
  exact ((nl_get hv).2 rch (fun _ => 0)).1
theorem there_hi {w : World} {g : Nat} {nxt rch : Nat → Nat} (h : Blk w g 79 (LinkCells nxt rch)) : w.there g 64 64 := fun j hj =>
  ⟨by rw [h.cell, linkCells_hi _ _ _ hj]; simp, h.frozen _⟩
theorem size77 : (Try.prog.info? 77).map (·.size) = some 64 := by kernel_rfl
theorem size77l (nxt : Nat → Nat) : (Try.prog.info? 77).map (·.size) = some (nl nxt).length := by rw [size77]; simp [nl]
theorem size77a (nxt : Nat → Nat) : (Try.prog.info? 77).map (·.size) = some (nl nxt).toArray.size := by rw [size77]; simp [nl]
theorem there_nl {w : World} {g : Nat} {nxt : Nat → Nat} (h : w.there g 64 64) : w.there g 64 (nl nxt).toArray.size := by simpa [nl] using h
/-- The first k edges are in. -/
def NxtRel (E : EdgeL) (k : Nat) (nxt : Nat → Nat) : Prop := (∀ i, nxt i < 18446744073709551616) ∧ ∀ i j, (nxt i).testBit j = adj (E.take k) i j
theorem NxtRel.step {E : EdgeL} {k x y : Nat} {nxt : Nat → Nat} (h : NxtRel E k nxt) (hk : E[k]? = some ((x : Int), (y : Int))) (hy : y < 64) : NxtRel E (k + 1) (upd nxt x (nxt x ||| 2 ^ y)) := by
  refine ⟨fun i => ?_, fun i j => ?_⟩
  · unfold upd; split
    · exact or_lt _ _ (h.1 x) (pow_lt y hy)
    · exact h.1 i
  · rw [List.take_add_one, hk]
    simp only [Option.toList, adj_snoc, ← h.2]
    unfold upd; split
    · rename_i hi; subst hi
      rw [Nat.testBit_or, Nat.testBit_two_pow]
      congr 1
      rw [Bool.eq_iff_iff]
      simp
      omega
    · rename_i hi
      have : ((x : Int) == (i : Int)) = false := by simp; omega
      simp [this]
theorem zero79 : Try.zeroCells79 = LinkCells (fun _ => 0) (fun _ => 0) := by kernel_rfl

set_option maxRecDepth 100000 in
set_option maxHeartbeats 400000 in
theorem of_any (n : Nat) (E : EdgeL) (v : Value) (w : World) (hE : Edges w (Iv 0 w.heap.size) v E) (hn : n ≤ 64) (hok : Ok n E) :
    Calls Try.prog 50 #[.agg #[.int .i64 n, v]] w fun e w' => ∃ nxt rch : Nat → Nat, e = .returned (.pointer (some ⟨w.heap.size + 1, 0, none⟩)) ∧ Blk w' (w.heap.size + 1) 79 (LinkCells nxt rch) ∧ Below w.heap.size w w' ∧
      RchRel E 0 nxt ∧ RchRel E n rch := by
  obtain ⟨A, m, c, rfl, hm, hmc, hc, rE⟩ := hE.open_; clear hE
  have Hm := hid hm; clear hm
  have HO := hid hok; clear hok
  go_enter Try.func50, Try.ntmps50
  go_wp2
  go_loopw [13] (fun i wr => ∃ (k : Nat) (nxt : Nat → Nat), k ≤ m ∧ i = .int .i64 k ∧ Blk wr (w.heap.size + 1) 79 (LinkCells nxt (fun _ => 0)) ∧ Hid (NxtRel E k nxt) ∧
      Blk wr w.heap.size 24 #[.int .i64 n, .slice A m c] ∧ w.heap.size + 2 ≤ wr.heap.size ∧ Below w.heap.size w wr) (fun i _ => m - (intOf i).toNat)
  case atStart =>
    refine ⟨0, fun _ => 0, Nat.zero_le _, rfl, ?_, ?_, (Blk.new _ _ _).alloc _, by simp, ((Below.refl _ _).alloc (Nat.le_refl _) _).alloc (by simp) _⟩
    · rw [zero79]; have := Blk.new (w.alloc (.cells #[.int .i64 n, .slice A m c] 24)) 79 (LinkCells (fun _ => 0) (fun _ => 0)); simpa using this
    · exact ⟨fun _ => by simp, fun i j => by simp [adj]⟩
  case round =>
    obtain ⟨k, nxt, hk, rfl, hb1, HR, hb0, hsz, hbw⟩ := hrel
    by_cases hlt : k < m
    · obtain ⟨ad, ⟨x, y⟩, rfl, ⟨_, had⟩, hxy, g1, g2⟩ := rE.at_ Hm.out hlt
      have ho := HO.out _ (List.mem_of_getElem? hxy)
      obtain ⟨hx0, hx1, hy0, hy1⟩ := ho
      obtain ⟨x, rfl⟩ := Int.eq_ofNat_of_zero_le hx0
      obtain ⟨y, rfl⟩ := Int.eq_ofNat_of_zero_le hy0
      simp only [] at g1 g2 hx1 hy1
      rw [← hbw.cell (by rw [block_add]; exact had)] at g1
      rw [← hbw.cell (by show (ad.add (k * 2)).block < _; rw [block_add]; exact had)] at g2
      have g3 := hb1.cell x
      rw [linkCells_lo _ _ _ (by omega)] at g3
      have g4 := hb1.frozen x
      have HX := hid hxy; clear hxy hx0 hy0
      have Hb1 := hid hb1; clear hb1
      have Hb0 := hid hb0; clear hb0
      have hA : ad.block < wr.heap.size := by omega
      have hs1 : w.heap.size + 1 < wr.heap.size := by omega
      have hx2 : (x : Int) < 64 := by omega
      have hy2 : (y : Int) < 64 := by omega
      go_wp2
      go_region
      rw [or_bit _ _ (HR.out.1 x) (by omega)]
      go_wp2
      go_roundw
      case rel =>
        refine ⟨k + 1, upd nxt x (nxt x ||| 2 ^ y), hlt, by go_num, ?_, NxtRel.step HR.out HX.out (by omega), ?_, by simp; omega, ?_⟩
        · have h := ((Hb1.out.set_ x (.int .u64 (nxt x ||| 2 ^ y : Nat))).alloc (.cells #[.int .i64 x, .int .i64 y] 56)).drew
          rw [linkCells_set_lo _ _ _ _ (by omega)] at h
          exact h
        · exact ((Hb0.out.far (by simp) _).alloc _).drew
        · exact ((hbw.setCell (by simp) _).alloc (by simp; omega) _).drew
      case measure => simp [intOf]; omega
    · have hkm : k = m := by omega
      subst hkm
      have hbit := HR.out
      rw [NxtRel, List.take_of_length_le (by rw [Hm.out]; exact Nat.le_refl _)] at hbit
      have HB : Hid (RchRel E 0 nxt) := ⟨hbit.1, fun i j => hbit.2 i j⟩
      clear hbit HR
      have r1 := range_lo hb1
      have r2 := there_hi hb1
      have hb0' := hb0.farCells (b := w.heap.size + 1) (Nat.ne_of_lt (Nat.lt_succ_self _)) (nl nxt) 64
      have hb1' := hb1.setCells (nl nxt) 64
      rw [nl_spl] at hb1'
      have hbw' := below_setCells (b := w.heap.size + 1) (Nat.le_succ _) (nl nxt) 64 hbw
      have hsz' := size_setCells (w.heap.size + 1) (nl nxt) 64 wr
      rw [← hsz'] at hsz
      clear hsz' hbw hb0 hb1
      generalize hw1 : wr.setCells (w.heap.size + 1) 64 (nl nxt) = w1 at *
      have HW := hid hw1; clear hw1
      have hN : w1.cell? ⟨w.heap.size, 0, none⟩ = some (.int .i64 n) := hb0'.cell 0
      have Hb1 := hid hb1'; clear hb1'
      have Hb0 := hid hb0'; clear hb0'
      go_wp2_with (first | ((with_reducible refine wpList_load_mid rfl 77 (.tmp 36) rfl (w.heap.size + 1) 0 ?hx (nl nxt) _ r1 Try.underlying77 rfl (size77l nxt) ?_); exact rfl) | ((with_reducible refine wpList_store_mid rfl 77 (.tmp 39) (.tmp 37) rfl (w.heap.size + 1) 64 (nl nxt).toArray ?hx2 ?hy2 (there_nl r2) (size77a nxt) (nl_one nxt) ?_); exact rfl; exact rfl; rw [List.toList_toArray, HW.out]))
      have HR := HB
      clear r1 r2 hN HW
      have hbw2 := hbw'; clear hbw'
      go_loopw [42] (fun i wr => ∃ (m : Nat) (rch : Nat → Nat), m ≤ n ∧ i = .int .i64 m ∧ Blk wr (w.heap.size + 1) 79 (LinkCells nxt rch) ∧ Hid (RchRel E m rch) ∧
          Blk wr w.heap.size 24 #[.int .i64 n, .slice A k c] ∧ w.heap.size + 2 ≤ wr.heap.size ∧ Below w.heap.size w wr) (fun i _ => n - (intOf i).toNat)
      case atStart => exact ⟨0, nxt, Nat.zero_le _, rfl, Hb1.out, HR, Hb0.out, hsz, hbw2⟩
      case round =>
        clear Hb1 Hb0 HR hsz hbw2
        obtain ⟨m, rch, hm, rfl, hb1, HR, hb0, hsz, hbw⟩ := hrel
        rename_i w2
        by_cases hlt : m < n
        · have hN : wr.cell? ⟨w.heap.size, 0, none⟩ = some (.int .i64 n) := hb0.cell 0
          have Hb1 := hid hb1; clear hb1
          have Hb0 := hid hb0; clear hb0
          go_wp2
          obtain ⟨wo, rfl⟩ : ∃ wo : World, wo = wr := ⟨_, rfl⟩
          go_loopw [47] (fun i wr => ∃ (j : Nat) (rch : Nat → Nat), j ≤ n ∧ i = .int .i64 j ∧ Blk wr (w.heap.size + 1) 79 (LinkCells nxt rch) ∧ Hid (RchIn E m j rch) ∧
              Blk wr w.heap.size 24 #[.int .i64 n, .slice A k c] ∧ w.heap.size + 2 ≤ wr.heap.size ∧ Below w.heap.size w wr) (fun i _ => n - (intOf i).toNat)
          case atStart => exact ⟨0, rch, Nat.zero_le _, rfl, Hb1.out, RchIn.start HR.out, Hb0.out, hsz, hbw⟩
          case round =>
            clear Hb1 Hb0 HR hsz hbw hN
            obtain ⟨j, rch, hj, rfl, hb1, HR, hb0, hsz, hbw⟩ := hrel
            by_cases hlj : j < n
            · have g1 := hb1.cell (64 + j)
              rw [linkCells_hi _ _ _ (by omega)] at g1
              have g2 := hb1.cell (64 + m)
              rw [linkCells_hi _ _ _ (by omega)] at g2
              have g3 := hb1.frozen (64 + j)
              have Hb1 := hid hb1; clear hb1
              have Hb0 := hid hb0; clear hb0
              have hj64 : (j : Int) < 64 := by omega
              have hm64 : (m : Int) < 64 := by omega
              cases hb : (rch j).testBit m with
              | true =>
                have ht : (bits BinOp.and IntKind.u64 ((rch j : Int) / 2 ^ m) 1 == 1) = true := by rw [bit_test _ _ (HR.out.1 j)]; exact hb
                have HB := hid hb; clear hb
                go_wp2
                go_region
                rw [u64_or_nat _ _ (HR.out.1 j) (HR.out.1 m)]
                go_wp2
                go_roundw
                case rel =>
                  refine ⟨j + 1, upd rch j (rch j ||| rch m), hlj, by go_num, ?_, RchIn.yes HR.out HB.out, ?_, by simp; omega, ?_⟩
                  · have h := (Hb1.out.set_ (64 + j) (.int .u64 (rch j ||| rch m : Nat))).drew
                    rw [linkCells_set_hi _ _ _ _ (by omega)] at h
                    exact h
                  · exact (Hb0.out.far (by simp) _).drew
                  · exact (hbw.setCell (by simp) _).drew
                case measure => simp [intOf]; omega
              | false =>
                have ht : (bits BinOp.and IntKind.u64 ((rch j : Int) / 2 ^ m) 1 == 1) = false := by rw [bit_test _ _ (HR.out.1 j)]; exact hb
                have HB := hid hb; clear hb
                go_wp2
                go_roundw
                case rel => exact ⟨j + 1, rch, hlj, by go_num, Hb1.out, RchIn.no HR.out HB.out, Hb0.out, hsz, hbw⟩
                case measure => simp [intOf]; omega
            · obtain rfl : j = n := by omega
              have Hb1 := hid hb1; clear hb1
              have Hb0 := hid hb0; clear hb0
              go_wp2
              go_roundw
              case rel => exact ⟨m + 1, rch, hlt, by go_num, Hb1.out, RchIn.done HO.out HR.out, Hb0.out, hsz, hbw⟩
              case measure => simp [intOf]; omega
        · obtain rfl : m = n := by omega
          have Hb1 := hid hb1; clear hb1
          have Hb0 := hid hb0; clear hb0
          go_wp2
          go_ret
          exact ⟨nxt, rch, rfl, Hb1.out, hbw, HB.out, HR.out⟩
end Go.Proofs.Ythehbamfjglodaa
