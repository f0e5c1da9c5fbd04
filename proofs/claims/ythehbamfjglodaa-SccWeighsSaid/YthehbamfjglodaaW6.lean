/-
  Walks: slices.Delete of one element, in a row of the call's own.
-/
import Derived.Test.YthehbamfjglodaaW5
import Derived.Deep.RegionLaw
import Derived.Lib.SliceRun
namespace Go.Proofs.Ythehbamfjglodaa
open Go.RowKit

theorem info25 : (Try.prog.info? 25).map (fun i => (i.zero, i.size, i.bytes)) = some (some (.slice none 0 0), 1, 24) := by kernel_rfl
theorem zero25 (w : World) : (zeroValue 25).run Try.prog w = .ok (.slice none 0 0) w := by kernel_rfl

/-- what is left of a row behind the deletion -/
theorem del_cells (cur : List Value) (n i : Nat) (hi : i < n) (hn : n ≤ cur.length) (z : Value) :
    (spl (spl cur.toArray i ((cur.take n).drop (i + 1))) (n - 1) [z]).toList.take (n - 1) = (cur.take n).eraseIdx i := by
  apply List.ext_getElem?
  intro k
  have hs : ∀ (m : Nat), (spl (spl cur.toArray i ((cur.take n).drop (i + 1))) (n - 1) [z]).toList[m]? = (spl (spl cur.toArray i ((cur.take n).drop (i + 1))) (n - 1) [z])[m]? := fun m => by simp
  rw [List.getElem?_take]
  by_cases hk : k < n - 1
  · rw [if_pos hk, hs, spl_get, if_neg (by omega), spl_get, List.getElem?_eraseIdx]
    by_cases hki : k < i
    · rw [if_neg (by omega), if_pos hki, List.getElem?_take, if_pos (by omega)]
      simp
    · rw [if_pos (by simp; omega), if_neg hki, List.getElem?_drop, show i + 1 + (k - i) = k + 1 by omega]
  · rw [if_neg hk, List.getElem?_eraseIdx, if_neg (by omega), List.getElem?_take, if_neg (by omega)]

set_option maxHeartbeats 1600000 in
set_option maxRecDepth 100000 in
theorem delete_some (g k cap i : Nat) (cur : List Value) (w : World) (hb : Blk w g 25 cur.toArray) (hi : i ≤ k) (hn : k < cap) (_hm : cap ≤ 9223372036854775807) (hcl : cur.length = cap) (h1 : ∀ u ∈ cur.take (k + 1), u.oneCell' = true) :
    Calls Try.prog 56 #[.slice (some ⟨g, 0, none⟩) (k + 1) cap, .int .i64 (i : Int), .int .i64 ((i : Int) + 1)] w fun e w' =>
      e = .returned (.slice (some ⟨g, 0, none⟩) k cap) ∧ w' = (w.drew.setCells g i ((cur.take (k + 1)).drop (i + 1))).setCells g k [.slice none 0 0] := by
  obtain ⟨i0, hi0, hz0, hz1, hz2⟩ := info_parts info25
  have s0 : ((cur.take (k + 1)).drop (i + 1)).length = k - i := by simp; omega
  obtain ⟨A, hA, hnews⟩ : ∃ A : Addr, (if cap = i + 1 then some (⟨g, 0, none⟩ : Addr) else some ⟨g, i + 1, none⟩) = some A ∧ Hid (∀ j u, ((cur.take (k + 1)).drop (i + 1))[j]? = some u → w.drew.cell? (A.add j) = some u) := by
    by_cases h : cap = i + 1
    · refine ⟨⟨g, 0, none⟩, by simp [h], fun j u hu => ?_⟩
      have h0 : ((cur.take (k + 1)).drop (i + 1)) = [] := List.eq_nil_of_length_eq_zero (by rw [s0]; omega)
      rw [h0] at hu
      simp at hu
    · refine ⟨⟨g, i + 1, none⟩, by simp [h], fun j u hu => ?_⟩
      rw [List.getElem?_drop, List.getElem?_take] at hu
      split at hu
      · rw [Addr.add_lit]
        refine (hb.drew.cell (i + 1 + j)).trans ?_
        simpa using hu
      · cases hu
  have s1 : Hid (((cur.take (k + 1)).drop (i + 1)).length = (k - i) * 1) := by rw [Nat.mul_one]; exact s0
  have s2 : Hid (∀ u ∈ (cur.take (k + 1)).drop (i + 1), u.oneCell' = true) := fun u hu => h1 u (List.mem_of_mem_drop hu)
  have hcell : ∀ (W : World) (cs : Array Value) (m : Nat), Blk W g 25 cs → m < cs.size → (W.cell? ⟨g, m, none⟩).isSome = true ∧ W.frozen? ⟨g, m, none⟩ = false := fun W cs m hB hlt => ⟨by rw [hB.cell, Array.getElem?_eq_getElem hlt]; rfl, hB.frozen m⟩
  have s3 : Hid (∀ j, j < ((cur.take (k + 1)).drop (i + 1)).length → (w.drew.cell? ⟨g, 0 + i * 1 + j, none⟩).isSome = true ∧ w.drew.frozen? ⟨g, 0 + i * 1 + j, none⟩ = false) := by
    intro j hj
    rw [s0] at hj
    rw [Nat.mul_one, Nat.zero_add]
    exact hcell w.drew _ (i + j) hb.drew (by simp; omega)
  generalize hM : (cur.take (k + 1)).drop (i + 1) = M at *
  have hb2 : Blk (w.drew.setCells g i M) g 25 (spl cur.toArray i M) := hb.drew.setCells M i
  have hsz : (spl cur.toArray i M).size = cap := by
    have : ∀ (vs : List Value) (cs : Array Value) (o : Nat), (spl cs o vs).size = cs.size := by
      intro vs; induction vs with
      | nil => intro cs o; rfl
      | cons v r ih => intro cs o; simp [spl, ih]
    rw [this]; simpa using hcl
  obtain ⟨W1, hW1⟩ : ∃ W1, W1 = w.drew.setCells g (0 + i * 1) M := ⟨_, rfl⟩
  have hW2 := hW1
  rw [Nat.mul_one, Nat.zero_add] at hW2
  rw [← hW2] at hb2
  have hclr := fun ty => Lib.run_clear_slice (P := Try.prog) W1 52 25 ty (.slice none 0 0) Try.underlying52 zero25 rfl rfl g k 1 (cap - k) (by omega)
    (fun j hj => (hcell _ _ (k + j) hb2 (by omega)).1) (fun j hj => (hcell _ _ (k + j) hb2 (by omega)).2)
  have hic : i ≤ cap := by omega
  have hp0 : (0 : Int) ≤ (i : Int) + 1 := by omega
  have hp1 : (i : Int) + 1 ≤ (k : Int) + 1 := by omega
  have hp2 : ((i : Int) + 1).toNat = i + 1 := by omega
  have hne : (((i : Int) == (i : Int) + 1) = false) := by simp; omega
  have hek : i + (k - i) = k := by omega
  have HE := hid hek; clear hek
  clear hb hcell hb2 hsz h1
  have HM := hid hM; clear hM
  have S0 := hid s0; clear s0
  have HW1 := hid hW1; clear hW1
  have HW2 := hid hW2; clear hW2
  go_enter Try.func56, Try.ntmps56
  go_upto_region 5 with (fail)
  go_region_law (refine step_append_room rfl (.tmp 22) (.tmp 25) 52 rfl 25 i0 1 Try.underlying52 hi0 hz1 g 0 i cap (by simp [Act.eval, Act.put]) A (k - i) (cap - (i + 1)) M (by simp [Act.eval, Act.put]) s1.out hnews.out s2.out (by omega) s3.out ?_; rw [← HW1.out, HE.out])
  go_wp2
  go_ret
  refine ⟨rfl, ?_⟩
  rw [← HW2.out]

theorem spl_size (vs : List Value) : ∀ (cs : Array Value) (o : Nat), (spl cs o vs).size = cs.size := by
  induction vs with
  | nil => intro cs o; rfl
  | cons v r ih => intro cs o; simp [spl, ih]
theorem grown_setCells (g : Nat) (vs : List Value) : ∀ (o : Nat) (w : World), w.grownBy (w.setCells g o vs) (some g) := by
  induction vs with
  | nil => intro o w; exact ⟨rfl, rfl, rfl, Nat.le_refl _, fun _ _ _ => rfl⟩
  | cons v r ih =>
    intro o w
    have h := ih (o + 1) (w.setCell ⟨g, o, none⟩ v)
    exact ⟨h.os, h.tape, h.output, Nat.le_trans (by simp [World.setCell]) h.size, fun k hk hne => (h.block k (by simpa [World.setCell] using hk) hne).trans (Below.heap_setCell _ _ _ _ (fun e => hne (by rw [e])))⟩
theorem grown_trans {a b c : World} {row : Option Nat} (h : a.grownBy b row) (k : b.grownBy c row) : a.grownBy c row :=
  ⟨k.os.trans h.os, k.tape.trans h.tape, k.output.trans h.output, Nat.le_trans h.size k.size, fun i hi hne => (k.block i (by have := h.size; omega) hne).trans (h.block i hi hne)⟩

/-- Deleting an element of a row of the call's own. -/
theorem delete_own (v : Value) (us : List Value) (i : Nat) (w : World) (ho : Own w 25 1 v us.length us) (hi : i < us.length) (hc : ∀ u ∈ us, u.oneCell' = true) :
    Calls Try.prog 56 #[v, .int .i64 (i : Int), .int .i64 ((i : Int) + 1)] w fun e w' =>
      ∃ v', e = .returned v' ∧ Own w' 25 1 v' (us.eraseIdx i).length (us.eraseIdx i) ∧ v'.ownBlock = v.ownBlock ∧ w.grownBy w' v.ownBlock ∧ w'.heap.size = w.heap.size := by
  rcases ho.2 with ⟨rfl, h0⟩ | ⟨g, cap, cur, rfl, _, hgg, hnc, hcm, hcs, htake⟩
  · omega
  · obtain ⟨k, hk⟩ : ∃ k, us.length = k + 1 := ⟨us.length - 1, by omega⟩
    have hb : Blk w g 25 cur.toList.toArray := by simpa [Blk] using hgg
    rw [hk]
    refine (delete_some g k cap i cur.toList w hb (by omega) (by omega) (by simpa [maxLen] using hcm) (by simpa using hcs) (by rw [← hk, ← Nat.mul_one us.length, htake]; exact hc)).mono ?_
    rintro e w' ⟨rfl, hw'⟩
    have hb1 := hb.drew.setCells ((cur.toList.take (k + 1)).drop (i + 1)) i
    have hb2 := hb1.setCells [.slice none 0 0] k
    have hd := del_cells cur.toList (k + 1) i (by omega) (by simp; omega) (.slice none 0 0)
    have ht : cur.toList.take (k + 1) = us := by rw [← htake, hk, Nat.mul_one]
    have hl : (us.eraseIdx i).length = k := by rw [List.length_eraseIdx, if_pos hi, hk]; rfl
    rw [ht] at hd hb1 hb2 hw'
    rw [← hw'] at hb2
    refine ⟨_, rfl, ?_, rfl, ?_, ?_⟩
    · refine ⟨by simp, .inr ⟨g, cap, _, by rw [hl], Nat.zero_le _, hb2, by omega, hcm, by rw [spl_size, spl_size]; simpa using hcs, ?_⟩⟩
      rw [hl, Nat.mul_one]
      exact hd
    · rw [hw']
      refine grown_trans (b := w.drew.setCells g i (us.drop (i + 1))) ?_ (grown_setCells g _ k _)
      have h := grown_setCells g (us.drop (i + 1)) i w.drew
      exact ⟨h.os, h.tape, h.output, h.size, h.block⟩
    · rw [hw', size_setCells, size_setCells]; rfl
end Go.Proofs.Ythehbamfjglodaa
