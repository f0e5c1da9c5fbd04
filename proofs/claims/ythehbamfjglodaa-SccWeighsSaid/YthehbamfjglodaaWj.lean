/-
  Walks: what Heaviest keeps.
-/
import Derived.Test.YthehbamfjglodaaWi
namespace Go.Proofs.Ythehbamfjglodaa
open Go.RowKit

/-- Cells of ints. -/
def IC (k : Nat) (f : Nat → Int) : Array Value := Array.ofFn (n := k) fun i => .int .i64 (f i)
theorem IC_get (k : Nat) (f : Nat → Int) (i : Nat) (h : i < k) : (IC k f)[i]? = some (.int .i64 (f i)) := by simp [IC, h]
def updI (f : Nat → Int) (i : Nat) (v : Int) : Nat → Int := fun k => if k = i then v else f k
theorem IC_set (k : Nat) (f : Nat → Int) (i : Nat) (v : Int) (h : i < k) : (IC k f).setIfInBounds i (.int .i64 v) = IC k (updI f i v) := by
  apply Array.ext_getElem?
  intro j
  rw [Array.getElem?_setIfInBounds]
  simp only [IC, updI, Array.getElem?_ofFn, Array.size_ofFn]
  by_cases h1 : i = j
  · subst h1; simp [h]
  · by_cases h2 : j < k <;> simp [h1, h2, Ne.symm h1]
theorem IC_start (k : Nat) : Array.replicate k (Value.int .i64 0) = IC k (fun _ => 0) := by
  apply Array.ext_getElem?
  intro j
  simp [IC, Array.getElem?_replicate, Array.getElem?_ofFn]
theorem IC_congr {k : Nat} {f g : Nat → Int} (h : ∀ i, i < k → f i = g i) : IC k f = IC k g := by
  apply Array.ext_getElem?
  intro j
  simp only [IC, Array.getElem?_ofFn]
  by_cases h2 : j < k
  · simp [h2, h j h2]
  · simp [h2]

def castL (l : List Nat) : List Int := l.map fun (x : Nat) => (x : Int)
/-- The three tables. -/
structure HInv (k : Nat) (w1 wr : World) (bo bb bc : Nat) (go : Nat → Int) (f : Best) : Prop where
  ob : Blk wr bo 3 (IC k go)
  bbk : Blk wr bb 3 (IC k fun x => (f x).1)
  cb : ∃ cs, Blk wr bc 25 cs ∧ cs.size = k ∧ ∀ x, x < k → ∃ u, cs[x]? = some u ∧ Ints wr (Iv (bc + 1) wr.heap.size) u (castL (f x).2)
  ne : bo ≠ bb ∧ bo < bc ∧ bb < bc
  low : w1.heap.size ≤ bo ∧ w1.heap.size ≤ bb
  below : Below w1.heap.size w1 wr
section
variable {k : Nat} {w1 wr w2 : World} {bo bb bc : Nat} {go : Nat → Int} {f : Best}
theorem HInv.bcLt (h : HInv k w1 wr bo bb bc go f) : bc < wr.heap.size := by obtain ⟨cs, h1, _⟩ := h.cb; exact h1.lt
theorem HInv.later (h : HInv k w1 wr bo bb bc go f) (hb : Below wr.heap.size wr w2) : HInv k w1 w2 bo bb bc go f := by
  obtain ⟨cs, h1, h2, h3⟩ := h.cb
  refine ⟨h.ob.below hb h.ob.lt, h.bbk.below hb h.bbk.lt, ⟨cs, h1.below hb h1.lt, h2, fun x hx => ?_⟩, h.ne, h.low, h.below.trans (hb.mono h.below.size)⟩
  obtain ⟨u, hu, hi⟩ := h3 x hx
  exact ⟨u, hu, (hi.same intE (sameOn_below hb iv_lt)).iv intE (Nat.le_refl _) hb.size⟩
theorem HInv.drew (h : HInv k w1 wr bo bb bc go f) : HInv k w1 wr.drew bo bb bc go f := h.later (Below.refl _ _).drew
theorem HInv.setOwn (h : HInv k w1 wr bo bb bc go f) {i : Nat} (hi : i < k) (v : Int) : HInv k w1 (wr.setCell ⟨bo, i, none⟩ (.int .i64 v)) bo bb bc (updI go i v) f := by
  obtain ⟨cs, h1, h2, h3⟩ := h.cb
  have hne := h.ne
  have e : (wr.setCell ⟨bo, i, none⟩ (.int .i64 v)).heap.size = wr.heap.size := by simp [World.setCell]
  refine ⟨?_, h.bbk.far (p := ⟨bo, i, none⟩) (Ne.symm hne.1) _, ⟨cs, h1.far (p := ⟨bo, i, none⟩) (by show bc ≠ bo; omega) _, h2, fun x hx => ?_⟩, h.ne, h.low, h.below.setCell (p := ⟨bo, i, none⟩) h.low.1 _⟩
  · have := h.ob.set_ i (.int .i64 v)
    rw [IC_set _ _ _ _ hi] at this
    exact this
  · obtain ⟨u, hu, hin⟩ := h3 x hx
    refine ⟨u, hu, ?_⟩
    rw [e]
    exact hin.same intE fun b hb => Below.heap_setCell _ _ _ _ (by have := hb.1; show b ≠ bo; omega)
theorem updB_fst (f : Best) (i : Nat) (v : Int) (l : List Nat) : (fun x => (updB f i (v, l) x).1) = updI (fun x => (f x).1) i v := by
  funext x; unfold updB updI; split <;> rfl
theorem HInv.put (h : HInv k w1 wr bo bb bc go f) {i : Nat} (hi : i < k) (v : Int) (l : List Nat) (u : Value) (hu : Ints wr (Iv (bc + 1) wr.heap.size) u (castL l)) :
    HInv k w1 ((wr.setCell ⟨bb, i, none⟩ (.int .i64 v)).setCell ⟨bc, i, none⟩ u) bo bb bc go (updB f i (v, l)) := by
  obtain ⟨cs, h1, h2, h3⟩ := h.cb
  have hne := h.ne
  have e : ((wr.setCell ⟨bb, i, none⟩ (.int .i64 v)).setCell ⟨bc, i, none⟩ u).heap.size = wr.heap.size := by simp [World.setCell]
  have hk : ∀ (u' : Value) (l' : List Int), Ints wr (Iv (bc + 1) wr.heap.size) u' l' → Ints ((wr.setCell ⟨bb, i, none⟩ (.int .i64 v)).setCell ⟨bc, i, none⟩ u) (Iv (bc + 1) wr.heap.size) u' l' := fun u' l' hl =>
    hl.same intE fun b hb => (Below.heap_setCell _ _ _ _ (by have := hb.1; show b ≠ bc; omega)).trans (Below.heap_setCell _ _ _ _ (by have := hb.1; show b ≠ bb; omega))
  refine ⟨(h.ob.far (p := ⟨bb, i, none⟩) hne.1 _).far (p := ⟨bc, i, none⟩) (by show bo ≠ bc; omega) _, ?_, ⟨cs.setIfInBounds i u, ?_, by simpa using h2, fun x hx => ?_⟩, h.ne, h.low,
    (h.below.setCell (p := ⟨bb, i, none⟩) h.low.2 _).setCell (p := ⟨bc, i, none⟩) (by show _ ≤ bc; have := h.low; omega) _⟩
  · have := (h.bbk.set_ i (.int .i64 v)).far (p := ⟨bc, i, none⟩) (by show bb ≠ bc; omega) u
    rw [IC_set _ _ _ _ hi] at this
    rw [updB_fst]
    exact this
  · exact (h1.far (p := ⟨bb, i, none⟩) (by show bc ≠ bb; omega) _).set_ i u
  · rw [e, Array.getElem?_setIfInBounds]
    by_cases hx2 : i = x
    · subst hx2
      rw [if_pos rfl, if_pos (by omega)]
      exact ⟨u, rfl, by unfold updB; rw [if_pos rfl]; exact hk _ _ hu⟩
    · rw [if_neg hx2]
      obtain ⟨u', hu', hin⟩ := h3 x hx
      exact ⟨u', hu', by unfold updB; rw [if_neg (Ne.symm hx2)]; exact hk _ _ hin⟩
/-- what the tables read as -/
theorem HInv.own_at (h : HInv k w1 wr bo bb bc go f) {i : Nat} (hi : i < k) : wr.cell? ⟨bo, i, none⟩ = some (.int .i64 (go i)) := by rw [h.ob.cell, IC_get _ _ _ hi]
theorem HInv.best_at (h : HInv k w1 wr bo bb bc go f) {i : Nat} (hi : i < k) : wr.cell? ⟨bb, i, none⟩ = some (.int .i64 (f i).1) := by rw [h.bbk.cell, IC_get _ _ _ hi]
theorem HInv.chain_at (h : HInv k w1 wr bo bb bc go f) {i : Nat} (hi : i < k) : ∃ A c, wr.cell? ⟨bc, i, none⟩ = some (.slice A (f i).2.length c) ∧ Ints wr (Iv (bc + 1) wr.heap.size) (.slice A (f i).2.length c) (castL (f i).2) := by
  obtain ⟨cs, h1, h2, h3⟩ := h.cb
  obtain ⟨u, hu, hin⟩ := h3 i hi
  obtain ⟨A, c, rfl, hc, hm, hat⟩ := hin
  have e : (castL (f i).2).length = (f i).2.length := by simp [castL]
  rw [e] at hu
  exact ⟨A, c, by rw [h1.cell]; exact hu, A, c, by rw [e], hc, hm, hat⟩
theorem HInv.own_fz (h : HInv k w1 wr bo bb bc go f) (i : Nat) : wr.frozen? ⟨bo, i, none⟩ = false := h.ob.frozen i
theorem HInv.best_fz (h : HInv k w1 wr bo bb bc go f) (i : Nat) : wr.frozen? ⟨bb, i, none⟩ = false := h.bbk.frozen i
theorem HInv.chain_fz (h : HInv k w1 wr bo bb bc go f) (i : Nat) : wr.frozen? ⟨bc, i, none⟩ = false := by obtain ⟨cs, h1, _⟩ := h.cb; exact h1.frozen i
end
end Go.Proofs.Ythehbamfjglodaa
