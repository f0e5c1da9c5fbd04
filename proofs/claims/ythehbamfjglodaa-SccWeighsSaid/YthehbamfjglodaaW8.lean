/-
  Walks: scc.made.
-/
import Derived.Test.YthehbamfjglodaaW6
import Derived.Test.YthehbamfjglodaaW7
import Derived.Test.YthehbamfjglodaaMem2
import Derived.Deep.RegionLaw
import Derived.StillTailTactics
import Derived.Deep.RegionHeld3
import Derived.Deep.DeepCutAuto
import Derived.Deep.CutBlock
import Derived.Deep.LoopGhost
namespace Go.Proofs.Ythehbamfjglodaa
open Go.RowKit
attribute [local go_sem ↓] run_execOp_app

set_option maxRecDepth 100000 in
set_option maxHeartbeats 400000 in
theorem made36_bad (N : Int) (v : Value) (E : EdgeL) (w : World) (hE : Edges w (Iv 0 w.heap.size) v E) (hbad : (checkL N E).1 ≠ 0) :
    Calls Try.prog 36 #[.agg #[.int .i64 N, v]] w fun e w' => e = .returned (.tuple #[.pointer none, .int .i64 (checkL N E).1]) ∧ Below w.heap.size w w' := by
  have h1 : Below w.heap.size w (w.alloc (.cells #[.int .i64 N, v] 24)) := (Below.refl _ _).alloc (Nat.le_refl _) _
  have hc := check26 N v E (w.alloc (.cells #[.int .i64 N, v] 24)) ((hE.same edgeE (sameOn_below h1 iv_lt)).iv edgeE (Nat.le_refl _) (by simp))
  have HC := hid hc; clear hc
  have hne : (((checkL N E).1 != 0) = true) := by simpa using hbad
  obtain ⟨A, m, c, rfl, hm, hmc, hcc, rE⟩ := hE.open_; clear hE hm
  generalize hX : checkL N E = X at *
  obtain ⟨er, ix⟩ := X
  clear hX hbad
  simp only [] at hne HC ⊢
  go_enter Try.func36, Try.ntmps36
  go_wp2_with (go_at_call 26; refine HC.out.mono ?_; rintro e w1 ⟨rfl, hb1⟩)
  go_ret2
  exact ⟨rfl, h1.trans (hb1.mono (by simp))⟩

/-- The memory behind '&graph{..}': the variable g, the struct, its links, its 'part'. -/
def Start (w wx : World) (n : Nat) (E : EdgeL) (bg g l bp : Nat) : Prop :=
  ∃ nxt rch, Blk wx bg 64 #[.pointer (some ⟨g, 0, none⟩)] ∧ Blk wx g 69 #[.pointer (some ⟨l, 0, none⟩), .int .i64 n, .slice none 0 0, .slice (some ⟨bp, 0, none⟩) n n] ∧ Blk wx l 79 (LinkCells nxt rch) ∧
    Blk wx bp 3 (Array.replicate n (.int .i64 0)) ∧ w.heap.size ≤ bg ∧ w.heap.size ≤ g ∧ w.heap.size ≤ l ∧ w.heap.size ≤ bp ∧ Below w.heap.size w wx ∧ RchRel E 0 nxt ∧ RchRel E n rch

theorem start_rel {w wx : World} {n : Nat} {E : EdgeL} {bg g l bp : Nat} {nxt rch : Nat → Nat} (h1 : Blk wx bg 64 #[.pointer (some ⟨g, 0, none⟩)])
    (h2 : Blk wx g 69 #[.pointer (some ⟨l, 0, none⟩), .int .i64 n, .slice none 0 0, .slice (some ⟨bp, 0, none⟩) n n]) (h3 : Blk wx l 79 (LinkCells nxt rch)) (h4 : Blk wx bp 3 (Array.replicate n (.int .i64 0)))
    (h5 : w.heap.size ≤ bg) (h6 : w.heap.size ≤ g) (h7 : w.heap.size ≤ l) (h8 : w.heap.size ≤ bp) (h9 : Below w.heap.size w wx) (h10 : RchRel E 0 nxt) (h11 : RchRel E n rch) :
    ∃ bg' g' l' bp' : Nat, Value.pointer (some ⟨bg, 0, none⟩) = .pointer (some ⟨bg', 0, none⟩) ∧ Start w wx n E bg' g' l' bp' :=
  ⟨bg, g, l, bp, rfl, nxt, rch, h1, h2, h3, h4, h5, h6, h7, h8, h9, h10, h11⟩

def PartCells (n : Nat) (f : Nat → Nat) : Array Value := Array.ofFn (n := n) fun i => .int .i64 (f i : Nat)
theorem partCells_get (n : Nat) (f : Nat → Nat) (i : Nat) (h : i < n) : (PartCells n f)[i]? = some (.int .i64 (f i : Nat)) := by simp [PartCells, h]
theorem partCells_set (n : Nat) (f : Nat → Nat) (i v : Nat) (h : i < n) : (PartCells n f).setIfInBounds i (.int .i64 (v : Nat)) = PartCells n (upd f i v) := by
  apply Array.ext_getElem?
  intro k
  rw [Array.getElem?_setIfInBounds]
  simp only [PartCells, upd, Array.getElem?_ofFn, Array.size_ofFn]
  by_cases h1 : i = k
  · subst h1; simp [h]
  · by_cases h2 : k < n <;> simp [h1, h2, Ne.symm h1]
theorem partCells_start (n : Nat) : Array.replicate n (Value.int .i64 0) = PartCells n (fun _ => 0) := by
  apply Array.ext_getElem?
  intro k
  simp [PartCells, Array.getElem?_replicate, Array.getElem?_ofFn]

/-- The blocks in which the components lie. -/
def Sg (A B : Nat) (OB : Option Nat) : Reg := fun b => A ≤ b ∧ b < B ∧ some b ≠ OB
/-- a row of components: the heads hs, each read as its component -/
def RowOf (E : EdgeL) (n : Nat) (w : World) (S : Reg) (v : Value) (us : List Value) (hs : List Nat) : Prop :=
  Own w 25 1 v us.length us ∧ us.length = hs.length ∧ ∀ (j : Nat) (u : Value) (h : Nat), us[j]? = some u → hs[j]? = some h → Ints w S u (compI E n h)
/-- What the main loop of 'made' keeps. -/
structure MInv (E : EdgeL) (n : Nat) (w wr : World) (A B bL bg g l bp : Nat) (OB : Option Nat) (nxt rch pf : Nat → Nat) (vL vP : Value) (us ps : List Value) (hs ds : List Nat) : Prop where
  bLc : Blk wr bL 52 #[vL]
  bgc : Blk wr bg 64 #[.pointer (some ⟨g, 0, none⟩)]
  gc : Blk wr g 69 #[.pointer (some ⟨l, 0, none⟩), .int .i64 n, vP, .slice (some ⟨bp, 0, none⟩) n n]
  lc : Blk wr l 79 (LinkCells nxt rch)
  bpc : Blk wr bp 3 (PartCells n pf)
  left : RowOf E n wr (Sg A B OB) vL us hs
  obL : vL.ownBlock = OB
  parts : RowOf E n wr (Sg A B OB) vP ps ds
  obP : ∀ b, vP.ownBlock = some b → B ≤ b
  low : w.heap.size ≤ bg ∧ w.heap.size ≤ g ∧ w.heap.size ≤ l ∧ w.heap.size ≤ bp
  bound : bg < A ∧ g < A ∧ l < A ∧ bp < A ∧ A ≤ B ∧ B ≤ bL ∧ ∀ b, OB = some b → A ≤ b ∧ b < B
  below : Below w.heap.size w wr
  split : Split E n hs ds
  part : PartOk E n ds pf

theorem minv_start {E : EdgeL} {n : Nat} {w wc w3 : World} {bg g l bp : Nat} {nxt rch : Nat → Nat} {vL : Value} {us : List Value} (hbg : Blk wc bg 64 #[.pointer (some ⟨g, 0, none⟩)])
    (hg : Blk wc g 69 #[.pointer (some ⟨l, 0, none⟩), .int .i64 n, .slice none 0 0, .slice (some ⟨bp, 0, none⟩) n n]) (hl : Blk wc l 79 (LinkCells nxt rch)) (hbp : Blk wc bp 3 (Array.replicate n (.int .i64 0)))
    (hlow : w.heap.size ≤ bg ∧ w.heap.size ≤ g ∧ w.heap.size ≤ l ∧ w.heap.size ≤ bp) (hbw : Below w.heap.size w wc) (hco : CompsOut E n w3 vL us wc.heap.size (heads E n)) (hb3 : Below wc.heap.size wc w3) :
    MInv E n w (w3.alloc (.cells #[vL] 52)) wc.heap.size w3.heap.size w3.heap.size bg g l bp vL.ownBlock nxt rch (fun _ => 0) vL (.slice none 0 0) us [] (heads E n) [] := by
  have hal : SameOn (Iv 0 w3.heap.size) w3 (w3.alloc (.cells #[vL] 52)) := sameOn_below ((Below.refl _ _).alloc (Nat.le_refl _) _) iv_lt
  have h4 : Below wc.heap.size wc (w3.alloc (.cells #[vL] 52)) := hb3.alloc hb3.size _
  refine { bLc := Blk.new _ _ _, bgc := hbg.below h4 hbg.lt, gc := hg.below h4 hg.lt, lc := hl.below h4 hl.lt, bpc := ?_, left := ⟨hco.1.alloc _, hco.2.1, ?_⟩, obL := rfl, parts := ⟨World.ownsRow_nil _ _ _ _, rfl, fun j u h hu => (by simp at hu)⟩, obP := fun b hb => (by simp [Value.ownBlock] at hb), low := hlow, bound := ⟨hbg.lt, hg.lt, hl.lt, hbp.lt, hb3.size, Nat.le_refl _, fun b hb => ⟨hco.2.2.1 b hb, own_lt hco.1 hb⟩⟩, below := hbw.trans (h4.mono hbw.size), split := Split.start E n, part := fun x _ j h hj => (by simp at hj) }
  · rw [← partCells_start]; exact hbp.below h4 hbp.lt
  · intro j u h hu hh
    exact ((hco.2.2.2 j u h hu hh).same intE (fun b hb => hal b ⟨Nat.zero_le _, hb.2.1⟩)).more intE (fun b hb => ⟨hb.1, hb.2.1, hb.2.2⟩)
theorem sg_lt {A B : Nat} {OB : Option Nat} : ∀ b, Sg A B OB b → b < B := fun _ h => h.2.1
theorem MInv.headsAt {E : EdgeL} {n : Nat} {w wr : World} {A B bL bg g l bp : Nat} {OB : Option Nat} {nxt rch pf : Nat → Nat} {vL vP : Value} {us ps : List Value} {hs ds : List Nat}
    (h : MInv E n w wr A B bL bg g l bp OB nxt rch pf vL vP us ps hs ds) (hn : n ≤ 64) : HeadsAt wr (Iv 0 wr.heap.size) us hs := by
  refine ⟨h.left.2.1, fun j u x hu hx => ?_⟩
  have hi := h.left.2.2 j u x hu hx
  have hm := heads_lt (h.split.sub.subset (List.mem_of_getElem? hx))
  have h0 := compI_first hm.2 hm.1
  obtain ⟨A', c', rfl, hlc, hcm, hat⟩ := hi
  have hl := (List.getElem?_eq_some_iff.1 h0).1
  obtain ⟨ad, rfl, hs, hr⟩ := hat hl
  have hcell := hr 0 _ h0
  have hBs : B ≤ wr.heap.size := by have := h.bLc.lt; have := h.bound; omega
  refine ⟨⟨ad, _, c', rfl, hl, hlc, ⟨Nat.zero_le _, by have := hs.2.1; omega⟩, ?_⟩, by omega⟩
  have e : ad.add (0 * 1) = ad := by simp [Addr.add]
  rw [e] at hcell
  exact hcell

section
variable {E : EdgeL} {n : Nat} {w wr w4 : World} {A B bL bg g l bp : Nat} {OB : Option Nat} {nxt rch pf : Nat → Nat} {vL vP : Value} {us ps : List Value} {hs ds : List Nat}
theorem RowOf.keep {S : Reg} {v : Value} (h : RowOf E n wr S v us hs) (hS : SameOn S wr w4) (ho : ∀ b, v.ownBlock = some b → w4.heap[b]? = wr.heap[b]?) : RowOf E n w4 S v us hs :=
  ⟨own_keep h.1 ho, h.2.1, fun j u x hu hx => (h.2.2 j u x hu hx).same intE hS⟩
theorem MInv.bLt (h : MInv E n w wr A B bL bg g l bp OB nxt rch pf vL vP us ps hs ds) : B ≤ wr.heap.size := by have := h.bLc.lt; have := h.bound; omega
theorem MInv.later (h : MInv E n w wr A B bL bg g l bp OB nxt rch pf vL vP us ps hs ds) (hb : Below wr.heap.size wr w4) : MInv E n w w4 A B bL bg g l bp OB nxt rch pf vL vP us ps hs ds :=
  { h with
    bLc := h.bLc.below hb h.bLc.lt, bgc := h.bgc.below hb h.bgc.lt, gc := h.gc.below hb h.gc.lt, lc := h.lc.below hb h.lc.lt, bpc := h.bpc.below hb h.bpc.lt
    left := h.left.keep (fun b hs => hb.block b (by have := hs.2.1; have := h.bLt; omega)) (fun b hv => hb.block b (own_lt h.left.1 hv))
    parts := h.parts.keep (fun b hs => hb.block b (by have := hs.2.1; have := h.bLt; omega)) (fun b hv => hb.block b (own_lt h.parts.1 hv))
    below := h.below.trans (hb.mono h.below.size) }
theorem MInv.gAt (h : MInv E n w wr A B bL bg g l bp OB nxt rch pf vL vP us ps hs ds) : GAt wr (Iv 0 wr.heap.size) g l n nxt rch :=
  ⟨⟨Nat.zero_le _, h.gc.lt⟩, ⟨Nat.zero_le _, h.lc.lt⟩, h.gc.cell 0, h.gc.cell 1, fun i hi => (h.lc.cell i).trans (linkCells_lo _ _ _ hi), fun i hi => (h.lc.cell (64 + i)).trans (linkCells_hi _ _ _ hi)⟩
theorem own_vals {v : Value} (h : Own wr 25 1 v us.length us) : Sl 1 ValE wr (Iv 0 wr.heap.size) v us := by
  rcases h.2 with ⟨rfl, h0⟩ | ⟨g, cap, cur, rfl, _, hgg, hnc, hcm, hcs, htake⟩
  · have : us = [] := List.eq_nil_of_length_eq_zero h0
    subst this
    exact Sl.nil_ wr _
  · refine ⟨_, cap, rfl, hnc, by simpa [maxLen] using hcm, fun hp => ⟨_, rfl, ⟨Nat.zero_le _, own_lt h rfl⟩, fun j x hx => ?_⟩⟩
    have := h.cells (g := g) rfl j x hx
    rw [Nat.mul_one]; exact this
theorem MInv.search (h : MInv E n w wr A B bL bg g l bp OB nxt rch pf vL vP us ps hs ds) (hn : n ≤ 64) (hok : Ok n E) (hr : RchRel E n rch) (hne : 0 < us.length) :
    ∃ i : Nat, pickIx E n hs = i ∧ i < us.length ∧ Calls Try.prog 55 #[vL, .func (.func 52) #[] #[.pointer (some ⟨bL, 0, none⟩), .pointer (some ⟨bg, 0, none⟩)]] wr fun e w' =>
      e = .returned (.int .i64 (i : Int)) ∧ Below wr.heap.size wr w' := by
  obtain ⟨i, hi, hil, hmin⟩ := pick_spec hok (hs := hs) (by rintro rfl; have := h.left.2.1; simp at this; simp [this] at hne) (fun x hx => (heads_lt (h.split.sub.subset hx)).2)
  refine ⟨i, hi, by rw [h.left.2.1]; exact hil, ?_⟩
  have hpred : PredOn 52 (.pointer (some ⟨bL, 0, none⟩)) (.pointer (some ⟨bg, 0, none⟩)) us (fun j => freeAt E n hs (hs[j]?.getD 0)) wr := by
    intro j u w1 hu hb
    have h1 := h.later hb
    have hH := h1.headsAt hn
    have hjl : j < hs.length := by rw [← h.left.2.1]; exact (List.getElem?_eq_some_iff.1 hu).1
    have hj := hH.2 j u _ hu (List.getElem?_eq_getElem hjl)
    have e : hs[j]?.getD 0 = hs[j] := by simp [hjl]
    simp only [e]
    exact free52 u vL us hs bL bg g l n n hs[j] E nxt rch w1 hj.1 hj.2 (own_vals h1.left.1) hH (h1.bLc.cell 0) (h1.bgc.cell 0) h1.bLc.lt h1.bgc.lt h1.gAt hr
  have hc := indexFunc55 52 (.inl rfl) vL _ _ us _ wr (own_vals h.left.1) hpred
  rw [h.left.2.1] at hc
  rw [show findIx (fun j => freeAt E n hs (hs[j]?.getD 0)) hs.length = (i : Int) from hi] at hc
  exact hc
end

theorem own_elem {w : World} {e n c i : Nat} {ad : Addr} {us : List Value} (h : Own w e 1 (.slice (some ad) n c) us.length us) (hi : i < us.length) : w.cell? (ad.add i) = some us[i] := by
  rcases h.2 with ⟨h0, _⟩ | ⟨g, cap, cur, hv, _, _⟩
  · cases h0
  · have hv' : some ad = some ⟨g, 0, none⟩ := by injection hv
    injection hv' with hv'
    subst hv'
    exact h.cells (g := g) rfl i us[i] (List.getElem?_eq_getElem hi)

/-- What the inner loop of 'made' keeps: behind q nodes of the component of h. -/
def PIn (E : EdgeL) (n h d bp q : Nat) (pf : Nat → Nat) (w wo wi : World) : Prop :=
  ∃ pf', Blk wi bp 3 (PartCells n pf') ∧ (∀ x, x < n → pf' x = if x ∈ (comp E n h).take q then d else pf x) ∧ (∀ b, b < wo.heap.size → b ≠ bp → wi.heap[b]? = wo.heap[b]?) ∧
    wi.heap.size = wo.heap.size ∧ Below w.heap.size w wi

theorem PIn.step {E : EdgeL} {n h d bp q k : Nat} {pf : Nat → Nat} {w wo wi : World} (hp : PIn E n h d bp q pf w wo wi) (hq : (comp E n h)[q]? = some k) (hk : k < n) (hbp : w.heap.size ≤ bp) :
    PIn E n h d bp (q + 1) pf w wo (wi.setCell ⟨bp, k, none⟩ (.int .i64 (d : Nat))) := by
  obtain ⟨pf', h1, h2, h3, h4, h5⟩ := hp
  refine ⟨upd pf' k d, ?_, fun x hx => ?_, fun b hb hne => (Below.heap_setCell _ _ _ _ hne).trans (h3 b hb hne), by simpa [World.setCell] using h4, h5.setCell hbp _⟩
  · rw [← partCells_set _ _ _ _ hk]; exact h1.set_ _ _
  · rw [List.take_add_one, hq]
    simp only [Option.toList, List.mem_append, List.mem_singleton, upd]
    by_cases hxk : x = k
    · simp [hxk]
    · simp only [hxk, if_false, or_false]; exact h2 x hx
theorem PIn.cell {E : EdgeL} {n h d bp q : Nat} {pf : Nat → Nat} {w wo wi : World} (hp : PIn E n h d bp q pf w wo wi) {p : Addr} {v : Value} (hc : wo.cell? p = some v) (hne : p.block ≠ bp) : wi.cell? p = some v := by
  obtain ⟨pf', h1, h2, h3, h4, h5⟩ := hp
  exact (World.cell?_of_block (h3 p.block (lt_of_cell hc) hne)).trans hc

theorem PIn.drew {E : EdgeL} {n h d bp q : Nat} {pf : Nat → Nat} {w wo wi : World} (hp : PIn E n h d bp q pf w wo wi) : PIn E n h d bp q pf w wo wi.drew := by
  obtain ⟨pf', h1, h2, h3, h4, h5⟩ := hp
  exact ⟨pf', h1, h2, h3, h4, h5.drew⟩
theorem MInv.inner {E : EdgeL} {n : Nat} {w wr wi : World} {A B bL bg g l bp i : Nat} {OB : Option Nat} {nxt rch pf : Nat → Nat} {vL vP : Value} {us ps : List Value} {hs ds : List Nat}
    (h : MInv E n w wr A B bL bg g l bp OB nxt rch pf vL vP us ps hs ds) (hok : Ok n E) (hi : i < hs.length) (hp : PIn E n hs[i] ps.length bp (comp E n hs[i]).length pf w wr wi) :
    ∃ pf', MInv E n w wi A B bL bg g l bp OB nxt rch pf' vL vP us ps hs ds ∧ PartOk E n (ds ++ [hs[i]]) pf' ∧ wi.heap.size = wr.heap.size := by
  obtain ⟨pf', h1, h2, h3, h4, h5⟩ := hp
  have hpl : ps.length = ds.length := h.parts.2.1
  have hhd := (heads_lt (h.split.sub.subset (List.getElem_mem hi))).2
  have hnd : hs[i] ∉ ds := fun hm => h.split.apart _ hm (List.getElem_mem hi)
  have e : ∀ x, x < n → pf' x = if tog E n hs[i] x = true then ds.length else pf x := fun x hx => by
    rw [h2 x hx, List.take_length, hpl]
    by_cases ht : tog E n hs[i] x = true
    · rw [if_pos (mem_comp.2 ⟨hx, ht⟩), if_pos ht]
    · rw [if_neg (fun hm => ht (mem_comp.1 hm).2), if_neg ht]
  have hnew := h.part.step (pf' := pf') hok hhd (fun d hd => (heads_lt (h.split.old d hd)).2) hnd (fun x hx ht => by rw [e x hx, if_pos ht]) (fun x hx ht => by rw [e x hx, if_neg (by simp [ht])])
  have hb := h.bLt
  have hbd := h.bound
  refine ⟨pf', { h with bLc := (h3 bL h.bLc.lt (blk_ne h.bLc h.bpc (by decide))).trans h.bLc, bgc := (h3 bg h.bgc.lt (blk_ne h.bgc h.bpc (by decide))).trans h.bgc, gc := (h3 g h.gc.lt (blk_ne h.gc h.bpc (by decide))).trans h.gc, lc := (h3 l h.lc.lt (blk_ne h.lc h.bpc (by decide))).trans h.lc, bpc := h1, left := h.left.keep (fun b hs => h3 b (by have := hs.2.1; omega) (by have := hs.1; omega)) (fun b hv => h3 b (own_lt h.left.1 hv) (by have := hbd.2.2.2.2.2.2 b (by rw [← h.obL]; exact hv); omega)), parts := h.parts.keep (fun b hs => h3 b (by have := hs.2.1; omega) (by have := hs.1; omega)) (fun b hv => h3 b (own_lt h.parts.1 hv) (by have := h.obP b hv; omega)), below := h5, part := fun x hx j d hj => hnew x hx j d (by rw [List.getElem?_append_left (List.getElem?_eq_some_iff.1 hj).1]; exact hj) }, hnew, h4⟩

theorem MInv.next {E : EdgeL} {n : Nat} {w wr w5 w7 : World} {A B bL bg g l bp i : Nat} {OB : Option Nat} {nxt rch pf : Nat → Nat} {vL vP v5 v7 u : Value} {us ps : List Value} {hs ds : List Nat}
    (h : MInv E n w wr A B bL bg g l bp OB nxt rch pf vL vP us ps hs ds) (hi : i < hs.length) (hpi : pickIx E n hs = i) (hpart : PartOk E n (ds ++ [hs[i]]) pf) (hu : us[i]? = some u)
    (hg5 : (wr.alloc (.cells #[u] 25)).drew.grownBy w5 vP.ownBlock) (ho5 : Own w5 25 1 v5 (ps.length + 1) (ps ++ [u])) (hb5 : v5.ownBlock = vP.ownBlock ∨ v5.ownBlock = some (wr.alloc (.cells #[u] 25)).drew.heap.size)
    (hg7 : (w5.setCell ⟨g, 2, none⟩ v5).grownBy w7 OB) (ho7 : Own w7 25 1 v7 (us.eraseIdx i).length (us.eraseIdx i)) (hob7 : v7.ownBlock = OB) :
    MInv E n w (w7.setCell ⟨bL, 0, none⟩ v7) A B bL bg g l bp OB nxt rch pf v7 v5 (us.eraseIdx i) (ps ++ [u]) (hs.eraseIdx i) (ds ++ [hs[i]]) := by
  have hbd := h.bound
  have hB := h.bLt
  have hbLl := h.bLc.lt
  have hs5 := hg5.size
  have hs7 := hg7.size
  have hs5' : wr.heap.size + 1 ≤ w5.heap.size := by simpa using hs5
  have hs7' : w5.heap.size ≤ w7.heap.size := by simpa [World.setCell] using hs7
  have hPb : ∀ b, vP.ownBlock = some b → b ≠ bL := fun b hv => by
    rintro rfl
    rcases h.parts.1.2 with ⟨h0, _⟩ | ⟨gp, cap, cur, hvv, _, hgg, _⟩
    · rw [h0] at hv; simp [Value.ownBlock] at hv
    · rw [hvv] at hv
      have hv' : gp = b := by simpa [Value.ownBlock] using hv
      subst hv'
      exact blk_ne hgg h.bLc (by decide) rfl
  have h5b : ∀ b, v5.ownBlock = some b → B ≤ b ∧ b ≠ bL := fun b hv => by
    rcases hb5 with e | e
    · exact ⟨h.obP b (e.symm.trans hv), hPb b (e.symm.trans hv)⟩
    · rw [e] at hv; injection hv with hv; simp at hv; omega
  have key5 : ∀ b, b < wr.heap.size → some b ≠ vP.ownBlock → w5.heap[b]? = wr.heap[b]? := fun b h1 h2 => (hg5.block b (by simp; omega) h2).trans (Below.heap_alloc wr _ b h1)
  have key7 : ∀ b, b < w5.heap.size → b ≠ g → some b ≠ OB → w7.heap[b]? = w5.heap[b]? := fun b h1 h2 h3 => (hg7.block b (by simpa [World.setCell] using h1) h3).trans (Below.heap_setCell _ _ _ _ h2)
  have key8 : ∀ b, b ≠ bL → (w7.setCell ⟨bL, 0, none⟩ v7).heap[b]? = w7.heap[b]? := fun b h1 => Below.heap_setCell _ _ _ _ h1
  have hOBn : ∀ b, OB = some b → b < B := fun b hb => (hbd.2.2.2.2.2.2 b hb).2
  have lowOB : ∀ b, b < A → some b ≠ OB := fun b hb e => by have := hbd.2.2.2.2.2.2 b e.symm; omega
  have lowP : ∀ b, b < B → some b ≠ vP.ownBlock := fun b hb e => by have := h.obP b e.symm; omega
  have key : ∀ b, b < A → b ≠ g → (w7.setCell ⟨bL, 0, none⟩ v7).heap[b]? = wr.heap[b]? := fun b h1 h2 =>
    ((key8 b (by omega)).trans (key7 b (by omega) h2 (lowOB b h1))).trans (key5 b (by omega) (lowP b (by omega)))
  have keyS : SameOn (Sg A B OB) wr (w7.setCell ⟨bL, 0, none⟩ v7) := fun b hb =>
    ((key8 b (by have := hb.2.1; omega)).trans (key7 b (by have := hb.2.1; omega) (by have := hb.1; omega) hb.2.2)).trans (key5 b (by have := hb.2.1; omega) (lowP b hb.2.1))
  have hl : us.length = hs.length := h.left.2.1
  refine { bLc := ?_, bgc := ?_, gc := ?_, lc := ?_, bpc := ?_, left := ⟨own_keep ho7 fun b hv => ?_, ?_, ?_⟩, obL := hob7, parts := ⟨?_, ?_, ?_⟩, obP := fun b hv => (h5b b hv).1, low := h.low, bound := hbd, below := ?_, split := h.split.step hpi hi, part := hpart }
  · have h1 : Blk w7 bL 52 #[vL] := (key7 bL (by omega) (by omega) (fun e => by have := hOBn bL e.symm; omega)).trans ((key5 bL hbLl (fun e => hPb bL e.symm rfl)).trans h.bLc)
    exact blk_set1 h1
  · exact (key bg hbd.1 (blk_ne h.bgc h.gc (by decide))).trans h.bgc
  · have h1 : Blk w5 g 69 _ := (key5 g h.gc.lt (lowP g (by omega))).trans h.gc
    have h2 := h1.set_ 2 v5
    have h3 := h2.grown hg7 (lowOB g hbd.2.1)
    exact h3.far (by show g ≠ bL; omega) _
  · exact (key l hbd.2.2.1 (blk_ne h.lc h.gc (by decide))).trans h.lc
  · exact (key bp hbd.2.2.2.1 (blk_ne h.bpc h.gc (by decide))).trans h.bpc
  · rw [hob7] at hv
    exact key8 b (by have := hOBn b hv; omega)
  · rw [List.length_eraseIdx, List.length_eraseIdx, hl]
  · intro j x hd hx hh
    rw [List.getElem?_eraseIdx] at hx hh
    by_cases hj : j < i
    · rw [if_pos hj] at hx hh
      exact (h.left.2.2 j x hd hx hh).same intE keyS
    · rw [if_neg hj] at hx hh
      exact (h.left.2.2 (j + 1) x hd hx hh).same intE keyS
  · have e : (ps ++ [u]).length = ps.length + 1 := by simp
    rw [e]
    refine own_keep (w := w5) ho5 fun b hv => ?_
    have h1 := h5b b hv
    have h2 := own_lt ho5 hv
    exact (key8 b h1.2).trans (key7 b h2 (by omega) (fun e2 => by have := hOBn b e2.symm; omega))
  · simp [h.parts.2.1]
  · intro j x hd hx hh
    by_cases hj : j < ps.length
    · rw [List.getElem?_append_left hj] at hx
      rw [List.getElem?_append_left (by rw [← h.parts.2.1]; exact hj)] at hh
      exact (h.parts.2.2 j x hd hx hh).same intE keyS
    · have hjl := (List.getElem?_eq_some_iff.1 hx).1
      have hje : j = ps.length := by simp at hjl; omega
      subst hje
      rw [h.parts.2.1] at hh
      simp at hx hh
      subst hx; subst hh
      exact (h.left.2.2 i u _ hu (List.getElem?_eq_getElem hi)).same intE keyS
  · have hw := h.below
    have hws := hw.size
    have b1 : Below w.heap.size w (wr.alloc (.cells #[u] 25)) := hw.alloc hws _
    have b2 : Below w.heap.size w w5 := b1.drew.grown hg5 (by simp; omega) (fun b hv => by have := h.obP b hv; have := h.low; omega)
    have b3 := b2.setCell (p := ⟨g, 2, none⟩) h.low.2.1 v5
    have b4 : Below w.heap.size w w7 := b3.grown hg7 (by simp [World.setCell]; omega) (fun b hv => by have := hbd.2.2.2.2.2.2 b hv; have := h.low; omega)
    exact b4.setCell (by show w.heap.size ≤ bL; have := h.low; omega) v7

/-- The graph behind its pointer, whole. -/
def GRep (E : EdgeL) (n : Nat) (w : World) (S : Reg) (g : Nat) : Prop :=
  ∃ l bp nxt rch pf vP, GAt w S g l n nxt rch ∧ RchRel E 0 nxt ∧ RchRel E n rch ∧ w.cell? ⟨g, 2, none⟩ = some vP ∧ IntLists w S vP ((order E n).map (compI E n)) ∧
    w.cell? ⟨g, 3, none⟩ = some (.slice (some ⟨bp, 0, none⟩) n n) ∧ S bp ∧ (∀ x, x < n → w.cell? ⟨bp, x, none⟩ = some (.int .i64 (pf x : Nat))) ∧ PartOk E n (order E n) pf
theorem GRep.same {E : EdgeL} {n : Nat} {w w' : World} {S : Reg} {g : Nat} (h : GRep E n w S g) (hs : SameOn S w w') : GRep E n w' S g := by
  obtain ⟨l, bp, nxt, rch, pf, vP, h1, h2, h3, h4, h5, h6, h7, h8, h9⟩ := h
  exact ⟨l, bp, nxt, rch, pf, vP, h1.same hs, h2, h3, (hs.cell (p := ⟨g, 2, none⟩) h1.sg).trans h4, h5.same (slE intE) hs, (hs.cell (p := ⟨g, 3, none⟩) h1.sg).trans h6, h7, fun x hx => (hs.cell (p := ⟨bp, x, none⟩) h7).trans (h8 x hx), h9⟩
theorem GRep.more {E : EdgeL} {n : Nat} {w : World} {S S' : Reg} {g : Nat} (h : GRep E n w S g) (hs : ∀ b, S b → S' b) : GRep E n w S' g := by
  obtain ⟨l, bp, nxt, rch, pf, vP, h1, h2, h3, h4, h5, h6, h7, h8, h9⟩ := h
  exact ⟨l, bp, nxt, rch, pf, vP, h1.more hs, h2, h3, h4, h5.more (slE intE) hs, h6, hs _ h7, h8, h9⟩
theorem row_lists {E : EdgeL} {n : Nat} {w : World} {S S' : Reg} {v : Value} {us : List Value} {hs : List Nat} (h : RowOf E n w S v us hs) (hS : ∀ b, S b → S' b) (hv : ∀ b, v.ownBlock = some b → S' b) :
    IntLists w S' v (hs.map (compI E n)) := by
  obtain ⟨ho, hl, hr⟩ := h
  rcases ho.2 with ⟨rfl, h0⟩ | ⟨g, cap, cur, rfl, _, hgg, hnc, hcm, hcs, htake⟩
  · have : hs = [] := List.eq_nil_of_length_eq_zero (by omega)
    subst this
    exact Sl.nil_ w _
  · refine ⟨some ⟨g, 0, none⟩, cap, by rw [List.length_map, hl], by rw [List.length_map, ← hl]; exact hnc, by simpa [maxLen] using hcm, fun hp => ⟨_, rfl, hv g rfl, fun j x hx => ?_⟩⟩
    rw [List.getElem?_map] at hx
    cases hh : hs[j]? with
    | none => rw [hh] at hx; cases hx
    | some x' =>
      rw [hh] at hx
      injection hx with hx
      subst hx
      have hj : j < us.length := by rw [hl]; exact (List.getElem?_eq_some_iff.1 hh).1
      refine ⟨us[j], ?_, (hr j _ x' (List.getElem?_eq_getElem hj) hh).more intE hS⟩
      rw [Nat.mul_one]
      exact ho.cells (g := g) rfl j _ (List.getElem?_eq_getElem hj)
theorem MInv.done {E : EdgeL} {n : Nat} {w wr : World} {A B bL bg g l bp : Nat} {OB : Option Nat} {nxt rch pf : Nat → Nat} {vL vP : Value} {us ps : List Value} {hs ds : List Nat}
    (h : MInv E n w wr A B bL bg g l bp OB nxt rch pf vL vP us ps hs ds) (h0 : us.length = 0) (hr0 : RchRel E 0 nxt) (hrn : RchRel E n rch) (hA : w.heap.size ≤ A) : GRep E n wr (Iv w.heap.size wr.heap.size) g := by
  have hhs : hs = [] := List.eq_nil_of_length_eq_zero (by rw [← h.left.2.1]; exact h0)
  have hds : ds = order E n := by have := h.split.eq; rw [hhs] at this; simpa [orderL] using this
  have hb := h.bLt
  refine ⟨l, bp, nxt, rch, pf, vP, ?_, hr0, hrn, h.gc.cell 2, ?_, h.gc.cell 3, ⟨h.low.2.2.2, h.bpc.lt⟩, fun x hx => (h.bpc.cell x).trans (partCells_get _ _ _ hx), by rw [← hds]; exact h.part⟩
  · exact ⟨⟨h.low.2.1, h.gc.lt⟩, ⟨h.low.2.2.1, h.lc.lt⟩, h.gc.cell 0, h.gc.cell 1, fun i hi => (h.lc.cell i).trans (linkCells_lo _ _ _ hi), fun i hi => (h.lc.cell (64 + i)).trans (linkCells_hi _ _ _ hi)⟩
  · rw [← hds]
    exact row_lists h.parts (fun b hs => ⟨by have := hs.1; omega, by have := hs.2.1; omega⟩) (fun b hv => ⟨by have := h.obP b hv; have := h.bound; omega, own_lt h.parts.1 hv⟩)

set_option maxRecDepth 100000 in
set_option maxHeartbeats 4000000 in
theorem made36_ok (n : Nat) (v : Value) (E : EdgeL) (w : World) (hE : Edges w (Iv 0 w.heap.size) v E) (hgood : (checkL n E).1 = 0) :
    Calls Try.prog 36 #[.agg #[.int .i64 n, v]] w fun e w' => ∃ g, e = .returned (.tuple #[.pointer (some ⟨g, 0, none⟩), .int .i64 0]) ∧ GRep E n w' (Iv w.heap.size w'.heap.size) g ∧ Below w.heap.size w w' := by
  obtain ⟨hn, hok⟩ := ok_of_check hgood
  have h1 : Below w.heap.size w (w.alloc (.cells #[.int .i64 n, v] 24)) := (Below.refl _ _).alloc (Nat.le_refl _) _
  have hE1 := (hE.same edgeE (sameOn_below h1 iv_lt)).iv edgeE (Nat.le_refl 0) (show w.heap.size ≤ (w.alloc (.cells #[.int .i64 n, v] 24)).heap.size by simp)
  have hc := check26 n v E (w.alloc (.cells #[.int .i64 n, v] 24)) hE1
  have HOF : Hid (∀ W, Below (w.alloc (.cells #[.int .i64 n, v] 24)).heap.size (w.alloc (.cells #[.int .i64 n, v] 24)) W → Calls Try.prog 50 #[.agg #[.int .i64 n, v]] W fun e w' => ∃ nxt rch : Nat → Nat, e = .returned (.pointer (some ⟨W.heap.size + 1, 0, none⟩)) ∧ Blk w' (W.heap.size + 1) 79 (LinkCells nxt rch) ∧ Below W.heap.size W w' ∧
      RchRel E 0 nxt ∧ RchRel E n rch) := fun W hW => of_any n E v W ((hE1.same edgeE (sameOn_below hW iv_lt)).iv edgeE (Nat.le_refl 0) hW.size) hn hok
  have hmk := fun W => run_mk (P := Try.prog) (bytes := 8) (z := .int .i64 0) Try.underlying25 (by kernel_rfl) n (by omega) (by omega) W
  rw [made1 _ rfl] at hmk
  have HC := hid hc; clear hc
  clear hE1 h1
  obtain ⟨A, m, c, rfl, hm, hmc, hcc, rE⟩ := hE.open_; clear hE
  have HM := hid hm; clear hm
  have HO := hid hok; clear hok
  generalize hX : checkL n E = X at *
  obtain ⟨er, ix⟩ := X
  clear hX
  simp only [] at hgood HC ⊢
  subst hgood
  go_enter Try.func36, Try.ntmps36
  go_upto_region 4 with (go_at_call 26; refine HC.out.mono ?_; rintro e w1 ⟨rfl, hb1⟩)
  have hbw1 : Below w.heap.size w w1 := ((Below.refl _ _).alloc (Nat.le_refl _) _).trans (hb1.mono (by simp))
  go_cut [6] (fun s6 wx => ∃ bg g l bp : Nat, s6 = .pointer (some ⟨bg, 0, none⟩) ∧ Start w wx n E bg g l bp)
  case first =>
    have c0 : w1.cell? ⟨w.heap.size, 0, none⟩ = some (.int .i64 n) := (hb1.cell (p := ⟨w.heap.size, 0, none⟩) (by simp)).trans (by simp [World.cell?_alloc_new])
    have c1 : w1.cell? ⟨w.heap.size, 1, none⟩ = some (.slice A m c) := (hb1.cell (p := ⟨w.heap.size, 1, none⟩) (by simp)).trans (by simp [World.cell?_alloc_new])
    have hsz : w.heap.size < w1.heap.size := lt_of_cell c0
    have hsz1 : w.heap.size < w1.heap.size + 1 := by omega
    have hsz2 : w.heap.size < w1.heap.size + 1 + 1 := by omega
    have HK : Hid (∀ w', Below w1.heap.size w1 w' → w'.cell? ⟨w.heap.size, 0, none⟩ = some (.int .i64 n) ∧ w'.cell? ⟨w.heap.size, 1, none⟩ = some (.slice A m c)) :=
      fun w' hB => ⟨(hB.cell (p := ⟨w.heap.size, 0, none⟩) hsz).trans c0, (hB.cell (p := ⟨w.heap.size, 1, none⟩) hsz).trans c1⟩
    go_region_held3 (fun w' => w'.cell? ⟨w.heap.size, 0, none⟩ = some (.int .i64 n) ∧ w'.cell? ⟨w.heap.size, 1, none⟩ = some (.slice A m c))
      (((first | refine HK.out _ ?_ | (change _ ∧ _; refine HK.out _ ?_)); (repeat (first | exact Below.refl _ _ | (with_reducible apply Below.drew) | (with_reducible refine Below.alloc ?_ (by first | omega | (simp; done) | (simp; omega)) _) | (with_reducible refine Below.setCell ?_ (by first | omega | (simp; done) | (simp; omega)) _) | (with_reducible refine Below.trans ?_ (hb2.mono (by first | omega | (simp; done) | (simp; omega)))))); done))
      ((go_at_call 50; refine (HOF.out _ ?_).mono ?_; (repeat (first | exact hb1 | apply Below.drew | refine Below.alloc ?_ (by simp; omega) _)); rintro e w2 ⟨nxt, rch, rfl, hl, hb2, hr0, hrn⟩; (try simp at hl); obtain ⟨hbc, hbf⟩ := bcell hb2; have hz3 : w1.heap.size < w2.heap.size := (by have h3 := hl.lt; (try simp at h3); omega); have hz4 : w1.heap.size + 1 < w2.heap.size := (by have h3 := hl.lt; (try simp at h3); omega);
        have d0 := (hb2.cell (p := ⟨w.heap.size, 0, none⟩) (by simp; omega)).trans (by first | exact c0 | exact cell_al c0 _ | exact cell_al2 c0 _ _);
        have d1 := (hb2.cell (p := ⟨w.heap.size, 1, none⟩) (by simp; omega)).trans (by first | exact c1 | exact cell_al c1 _ | exact cell_al2 c1 _ _)))
    all_goals
      go_wp2_with fail
      go_meet
      case rel =>
        apply start_rel
        · (repeat (first | exact hl | (with_reducible refine blk_new (by simp; done)) | (with_reducible refine Blk.drew ?_) | (with_reducible refine Blk.alloc ?_ _) | (with_reducible apply blk_set1) | (with_reducible refine Blk.far ?_ (by first | omega | (simp; done) | (simp; omega)) _) | refine Blk.below ?_ hb2 (by first | omega | (simp; done) | (simp; omega))))
        · (repeat (first | exact hl | (with_reducible refine blk_new (by simp; done)) | (with_reducible refine Blk.drew ?_) | (with_reducible refine Blk.alloc ?_ _) | (with_reducible refine Blk.far ?_ (by first | omega | (simp; done) | (simp; omega)) _) | refine Blk.below ?_ hb2 (by first | omega | (simp; done) | (simp; omega))))
        · (repeat (first | exact hl | (with_reducible refine blk_new (by simp; done)) | (with_reducible refine Blk.drew ?_) | (with_reducible refine Blk.alloc ?_ _) | (with_reducible refine Blk.far ?_ (by first | omega | (simp; done) | (simp; omega)) _) | refine Blk.below ?_ hb2 (by first | omega | (simp; done) | (simp; omega))))
        · (repeat (first | exact hl | (with_reducible refine blk_new (by simp; done)) | (with_reducible refine Blk.drew ?_) | (with_reducible refine Blk.alloc ?_ _) | (with_reducible refine Blk.far ?_ (by first | omega | (simp; done) | (simp; omega)) _) | refine Blk.below ?_ hb2 (by first | omega | (simp; done) | (simp; omega))))
        · omega
        · omega
        · omega
        · omega
        · (repeat (first | exact hbw1 | (with_reducible apply Below.drew) | (with_reducible refine Below.alloc ?_ (by first | omega | (simp; done) | (simp; omega)) _) | (with_reducible refine Below.setCell ?_ (by first | omega | (simp; done) | (simp; omega)) _) | (with_reducible refine Below.trans ?_ (hb2.mono (by first | omega | (simp; done) | (simp; omega))))))
        · exact hr0
        · exact hrn
  case rest =>
    obtain ⟨bg, g, l, bp, rfl, nxt, rch, hbg, hg, hl, hbp, l1, l2, l3, l4, hbw, hr0, hrn⟩ := hcut
    have cg := hbg.cell 0
    have hgl : GAt wc (Iv 0 wc.heap.size) g l n nxt rch :=
      ⟨⟨Nat.zero_le _, hg.lt⟩, ⟨Nat.zero_le _, hl.lt⟩, hg.cell 0, hg.cell 1, fun i hi => (hl.cell i).trans (linkCells_lo _ _ _ hi), fun i hi => (hl.cell (64 + i)).trans (linkCells_hi _ _ _ hi)⟩
    have HCO := hid (components_any g l n E nxt rch wc hgl hn hrn HO.out)
    have Hbg := hid hbg; clear hbg
    have Hg := hid hg; clear hg
    have Hl := hid hl; clear hl
    have Hbp := hid hbp; clear hbp
    have HGL := hid hgl; clear hgl
    have R0 := hid hr0; clear hr0
    have Rn := hid hrn; clear hrn
    go_upto_block 0 with (go_at_call 51; refine HCO.out.mono ?_; rintro e w3 ⟨vL, us, rfl, hco, hb3⟩; obtain ⟨Av, cv, rfl, hcv, hcv'⟩ := own_form hco.1)
    have HI := hid (minv_start Hbg.out Hg.out Hl.out Hbp.out ⟨l1, l2, l3, l4⟩ hbw hco hb3)
    have HLOW := hid hbw.size
    generalize hA : wc.heap.size = A' at HI HLOW
    generalize hB : w3.heap.size = bL at HI
    generalize (Value.slice Av us.length cv).ownBlock = OB at HI
    have HA := hid hA; clear hA
    have HB := hid hB
    clear Hbg Hg Hl Hbp HGL HCO l1 l2 l3 l4 hbw hB
    apply wp_block
    go_loopg [] us.length (fun q wr => ∃ vL vP us ps hs ds pf, us.length = q ∧ Hid (MInv E n w wr A' bL bL bg g l bp OB nxt rch pf vL vP us ps hs ds))
    case atStart => exact ⟨_, _, us, _, _, _, _, rfl, HI⟩
    case round =>
      clear hco hb3 HI HA HB hcv hcv'
      obtain ⟨vL, vP, us, ps, hs, ds, pf, rfl, HI⟩ := hrel
      obtain ⟨A1, c1, rfl, hAc, hcm⟩ := own_form HI.out.left.1
      have b7 : wr.cell? ⟨bL, 0, none⟩ = some (.slice A1 us.length c1) := HI.out.bLc.cell 0
      by_cases hne : 0 < us.length
      · obtain ⟨i, hpi, hil, hcall⟩ := HI.out.search hn HO.out Rn.out hne
        have HP := hid hpi; clear hpi
        have HCS := hid hcall; clear hcall
        go_upto_region 9 with (go_at_call 55; refine HCS.out.mono ?_; rintro e w4 ⟨rfl, hb4⟩)
        have HI4 := hid (HI.out.later hb4)
        clear HCS
        have hsv := own_vals HI4.out.left.1
        obtain ⟨Ax, nx, cx, he1, hlen1, _, _, hat⟩ := hsv.open_
        obtain ⟨rfl, rfl, rfl⟩ : A1 = Ax ∧ us.length = nx ∧ c1 = cx := by injection he1 with a b c; exact ⟨a, b, c⟩
        obtain ⟨ad, rfl, had, hel⟩ := hat.get hil
        have hhl : i < hs.length := by rw [← HI4.out.left.2.1]; exact hil
        have hru := HI4.out.left.2.2 i _ hs[i] (List.getElem?_eq_getElem hil) (List.getElem?_eq_getElem hhl)
        rw [ValE, Nat.mul_one] at hel
        generalize hu : us[i] = u at hel hru
        obtain ⟨Au, mu, cu, rfl, hmu, hmuc, hcu, hau⟩ := hru.open_
        have HRU := hid hru; clear hru
        have HU := hid hu; clear hu
        have HMU := hid hmu; clear hmu hlen1 hsv hat
        have b74 : w4.cell? ⟨bL, 0, none⟩ = some (.slice (some ad) us.length c1) := HI4.out.bLc.cell 0
        have b6 : w4.cell? ⟨bg, 0, none⟩ = some (.pointer (some ⟨g, 0, none⟩)) := HI4.out.bgc.cell 0
        obtain ⟨A2, c2, rfl, hA2, hc2⟩ := own_form HI4.out.parts.1
        have hpsl : ps.length ≤ 64 := by
          have h1 := HI4.out.parts.2.1
          have h2 : ds.length ≤ (order E n).length := by rw [← HI4.out.split.eq]; simp
          have h3 := order_le E n
          omega
        go_upto_block 2 with (fail)
        apply wp_block
        obtain ⟨wo, rfl⟩ : ∃ wo : World, wo = w4 := ⟨_, rfl⟩
        go_loopw [43] (fun k wi => ∃ q : Nat, q ≤ mu ∧ k = .int .i64 q ∧ Hid (PIn E n hs[i] ps.length bp q pf w wo wi)) (fun k _ => mu - (intOf k).toNat)
        case atStart => exact ⟨0, Nat.zero_le _, rfl, pf, HI4.out.bpc, fun x hx => by simp, fun b _ _ => rfl, rfl, HI4.out.below⟩
        case round =>
          obtain ⟨q, hq, rfl, HPI⟩ := hrel
          by_cases hlq : q < mu
          · obtain ⟨adu, x, rfl, hadu, hx, hxc⟩ := hau.at_ HMU.out hlq
            rw [IntE, Nat.mul_one] at hxc
            obtain ⟨kk, rfl, hkq, hkn, htog⟩ := compI_get hx
            have hneu : adu.block ≠ bp := by have := HI4.out.bound; have := hadu.1; omega
            have hneg : g ≠ bp := blk_ne HI4.out.gc HI4.out.bpc (by decide)
            have hneb : bg ≠ bp := blk_ne HI4.out.bgc HI4.out.bpc (by decide)
            have hc0 := HPI.out.cell hxc (by rw [block_add]; exact hneu)
            have hc1 := HPI.out.cell b6 hneb
            have hc2 := HPI.out.cell (p := ⟨g, 2, none⟩) (v := .slice A2 ps.length c2) (HI4.out.gc.cell 2) hneg
            have hc3 := HPI.out.cell (p := ⟨g, 3, none⟩) (v := .slice (some ⟨bp, 0, none⟩) n n) (HI4.out.gc.cell 3) hneg
            have hstep := HPI.out.step hkq hkn HI4.out.low.2.2.2
            obtain ⟨pf', hbpi, hpf⟩ := HPI.out
            have hc4 := hbpi.cell kk
            rw [partCells_get _ _ _ hkn] at hc4
            have hc5 := hbpi.frozen kk
            have HST := hid hstep; clear hstep
            have HBP := hid hbpi; clear hbpi hpf
            have HKQ := hid hkq; clear hkq
            have HX := hid hx; clear hx
            have HT := hid htog; clear htog hxc
            have hkI : (kk : Int) < (n : Int) := by omega
            go_wp2
            go_region
            go_wp2
            go_roundw
            case rel => exact ⟨q + 1, hlq, by go_num, HST.out.drew⟩
            case measure => simp [intOf]; omega
          · obtain rfl : mu = q := by omega
            have hme : mu = (comp E n hs[i]).length := by rw [← compI_length]; exact HMU.out.symm
            rw [hme] at HPI
            clear hme
            obtain ⟨pf', hI5, hpart, hsz5⟩ := HI4.out.inner HO.out hhl HPI.out
            have HI5 := hid hI5; clear hI5
            have HPT := hid hpart; clear hpart
            have HSZ := hid hsz5; clear hsz5
            clear b7 b74 b6 hel
            have d6 : wr.cell? ⟨bg, 0, none⟩ = some (.pointer (some ⟨g, 0, none⟩)) := HI5.out.bgc.cell 0
            have d7 : wr.cell? ⟨bL, 0, none⟩ = some (.slice (some ad) us.length c1) := HI5.out.bLc.cell 0
            have d2 : wr.cell? ⟨g, 2, none⟩ = some (.slice A2 ps.length c2) := HI5.out.gc.cell 2
            have d8 : wr.cell? (ad.add i) = some (.slice Au mu cu) := by
              rw [own_elem HI5.out.left.1 hil, HU.out]
            have d3 : wr.frozen? ⟨g, 2, none⟩ = false := HI5.out.gc.frozen 2
            have d6' := cell_al d6
            have d7' := cell_al d7
            have d2' := cell_al d2
            have d8' := cell_al d8
            have hgA : ∀ b, (Value.slice A2 ps.length c2).ownBlock = some b → b ≠ bg ∧ b ≠ g ∧ b ≠ bL ∧ b ≠ ad.block := fun b hv => by
              have h1 := HI5.out.obP b hv
              have h2 := HI5.out.bound
              have h3 := h2.2.2.2.2.2.2 ad.block (by rw [← HI5.out.obL]; rfl)
              refine ⟨by omega, by omega, ?_, by omega⟩
              rintro rfl
              obtain ⟨gp, cap, cur, hvv, _, hgg, _⟩ := HI5.out.parts.1.2.resolve_left (fun h0 => by rw [h0.1] at hv; cases hv)
              rw [hvv] at hv
              injection hv with hv
              have hv' : gp = b := hv
              subst hv'
              exact blk_ne hgg HI5.out.bLc (by decide) rfl
            have hne3 : g ≠ bg ∧ g ≠ bL ∧ g ≠ ad.block := by
              have h2 := HI5.out.bound
              have h3 := h2.2.2.2.2.2.2 ad.block (by rw [← HI5.out.obL]; rfl)
              exact ⟨blk_ne HI5.out.gc HI5.out.bgc (by decide), by omega, by omega⟩
            have HNE := hid hne3; clear hne3
            have HGA := hid hgA; clear hgA
            go_upto_region 14 with (fail)
            obtain ⟨v5, w5, hrun, ho5, hg5, hb5, _⟩ := run_app (P := Try.prog) (w := (wr.alloc (.cells #[.slice Au mu cu] 25)).drew) tLists 52 (.slice A2 ps.length c2) ps.length ps (HI5.out.parts.1.alloc _) ⟨wr.heap.size, 0, none⟩ 1 1 [.slice Au mu cu] rfl news_new (by simp [Value.oneCell']) (by simp only [maxLen]; omega) (by omega)
            obtain ⟨A5, c5, rfl, hA5, hc5⟩ := own_form ho5
            have gB5 := Blk.grown (w := (wr.alloc (.cells #[.slice Au mu cu] 25)).drew) (HI5.out.gc.alloc _) hg5 (fun e => (HGA.out g e.symm).2.1 rfl)
            have bB5 := Blk.grown (w := (wr.alloc (.cells #[.slice Au mu cu] 25)).drew) (HI5.out.bgc.alloc _) hg5 (fun e => (HGA.out bg e.symm).1 rfl)
            have e2 : w5.cell? ⟨g, 2, none⟩ = some (.slice A2 ps.length c2) := gB5.cell 2
            have e3 := gB5.frozen 2
            have e6 : w5.cell? ⟨bg, 0, none⟩ = some (.pointer (some ⟨g, 0, none⟩)) := bB5.cell 0
            have e7 : w5.cell? ⟨bL, 0, none⟩ = some (.slice (some ad) us.length c1) := hg5.cell (d7' _) (fun e => (HGA.out _ e.symm).2.2.1 rfl)
            have e8 : w5.cell? (ad.add i) = some (.slice Au mu cu) := hg5.cell (d8' _) (fun e => (HGA.out _ e.symm).2.2.2 (block_add _ _))
            have GB5 := hid gB5; clear gB5
            have BB5 := hid bB5; clear bB5
            have HO5 := hid ho5; clear ho5
            have HG5 := hid hg5; clear hg5
            have HB5 := hid hb5; clear hb5
            obtain ⟨happ, heqa⟩ := app_facts hrun
            clear hrun
            go_region
            have f7 : (w5.setCell ⟨g, 2, none⟩ (.slice A5 (ps.length + 1) c5)).cell? ⟨bL, 0, none⟩ = some (.slice (some ad) us.length c1) := (World.cell?_setCell_other w5 ⟨g, 2, none⟩ ⟨bL, 0, none⟩ _ (fun e => HNE.out.2.1 (congrArg Addr.block e))).trans e7
            have hone : ∀ x ∈ us, x.oneCell' = true := fun x hx => by
              obtain ⟨j, hj⟩ := List.mem_iff_getElem?.1 hx
              have hjl : j < hs.length := by rw [← HI5.out.left.2.1]; exact (List.getElem?_eq_some_iff.1 hj).1
              obtain ⟨_, _, rfl, _⟩ := HI5.out.left.2.2 j x _ hj (List.getElem?_eq_getElem hjl)
              rfl
            have hob : (Value.slice (some ad) us.length c1).ownBlock = OB := HI5.out.obL
            have hbL6 : Blk (w5.setCell ⟨g, 2, none⟩ (.slice A5 (ps.length + 1) c5)) bL 52 #[.slice (some ad) us.length c1] :=
              (Blk.grown (w := (wr.alloc (.cells #[.slice Au mu cu] 25)).drew) (HI5.out.bLc.alloc _) HG5.out (fun e => (HGA.out _ e.symm).2.2.1 rfl)).far (fun e => HNE.out.2.1 e.symm) _
            have hown6 : Own (w5.setCell ⟨g, 2, none⟩ (.slice A5 (ps.length + 1) c5)) 25 1 (.slice (some ad) us.length c1) us.length us := by
              refine own_keep HI5.out.left.1 fun b hv => ?_
              have hbe : ad.block = b := by injection hv
              subst hbe
              have hlt := own_lt HI5.out.left.1 hv
              exact (Below.heap_setCell _ _ _ _ (fun e => HNE.out.2.2 e.symm)).trans ((HG5.out.block ad.block (by simp; omega) (fun e => (HGA.out _ e.symm).2.2.2 rfl)).trans (Below.heap_alloc wr _ _ hlt))
            have hnl : (some bL : Option Nat) ≠ some ad.block := fun e => by
              injection e with e
              have h2 := HI5.out.bound
              have h3 := h2.2.2.2.2.2.2 ad.block (by rw [← HI5.out.obL]; rfl)
              omega
            have HNL := hid hnl; clear hnl
            have HDEL := hid (delete_own _ us i _ hown6 hil hone)
            have HBL6 := hid hbL6; clear hbL6
            have HOB := hid hob; clear hob
            clear hone hown6
            go_wp2_with (go_at_call 56; refine HDEL.out.mono ?_; rintro e w7 ⟨v7, rfl, ho7, hob7, hg7, hsz7⟩; have bb7 := Blk.grown HBL6.out hg7 HNL.out; have k7 : w7.cell? ⟨bL, 0, none⟩ = some (.slice (some ad) us.length c1) := bb7.cell 0; have k8 := bb7.frozen 0; obtain ⟨A7, c7, rfl, hA7, hc7⟩ := own_form ho7)
            have hnx := HI5.out.next hhl HP.out HPT.out (u := .slice Au mu cu) (by rw [List.getElem?_eq_getElem hil, HU.out]) HG5.out HO5.out HB5.out (by rw [← HOB.out]; exact hg7) ho7 (hob7.trans HOB.out)
            go_roundg (us.length - 1)
            case measure => omega
            case rel => exact ⟨_, _, _, _, _, _, pf', by rw [List.length_eraseIdx, if_pos hil], hnx⟩
      · have hz : us.length = 0 := by omega
        have hfin := hid (HI.out.done hz R0.out Rn.out HLOW.out)
        have hbel := HI.out.below
        have HZ := hid hz; clear hz
        have b6 : wr.cell? ⟨bg, 0, none⟩ = some (.pointer (some ⟨g, 0, none⟩)) := HI.out.bgc.cell 0
        go_wp2
        go_ret2
        exact ⟨g, rfl, hfin.out, hbel⟩
end Go.Proofs.Ythehbamfjglodaa
