/-
  Walks: the graph behind its pointer; components.
-/
import Derived.Test.YthehbamfjglodaaW2
namespace Go.Proofs.Ythehbamfjglodaa
open Go.RowKit

theorem tInts : ElT Try.prog 25 3 1 8 := ElT.mk' (z := .int .i64 0) Try.underlying25 (by kernel_rfl) rfl (by omega)
theorem tLists : ElT Try.prog 52 25 1 24 := ElT.mk' (z := .slice none 0 0) Try.underlying52 (by kernel_rfl) rfl (by omega)
theorem tBools : ElT Try.prog 39 4 1 1 := ElT.mk' (z := .bool false) Try.underlying39 (by kernel_rfl) rfl (by omega)
theorem tEdges : ElT Try.prog 22 56 2 16 := ElT.mk' (z := .agg #[.int .i64 0, .int .i64 0]) Try.underlying22 (by kernel_rfl) rfl (by omega)

/-- make([]T, n), one cell an element -/
theorem run_mk {P : Program} {t e bytes : Nat} {z : Value} (ht : P.underlying t = some (.slice e)) (h : (P.info? e).map (fun i => (i.zero, i.size, i.bytes)) = some (some z, 1, bytes))
    (n : Nat) (hb : bytes * n ≤ 281474976710656) (h63 : n ≤ 9223372036854775807) (w : World) :
    (Instr.makeSlice t (.int .i64 (n : Int)) (.int .i64 (n : Int))).run P w = .ok (.slice (some ⟨w.heap.size, 0, none⟩) n n) (w.alloc (.cells (madeCells z.cells n) e)) := by
  obtain ⟨i, hi, hz, hs, hby⟩ := info_parts h
  have hb' : (i.bytes : Int) * (n : Int) ≤ 281474976710656 := by
    have h : ((i.bytes * n : Nat) : Int) ≤ 281474976710656 := by rw [hby]; omega
    rwa [Int.natCast_mul] at h
  have hr := run_make (P := P) w t e i z ht hi hz .i64 .i64 n n (by omega) (by omega) hb' (by omega)
  simp only [Int.toNat_natCast, hs, Nat.mul_one] at hr
  exact hr
theorem made1 (z : Value) (hz : z.cells = #[z]) (n : Nat) : madeCells z.cells n = Array.replicate n z := by
  apply Array.ext
  · simp [madeCells]
  · intro i h1 h2
    simp [madeCells, hz, Nat.mod_one]

/-- The graph behind its pointer, as far as its links and its number of nodes go. -/
structure GAt (w : World) (S : Reg) (g l n : Nat) (nxt rch : Nat → Nat) : Prop where
  sg : S g
  sl : S l
  links : w.cell? ⟨g, 0, none⟩ = some (.pointer (some ⟨l, 0, none⟩))
  nn : w.cell? ⟨g, 1, none⟩ = some (.int .i64 n)
  nx : ∀ i, i < 64 → w.cell? ⟨l, i, none⟩ = some (.int .u64 (nxt i))
  rc : ∀ i, i < 64 → w.cell? ⟨l, 64 + i, none⟩ = some (.int .u64 (rch i))
theorem GAt.same {w w' : World} {S : Reg} {g l n : Nat} {nxt rch : Nat → Nat} (h : GAt w S g l n nxt rch) (hs : SameOn S w w') : GAt w' S g l n nxt rch :=
  ⟨h.sg, h.sl, (hs.cell (p := ⟨g, 0, none⟩) h.sg).trans h.links, (hs.cell (p := ⟨g, 1, none⟩) h.sg).trans h.nn, fun i hi => (hs.cell (p := ⟨l, i, none⟩) h.sl).trans (h.nx i hi), fun i hi => (hs.cell (p := ⟨l, 64 + i, none⟩) h.sl).trans (h.rc i hi)⟩
theorem GAt.more {w : World} {S S' : Reg} {g l n : Nat} {nxt rch : Nat → Nat} (h : GAt w S g l n nxt rch) (hS : ∀ b, S b → S' b) : GAt w S' g l n nxt rch :=
  ⟨hS _ h.sg, hS _ h.sl, h.links, h.nn, h.nx, h.rc⟩

theorem goes_g {w : World} {S : Reg} {g l n m : Nat} {E : EdgeL} {nxt rch : Nat → Nat} (hG : GAt w S g l n nxt rch) (hr : RchRel E m rch) (i j : Nat) (hi : i < 64) (hj : j < 64) :
    Calls Try.prog 37 #[.pointer (some ⟨l, 0, none⟩), .int .i64 i, .int .i64 j] w fun e w' => e = .returned (.bool (W E m i j)) ∧ w = w' := by
  rw [← hr.2 i j]
  exact goes_any l i j (rch i) w hi hj (hr.1 i) (hG.rc i hi)

/-- An owned row of ints reads as ints. -/
theorem own_ints {w : World} {v : Value} {n : Nat} {xs : List Int} {S : Reg} (h : Own w 3 1 v n (xs.map (.int .i64))) (hS : ∀ b, v.ownBlock = some b → S b) (hn : n = xs.length) : Ints w S v xs := by
  subst hn
  rcases h.2 with ⟨rfl, h0⟩ | ⟨g, cap, cur, rfl, _, hgg, hnc, hcm, hcs, htake⟩
  · have : xs = [] := List.eq_nil_of_length_eq_zero h0
    subst this
    exact Sl.nil_ w S
  · refine ⟨_, cap, rfl, hnc, by simpa [maxLen] using hcm, fun hp => ⟨_, rfl, hS g rfl, fun j x hx => ?_⟩⟩
    have := h.cells (g := g) rfl j (.int .i64 x) (by rw [List.getElem?_map, hx]; rfl)
    rw [Nat.mul_one]; exact this
theorem ints_map_len (xs : List Nat) : (xs.map fun (k : Nat) => (k : Int)).length = xs.length := by simp

def SeenCells (n : Nat) (f : Nat → Bool) : Array Value := Array.ofFn (n := n) fun i => .bool (f i)
theorem seenCells_get (n : Nat) (f : Nat → Bool) (i : Nat) (h : i < n) : (SeenCells n f)[i]? = some (.bool (f i)) := by simp [SeenCells, h]
theorem seenCells_set (n : Nat) (f : Nat → Bool) (i : Nat) (b : Bool) (h : i < n) : (SeenCells n f).setIfInBounds i (.bool b) = SeenCells n (fun k => if k = i then b else f k) := by
  apply Array.ext_getElem?
  intro k
  rw [Array.getElem?_setIfInBounds]
  simp only [SeenCells, Array.getElem?_ofFn, Array.size_ofFn]
  by_cases h1 : i = k
  · subst h1; simp [h]
  · by_cases h2 : k < n <;> simp [h1, h2, Ne.symm h1]
theorem seenCells_congr {n : Nat} {f f' : Nat → Bool} (h : ∀ i, i < n → f i = f' i) : SeenCells n f = SeenCells n f' := by
  apply Array.ext_getElem?
  intro k
  simp only [SeenCells, Array.getElem?_ofFn]
  by_cases h2 : k < n
  · simp [h2, h k h2]
  · simp [h2]
theorem seenCells_start (n : Nat) : Array.replicate n (Value.bool false) = SeenCells n (fun _ => false) := by
  apply Array.ext_getElem?
  intro k
  simp [SeenCells, Array.getElem?_replicate, Array.getElem?_ofFn]

/-- What the result of 'components' is. -/
def CompsOut (E : EdgeL) (n : Nat) (w : World) (v : Value) (us : List Value) (B : Nat) (hs : List Nat) : Prop :=
  Own w 25 1 v us.length us ∧ us.length = hs.length ∧ (∀ b, v.ownBlock = some b → B ≤ b) ∧
  ∀ (j : Nat) (u : Value) (h : Nat), us[j]? = some u → hs[j]? = some h → Ints w (fun b => B ≤ b ∧ b < w.heap.size ∧ some b ≠ v.ownBlock) u ((comp E n h).map fun (k : Nat) => (k : Int))

theorem compsOut_nil (E : EdgeL) (n : Nat) (w : World) (B : Nat) : CompsOut E n w (.slice none 0 0) [] B (headsTo E n 0) :=
  ⟨World.ownsRow_nil _ _ _ _, rfl, fun b hb => (by simp [Value.ownBlock] at hb), fun j u h hu => by simp at hu⟩
/-- What the inner loop keeps. -/
def InRel (E : EdgeL) (n k q : Nat) (wo wi : World) (vl : Value) (gs : Nat) : Prop :=
  Own wi 3 1 vl (compTo E n k q).length ((compTo E n k q).map fun (x : Nat) => .int .i64 (x : Int)) ∧ (∀ b, vl.ownBlock = some b → wo.heap.size ≤ b) ∧
  SameOn (fun b => b < wo.heap.size ∧ b ≠ gs) wo wi ∧ wo.heap.size ≤ wi.heap.size
def seenIn (E : EdgeL) (n k q x : Nat) : Bool := seenAt E n k x || (decide (x < q) && tog E n k x)
theorem inRel_start {E : EdgeL} {n k : Nat} (hh : isHead E n k = true) (w : World) (gs : Nat) : InRel E n k k w w (.slice none 0 0) gs := by
  refine ⟨?_, fun b hb => (by simp [Value.ownBlock] at hb), SameOn.refl _ _, Nat.le_refl _⟩
  rw [compTo_self hh]; exact World.ownsRow_nil _ _ _ _
theorem seenIn_start {E : EdgeL} {n k : Nat} (hh : isHead E n k = true) : seenIn E n k k = seenAt E n k := by
  funext x
  unfold seenIn
  by_cases hx : x < k
  · have : tog E n k x = false := by
      cases ht : tog E n k x with
      | false => rfl
      | true => have := isHead_iff.1 hh x hx; rw [tog_symm ht] at this; cases this
    simp [this]
  · simp [hx]

theorem InRel.yes {E : EdgeL} {n k q gs : Nat} {wo wi w2 : World} {vl v2 : Value} (h : InRel E n k q wo wi vl gs) (hgs : gs < wo.heap.size) (ht : tog E n k q = true)
    (ho : Own w2 3 1 v2 ((compTo E n k q).length + 1) (((compTo E n k q).map fun (x : Nat) => .int .i64 (x : Int)) ++ [.int .i64 (q : Int)])) (hg : wi.grownBy w2 vl.ownBlock)
    (hb : v2.ownBlock = vl.ownBlock ∨ v2.ownBlock = some (wi.heap.size + 1)) (u : Value) : InRel E n k (q + 1) wo (w2.setCell ⟨gs, q, none⟩ u) v2 gs := by
  have hblk : ∀ b, v2.ownBlock = some b → wo.heap.size ≤ b := fun b hv => by
    rcases hb with e | e
    · exact h.2.1 b (e.symm.trans hv)
    · rw [e] at hv; injection hv with hv; have := h.2.2.2; omega
  have hsz := hg.size
  refine ⟨?_, hblk, ?_, ?_⟩
  · rw [compTo_succ, ht]
    simp only [if_true, List.map_append, List.map_cons, List.map_nil, List.length_append, List.length_cons, List.length_nil]
    exact own_keep ho fun b hv => Below.heap_setCell _ _ _ _ (by have := hblk b hv; show b ≠ gs; omega)
  · intro b hbb
    rw [Below.heap_setCell _ _ _ _ hbb.2]
    refine (hg.block b (by have := h.2.2.2; have := hbb.1; omega) (fun e => ?_)).trans (h.2.2.1 b hbb)
    have := h.2.1 b e.symm
    have := hbb.1
    omega
  · have := h.2.2.2; simp only [World.setCell, Array.size_modify]; omega
theorem InRel.no {E : EdgeL} {n k q gs : Nat} {wo wi : World} {vl : Value} (h : InRel E n k q wo wi vl gs) (ht : tog E n k q = false) : InRel E n k (q + 1) wo wi vl gs := by
  refine ⟨?_, h.2.1, h.2.2.1, h.2.2.2⟩
  rw [compTo_succ, ht]
  simpa using h.1
theorem seenIn_yes {E : EdgeL} {n k q : Nat} (ht : tog E n k q = true) : seenIn E n k (q + 1) = fun x => if x = q then true else seenIn E n k q x := by
  funext x
  unfold seenIn
  by_cases hx : x = q
  · subst hx; simp [ht]
  · have : decide (x < q + 1) = decide (x < q) := by rw [decide_eq_decide]; omega
    simp [hx, this]
theorem seenIn_no {E : EdgeL} {n k q : Nat} (ht : tog E n k q = false) : seenIn E n k (q + 1) = seenIn E n k q := by
  funext x
  unfold seenIn
  by_cases hx : x = q
  · subst hx; simp [ht]
  · have : decide (x < q + 1) = decide (x < q) := by rw [decide_eq_decide]; omega
    simp [this]
theorem compTo_le (E : EdgeL) (n k q : Nat) : (compTo E n k q).length ≤ q := by
  have := List.length_filter_le (tog E n k) (List.range q)
  simpa [compTo] using this
theorem grown_far {w w' : World} {row : Option Nat} {g t : Nat} {cs : Array Value} (h : Blk w g t cs) (hg : w.grownBy w' row) (hr : ∀ b, row = some b → b ≠ g) : Blk w' g t cs :=
  h.grown hg (fun e => hr g e.symm rfl)

theorem CompsOut.inRow {E : EdgeL} {n k B gs : Nat} {wo wi : World} {v vl : Value} {us : List Value} {hs : List Nat} (h : CompsOut E n wo v us B hs) (hi : InRel E n k n wo wi vl gs) (hgs : gs < B) :
    Own wi 25 1 v us.length us :=
  own_keep h.1 fun b hv => hi.2.2.1 b ⟨own_lt h.1 hv, by have := h.2.2.1 b hv; omega⟩
theorem CompsOut.step {E : EdgeL} {n k B gs : Nat} {wo wi w2 : World} {v vl v2 : Value} {us : List Value} (h : CompsOut E n wo v us B (headsTo E n k)) (hi : InRel E n k n wo wi vl gs)
    (hgs : gs < B) (hB : B ≤ wo.heap.size) (hh : isHead E n k = true) (ho : Own w2 25 1 v2 (us.length + 1) (us ++ [vl])) (hg : wi.grownBy w2 v.ownBlock)
    (hb : v2.ownBlock = v.ownBlock ∨ v2.ownBlock = some (wi.heap.size + 1)) : CompsOut E n w2 v2 (us ++ [vl]) B (headsTo E n (k + 1)) := by
  have hsz := hg.size
  have hsz0 := hi.2.2.2
  refine ⟨by simpa using ho, by rw [headsTo_succ, hh]; simp [h.2.1], fun b hv => ?_, fun j u x hu hx => ?_⟩
  · rcases hb with e | e
    · exact h.2.2.1 b (e.symm.trans hv)
    · rw [e] at hv; injection hv with hv; omega
  · rw [headsTo_succ, hh] at hx
    simp only [if_true] at hx
    have hout : ∀ b, b < wi.heap.size → some b ≠ v.ownBlock → some b ≠ v2.ownBlock := fun b h1 h2 => by
      rcases hb with e | e
      · rw [e]; exact h2
      · rw [e]; intro e2; injection e2 with e2; omega
    by_cases hj : j < us.length
    · rw [List.getElem?_append_left hj] at hu
      rw [List.getElem?_append_left (by rw [← h.2.1]; exact hj)] at hx
      have h1 := h.2.2.2 j u x hu hx
      have h2 := h1.same intE (w' := wi) fun b hbb => hi.2.2.1 b ⟨hbb.2.1, by have := hbb.1; omega⟩
      have h3 := h2.same intE (w' := w2) fun b hbb => hg.block b (by have := hbb.2.1; omega) hbb.2.2
      exact h3.more intE fun b hbb => ⟨hbb.1, by have := hbb.2.1; omega, hout b (by have := hbb.2.1; omega) hbb.2.2⟩
    · have hjl : j < (us ++ [vl]).length := (List.getElem?_eq_some_iff.1 hu).1
      have hje : j = us.length := by simp at hjl; omega
      subst hje
      rw [h.2.1] at hx
      simp at hu hx
      subst hu; subst hx
      have hne : ∀ b, vl.ownBlock = some b → some b ≠ v.ownBlock := fun b hv e => by
        have h1 := hi.2.1 b hv
        have h2 := own_lt h.1 e.symm
        omega
      have h1 : Ints wi (fun b => B ≤ b ∧ b < wi.heap.size ∧ some b ≠ v.ownBlock) vl ((comp E n k).map fun (x : Nat) => (x : Int)) :=
        own_ints (by rw [List.map_map]; exact hi.1) (fun b hv => ⟨by have := hi.2.1 b hv; omega, own_lt hi.1 hv, hne b hv⟩) (by simp)
      have h3 := h1.same intE (w' := w2) fun b hbb => hg.block b hbb.2.1 hbb.2.2
      exact h3.more intE fun b hbb => ⟨hbb.1, by have := hbb.2.1; omega, hout b hbb.2.1 hbb.2.2⟩
theorem seenIn_done {E : EdgeL} {n k : Nat} (hh : isHead E n k = true) : SeenCells n (seenIn E n k n) = SeenCells n (seenAt E n (k + 1)) :=
  seenCells_congr fun x hx => by rw [seen_succ, hh]; simp [seenIn, hx]
theorem headsTo_le (E : EdgeL) (n k : Nat) : (headsTo E n k).length ≤ k := by
  have := List.length_filter_le (isHead E n) (List.range k)
  simpa [headsTo] using this

set_option maxRecDepth 100000 in
set_option maxHeartbeats 400000 in
theorem components_any (g l n : Nat) (E : EdgeL) (nxt rch : Nat → Nat) (w : World) (hG : GAt w (Iv 0 w.heap.size) g l n nxt rch) (hn : n ≤ 64) (hr : RchRel E n rch) (hok : Ok n E) :
    Calls Try.prog 51 #[.pointer (some ⟨g, 0, none⟩)] w fun e w' => ∃ v us, e = .returned v ∧ CompsOut E n w' v us w.heap.size (heads E n) ∧ Below w.heap.size w w' := by
  have hmk := fun W => run_mk (P := Try.prog) (bytes := 1) (z := .bool false) Try.underlying39 (by kernel_rfl) n (by omega) (by omega) W
  rw [made1 _ rfl] at hmk
  have c0 := hG.links
  have c1 := hG.nn
  have hgl : g < w.heap.size := hG.sg.2
  have HG := hid hG; clear hG
  have HR := hid hr; clear hr
  have HO := hid hok; clear hok
  go_enter Try.func51, Try.ntmps51
  go_wp2
  go_loopw [3, 17] (fun v i wr => ∃ (k : Nat) (us : List Value), k ≤ n ∧ i = .int .i64 k ∧ Hid (CompsOut E n wr v us (w.heap.size + 1) (headsTo E n k)) ∧
      Blk wr w.heap.size 4 (SeenCells n (seenAt E n k)) ∧ w.heap.size + 1 ≤ wr.heap.size ∧ Below w.heap.size w wr) (fun _ i _ => n - (intOf i).toNat)
  case atStart =>
    refine ⟨0, [], Nat.zero_le _, rfl, compsOut_nil _ _ _ _, ?_, by simp, (Below.refl _ _).alloc (Nat.le_refl _) _⟩
    rw [seenCells_start]
    exact Blk.new _ _ _
  case round =>
    obtain ⟨k, us, hk, rfl, HC, hb, hsz, hbw⟩ := hrel
    by_cases hlt : k < n
    · have hgk := hbw.cell (p := ⟨g, 1, none⟩) hgl
      rw [c1] at hgk
      have hgk0 := hbw.cell (p := ⟨g, 0, none⟩) hgl
      rw [c0] at hgk0
      have hs := hb.cell k
      rw [seenCells_get _ _ _ hlt, seen_self HO.out] at hs
      cases hh : isHead E n k with
      | false =>
        rw [hh] at hs
        have HH := hid hh; clear hh
        have Hb := hid hb; clear hb
        go_wp2
        go_roundw
        case rel =>
          refine ⟨k + 1, us, hlt, by go_num, ?_, ?_, hsz, hbw⟩
          · rw [headsTo_succ, HH.out]; simpa using HC
          · have e : seenAt E n (k + 1) = seenAt E n k := by funext x; rw [seen_succ, HH.out]; simp
            rw [e]; exact Hb.out
        case measure => simp [intOf]; omega
      | true =>
        rw [hh] at hs
        have HH := hid hh; clear hh
        have Hb := hid hb; clear hb
        go_wp2
        obtain ⟨wo, rfl⟩ : ∃ wo : World, wo = wr := ⟨_, rfl⟩
        go_loopw [6, 7] (fun vl kv wi => ∃ (q : Nat), k ≤ q ∧ q ≤ n ∧ kv = .int .i64 q ∧ Hid (InRel E n k q wo wi vl w.heap.size) ∧
            Blk wi w.heap.size 4 (SeenCells n (seenIn E n k q)) ∧ Below w.heap.size w wi) (fun _ i _ => n - (intOf i).toNat)
        case atStart => exact ⟨k, Nat.le_refl _, hk, rfl, inRel_start HH.out _ _, by rw [seenIn_start HH.out]; exact Hb.out, hbw⟩
        case round =>
          clear hgk hgk0 Hb hs hbw
          obtain ⟨q, hkq, hqn, rfl, HI, hb, hbw⟩ := hrel
          by_cases hlq : q < n
          · have hgk := hbw.cell (p := ⟨g, 1, none⟩) hgl
            rw [c1] at hgk
            have hgk0 := hbw.cell (p := ⟨g, 0, none⟩) hgl
            rw [c0] at hgk0
            have Hb := hid hb; clear hb
            have HGi := hid (HG.out.same (sameOn_below hbw iv_lt))
            by_cases heq : q = k
            · obtain rfl : k = q := heq.symm
              go_upto_region 12 with (fail)
              have hI := HI.out
              have hgs : w.heap.size < wo.heap.size := by omega
              have ho := hI.1
              have hle := compTo_le E n k k
              go_upto_region 13 with ((at_builtin; refine wpList_app1 tInts rfl (.tmp 54) (.tmp 56) rfl _ _ _ rfl ho [.int .i64 (k : Int)] rfl rfl (by simp [Value.oneCell']) (by simp only [maxLen]; omega) (by omega) ?_; intro v2 w2 ho2 hg2 hb2 hs2))
              have hb3 := grown_far Hb.out hg2 (fun b hv => by have := hI.2.1 b hv; omega)
              have hbw2 : Below w.heap.size w w2 := hbw.grown hg2 (by have := hI.2.2.2; omega) (fun b hv => by have := hI.2.1 b hv; omega)
              have cq := hb3.cell k
              rw [seenCells_get _ _ _ hlq] at cq
              have fq := hb3.frozen k
              have HI2 := hid (hI.yes hgs (tog_refl E n k) ho2 hg2 hb2 (.bool true)); clear hI ho ho2
              have hb4 := hb3.set_ k (.bool true)
              rw [seenCells_set _ _ _ _ hlq, ← seenIn_yes (tog_refl E n k)] at hb4
              have hbw3 := hbw2.setCell (p := ⟨w.heap.size, k, none⟩) (Nat.le_refl _) (.bool true)
              have Hb4 := hid hb4; clear hb4 hb3
              go_wp2
              go_roundw
              case rel => exact ⟨k + 1, by omega, by omega, by go_num, HI2.out, Hb4.out, hbw3⟩
              case measure => simp [intOf]; omega
            · have hbe : (((q : Int) == (k : Int)) = false) := by simp; omega
              have HE := hid heq; clear heq
              cases h1 : W E n k q with
              | false =>
                go_upto_region 12 with (go_at_call 37; refine (goes_g HGi.out HR.out _ _ (by omega) (by omega)).mono ?_; rintro e w' ⟨rfl, rfl⟩)
                have ht : tog E n k q = false := by simp [tog, Ne.symm HE.out, h1]
                go_roundw
                case rel => exact ⟨q + 1, by omega, by omega, by go_num, HI.out.no ht, by rw [seenIn_no ht]; exact Hb.out, hbw⟩
                case measure => simp [intOf]; omega
              | true =>
                cases h2 : W E n q k with
                | false =>
                  go_upto_region 12 with (go_at_call 37; refine (goes_g HGi.out HR.out _ _ (by omega) (by omega)).mono ?_; rintro e w' ⟨rfl, rfl⟩)
                  have ht : tog E n k q = false := by simp [tog, Ne.symm HE.out, h2]
                  go_roundw
                  case rel => exact ⟨q + 1, by omega, by omega, by go_num, HI.out.no ht, by rw [seenIn_no ht]; exact Hb.out, hbw⟩
                  case measure => simp [intOf]; omega
                | true =>
                  go_upto_region 12 with (go_at_call 37; refine (goes_g HGi.out HR.out _ _ (by omega) (by omega)).mono ?_; rintro e w' ⟨rfl, rfl⟩)
                  have ht : tog E n k q = true := by simp [tog, h1, h2]
                  have HT := hid ht; clear ht
                  have hI := HI.out
                  have hgs : w.heap.size < wo.heap.size := by omega
                  have ho := hI.1
                  have hle := compTo_le E n k q
                  go_upto_region 13 with ((at_builtin; refine wpList_app1 tInts rfl (.tmp 54) (.tmp 56) rfl _ _ _ rfl ho [.int .i64 (q : Int)] rfl rfl (by simp [Value.oneCell']) (by simp only [maxLen]; omega) (by omega) ?_; intro v2 w2 ho2 hg2 hb2 hs2))
                  have hb3 := grown_far Hb.out hg2 (fun b hv => by have := hI.2.1 b hv; omega)
                  have hbw2 : Below w.heap.size w w2 := hbw.grown hg2 (by have := hI.2.2.2; omega) (fun b hv => by have := hI.2.1 b hv; omega)
                  have cq := hb3.cell q
                  rw [seenCells_get _ _ _ hlq] at cq
                  have fq := hb3.frozen q
                  have HI2 := hid (hI.yes hgs HT.out ho2 hg2 hb2 (.bool true)); clear hI ho ho2
                  have hb4 := hb3.set_ q (.bool true)
                  rw [seenCells_set _ _ _ _ hlq, ← seenIn_yes HT.out] at hb4
                  have hbw3 := hbw2.setCell (p := ⟨w.heap.size, q, none⟩) (Nat.le_refl _) (.bool true)
                  have Hb4 := hid hb4; clear hb4 hb3
                  go_wp2
                  go_roundw
                  case rel => exact ⟨q + 1, by omega, by omega, by go_num, HI2.out, Hb4.out, hbw3⟩
                  case measure => simp [intOf]; omega
          · obtain rfl : q = n := by omega
            have hgk := hbw.cell (p := ⟨g, 1, none⟩) hgl
            rw [c1] at hgk
            have Hb := hid hb; clear hb
            obtain ⟨A, c, rfl, hAc, hcm⟩ := own_form HI.out.1
            have ho := HC.out.inRow HI.out (Nat.lt_succ_self _)
            have hul : us.length ≤ k := by rw [HC.out.2.1]; exact headsTo_le E q k
            go_upto_region 15 with ((at_builtin; refine wpList_app1 tLists rfl (.tmp 61) (.tmp 63) rfl _ _ _ rfl ho [_] rfl rfl (by simp [Value.oneCell']) (by simp only [maxLen]; omega) (by omega) ?_; intro v2 w2 ho2 hg2 hb2 hs2))
            have hI := HI.out
            have hb3 := grown_far Hb.out hg2 (fun b hv => by have := HC.out.2.2.1 b hv; omega)
            rw [seenIn_done HH.out] at hb3
            have Hb3 := hid hb3; clear hb3
            have hbw2 : Below w.heap.size w w2 := hbw.grown hg2 (by have := hI.2.2.2; omega) (fun b hv => by have := HC.out.2.2.1 b hv; omega)
            have HC2 := hid (HC.out.step hI (Nat.lt_succ_self _) hsz HH.out ho2 hg2 hb2)
            clear hI ho ho2
            go_wp2
            go_roundw
            case rel => exact ⟨k + 1, _, hlt, by go_num, HC2, Hb3.out, by have := hg2.size; have := HI.out.2.2.2; omega, hbw2⟩
            case measure => simp [intOf]; omega
    · obtain rfl : k = n := by omega
      have Hb := hid hb; clear hb
      go_wp2
      go_ret
      refine ⟨_, us, rfl, ?_, hbw⟩
      exact ⟨HC.out.1, HC.out.2.1, fun b hv => by have := HC.out.2.2.1 b hv; omega, fun j u x hu hx => (HC.out.2.2.2 j u x hu hx).more intE fun b hbb => ⟨by have := hbb.1; omega, hbb.2⟩⟩
end Go.Proofs.Ythehbamfjglodaa
