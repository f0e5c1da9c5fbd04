/-
  Walks: Parts; the graph opened.
-/
import Derived.Test.YthehbamfjglodaaW8
import Derived.Test.YthehbamfjglodaaMath2
namespace Go.Proofs.Ythehbamfjglodaa
open Go.RowKit

/-- The graph behind its pointer, opened. -/
structure GO (E : EdgeL) (n : Nat) (w : World) (S : Reg) (g l bp k : Nat) (nxt rch pf : Nat → Nat) (AP : Option Addr) (cP : Nat) : Prop where
  gat : GAt w S g l n nxt rch
  r0 : RchRel E 0 nxt
  rn : RchRel E n rch
  hk : (order E n).length = k
  kc : k ≤ cP
  cm : cP ≤ 9223372036854775807
  pc : w.cell? ⟨g, 2, none⟩ = some (.slice AP k cP)
  pl : SlAt 1 (SlE 1 IntE) w S AP ((order E n).map (compI E n))
  bc : w.cell? ⟨g, 3, none⟩ = some (.slice (some ⟨bp, 0, none⟩) n n)
  bs : S bp
  bcell : ∀ x, x < n → w.cell? ⟨bp, x, none⟩ = some (.int .i64 (pf x : Nat))
  part : PartOk E n (order E n) pf
section
variable {E : EdgeL} {n : Nat} {w w' : World} {S S' : Reg} {g l bp k : Nat} {nxt rch pf : Nat → Nat} {AP : Option Addr} {cP : Nat}
theorem GRep.open_ (h : GRep E n w S g) : ∃ l bp k nxt rch pf AP cP, GO E n w S g l bp k nxt rch pf AP cP := by
  obtain ⟨l, bp, nxt, rch, pf, vP, h1, h2, h3, h4, ⟨A, c, rfl, hc, hm, hat⟩, h6, h7, h8, h9⟩ := h
  refine ⟨l, bp, _, nxt, rch, pf, A, c, h1, h2, h3, rfl, by simpa using hc, hm, ?_, hat, h6, h7, h8, h9⟩
  rw [h4]; simp
theorem GO.same (h : GO E n w S g l bp k nxt rch pf AP cP) (hs : SameOn S w w') : GO E n w' S g l bp k nxt rch pf AP cP :=
  ⟨h.gat.same hs, h.r0, h.rn, h.hk, h.kc, h.cm, (hs.cell (p := ⟨g, 2, none⟩) h.gat.sg).trans h.pc, h.pl.same (slE intE) hs, (hs.cell (p := ⟨g, 3, none⟩) h.gat.sg).trans h.bc, h.bs, fun x hx => (hs.cell (p := ⟨bp, x, none⟩) h.bs).trans (h.bcell x hx), h.part⟩
theorem GO.more (h : GO E n w S g l bp k nxt rch pf AP cP) (hs : ∀ b, S b → S' b) : GO E n w S' g l bp k nxt rch pf AP cP :=
  ⟨h.gat.more hs, h.r0, h.rn, h.hk, h.kc, h.cm, h.pc, h.pl.more (slE intE) hs, h.bc, hs _ h.bs, h.bcell, h.part⟩
theorem GO.lists (h : GO E n w S g l bp k nxt rch pf AP cP) : IntLists w S (.slice AP k cP) ((order E n).map (compI E n)) :=
  ⟨AP, cP, by simp [h.hk], by simp [h.hk, h.kc], h.cm, h.pl⟩
/-- one component -/
theorem GO.at_ (h : GO E n w S g l bp k nxt rch pf AP cP) {i : Nat} (hi : i < k) : ∃ ad hd A m c, AP = some ad ∧ S ad.block ∧ (order E n)[i]? = some hd ∧ hd < n ∧ isHead E n hd = true ∧
    w.cell? (ad.add i) = some (.slice A m c) ∧ (comp E n hd).length = m ∧ m ≤ c ∧ SlAt 1 IntE w S A (compI E n hd) := by
  obtain ⟨ad, x, hA, hb, hx, u, hu, hs⟩ := h.pl.at_ (by simp [h.hk]) hi
  rw [List.getElem?_map] at hx
  cases ho : (order E n)[i]? with
  | none => rw [ho] at hx; cases hx
  | some hd =>
    rw [ho] at hx
    injection hx with hx
    subst hx
    obtain ⟨A, c, rfl, hc, hm, hat⟩ := hs
    have hmem := (order_heads E n hd (List.mem_of_getElem? ho))
    refine ⟨ad, hd, A, _, c, hA, hb, rfl, hmem.1, hmem.2, ?_, rfl, by simpa [compI_length] using hc, hat⟩
    rw [Nat.mul_one] at hu
    rw [hu, compI_length]
end
theorem boxE {N : Int} {v : Value} {E : EdgeL} {w : World} (hE : Edges w (Iv 0 w.heap.size) v E) :
    Below w.heap.size w (w.alloc (.cells #[.int .i64 N, v] 24)) ∧ Edges (w.alloc (.cells #[.int .i64 N, v] 24)) (Iv 0 (w.alloc (.cells #[.int .i64 N, v] 24)).heap.size) v E := by
  have h1 : Below w.heap.size w (w.alloc (.cells #[.int .i64 N, v] 24)) := (Below.refl _ _).alloc (Nat.le_refl _) _
  exact ⟨h1, (hE.same edgeE (sameOn_below h1 iv_lt)).iv edgeE (Nat.le_refl _) (by simp)⟩
/-- The graph behind a call of 'made' on a boxed argument, and for good. -/
theorem made_go {E : EdgeL} {n g : Nat} {v : Value} {w w1 : World} (hb : Below (w.alloc (.cells #[.int .i64 n, v] 24)).heap.size (w.alloc (.cells #[.int .i64 n, v] 24)) w1)
    (hg : GRep E n w1 (Iv (w.alloc (.cells #[.int .i64 n, v] 24)).heap.size w1.heap.size) g) :
    Below w.heap.size w w1 ∧ ∃ l bp k nxt rch pf AP cP, Hid (GO E n w1 (Iv (w.heap.size + 1) w1.heap.size) g l bp k nxt rch pf AP cP) := by
  refine ⟨((Below.refl _ _).alloc (Nat.le_refl _) _).trans (hb.mono (by simp)), ?_⟩
  obtain ⟨l, bp, k, nxt, rch, pf, AP, cP, h⟩ := hg.open_
  exact ⟨l, bp, k, nxt, rch, pf, AP, cP, h.more fun b hb => ⟨by have := hb.1; simpa using this, hb.2⟩⟩

set_option maxRecDepth 100000 in
theorem parts30 (N : Int) (v : Value) (E : EdgeL) (w : World) (hE : Edges w (Iv 0 w.heap.size) v E) :
    Calls Try.prog 30 #[.agg #[.int .i64 N, v]] w fun e w' => ∃ u, e = .returned (.tuple #[u, .int .i64 (checkL N E).1]) ∧ IntLists w' (Iv w.heap.size w'.heap.size) u (partsL N E) ∧ Below w.heap.size w w' := by
  obtain ⟨h1, hE1⟩ := boxE (N := N) hE
  by_cases hgood : (checkL N E).1 = 0
  · obtain ⟨h0, _, _⟩ := checkL_valid hgood
    obtain ⟨n, rfl⟩ : ∃ n : Nat, N = n := ⟨N.toNat, by omega⟩
    have HC := hid (made36_ok n v E _ hE1 hgood)
    have HP := hid (partsL_ok hgood)
    rw [hgood]
    clear hgood hE1 h1 h0
    obtain ⟨A, m, c, rfl, hm, hmc, hcc, rE⟩ := hE.open_; clear hE hm
    go_enter Try.func30, Try.ntmps30
    go_wp2_with (go_at_call 36; refine HC.out.mono ?_; rintro e w1 ⟨g, rfl, hg, hb1⟩; obtain ⟨hb, l, bp, k, nxt, rch, pf, AP, cP, HG⟩ := made_go hb1 hg; have p2 := HG.out.pc)
    go_ret2
    refine ⟨_, rfl, ?_, hb⟩
    rw [HP.out]
    exact HG.out.lists.iv (slE intE) (by omega) (Nat.le_refl _)
  · have HC := hid (made36_bad N v E _ hE1 hgood)
    have hne : (((checkL N E).1 != 0) = true) := by simpa using hgood
    have HP := hid (partsL_bad hgood)
    obtain ⟨A, m, c, rfl, hm, hmc, hcc, rE⟩ := hE.open_; clear hE hm
    generalize (checkL N E).1 = er at *
    clear hgood hE1
    go_enter Try.func30, Try.ntmps30
    go_wp2_with (go_at_call 36; refine HC.out.mono ?_; rintro e w1 ⟨rfl, hb1⟩)
    go_ret2
    exact ⟨_, rfl, by rw [HP.out]; exact Sl.nil_ _ _, h1.trans (hb1.mono (by simp))⟩
end Go.Proofs.Ythehbamfjglodaa
