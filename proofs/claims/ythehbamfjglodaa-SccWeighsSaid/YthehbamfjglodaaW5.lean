/-
  Walks: the closures of scc.made.
-/
import Derived.Test.YthehbamfjglodaaW4
namespace Go.Proofs.Ythehbamfjglodaa
open Go.RowKit

/-- A component as a slice whose first cell is its head. -/
def HeadAt (w : World) (S : Reg) (u : Value) (h : Nat) : Prop := ∃ ad n c, u = .slice (some ad) n c ∧ 0 < n ∧ n ≤ c ∧ S ad.block ∧ w.cell? ad = some (.int .i64 h)
theorem HeadAt.same {w w' : World} {S : Reg} {u : Value} {h : Nat} (hh : HeadAt w S u h) (hs : SameOn S w w') : HeadAt w' S u h := by
  obtain ⟨ad, n, c, hu, h0, hc, hb, hcell⟩ := hh
  exact ⟨ad, n, c, hu, h0, hc, hb, (hs.cell hb).trans hcell⟩
theorem HeadAt.more {w : World} {S S' : Reg} {u : Value} {h : Nat} (hh : HeadAt w S u h) (hs : ∀ b, S b → S' b) : HeadAt w S' u h := by
  obtain ⟨ad, n, c, hu, h0, hc, hb, hcell⟩ := hh
  exact ⟨ad, n, c, hu, h0, hc, hs _ hb, hcell⟩

theorem goes_q {w : World} {S : Reg} {g l n m : Nat} {E : EdgeL} {nxt rch : Nat → Nat} (hG : GAt w S g l n nxt rch) (hr : RchRel E m rch) (i j : Nat) (hi : i < 64) (hj : j < 64) (k : Nat) :
    Calls Try.prog 37 #[.pointer (some ⟨l, 0, none⟩), .int .i64 i, .int .i64 j] (w.drewN k) fun e w' => e = .returned (.bool (W E m i j)) ∧ w' = w.drewN k :=
  (goes_g (w := w.drewN k) (hG.same (w' := w.drewN k) fun _ _ => rfl) hr i j hi hj).mono fun _ _ ⟨a, b⟩ => ⟨a, b.symm⟩

set_option maxHeartbeats 400000 in
theorem inner54 (u ul : Value) (bl bg g l n m h hl : Nat) (E : EdgeL) (nxt rch : Nat → Nat) (w : World) (hu : HeadAt w (Iv 0 w.heap.size) u h) (hul : HeadAt w (Iv 0 w.heap.size) ul hl)
    (hb : w.cell? ⟨bl, 0, none⟩ = some ul) (hg : w.cell? ⟨bg, 0, none⟩ = some (.pointer (some ⟨g, 0, none⟩))) (hG : GAt w (Iv 0 w.heap.size) g l n nxt rch) (hr : RchRel E m rch) (h1 : h < 64) (h2 : hl < 64) :
    Calls Try.prog 54 #[u, .pointer (some ⟨bl, 0, none⟩), .pointer (some ⟨bg, 0, none⟩)] w fun e w' => e = .returned (.bool (h != hl && W E m h hl)) ∧ Below w.heap.size w w' := by
  obtain ⟨ad, n1, k1, rfl, hn1, hk1, hb1, c1⟩ := hu
  obtain ⟨ad2, n2, k2, rfl, hn2, hk2, hb2, c2⟩ := hul
  have c3 := hG.links
  have HG := hid hG; clear hG
  have HR := hid hr; clear hr
  by_cases he : h = hl
  · subst he
    have hb : (((h : Int) != (h : Int)) = false) := by simp
    go_enter Try.func54, Try.ntmps54
    go_wp2
    go_quiet (fail)
    go_wp2
    go_ret
    exact ⟨ret_bool (by simp), below_drewN (Below.refl _ _) _⟩
  · have hb : (((h : Int) != (hl : Int)) = true) := by simp; omega
    have hb' : (h != hl) = true := by simp [he]
    rw [hb', Bool.true_and]
    clear hb'
    have HE := hid he; clear he
    go_enter Try.func54, Try.ntmps54
    go_wp2
    go_quiet ((go_at_call 37; exact Calls.quiet_of_same (goes_q HG.out HR.out _ _ h1 h2 _)))
    go_wp2
    go_ret
    exact ⟨rfl, below_drewN (Below.refl _ _) _⟩

/-- A list of components whose heads are hs. -/
def HeadsAt (w : World) (S : Reg) (us : List Value) (hs : List Nat) : Prop := us.length = hs.length ∧ ∀ (j : Nat) (u : Value) (h : Nat), us[j]? = some u → hs[j]? = some h → HeadAt w S u h ∧ h < 64
theorem HeadsAt.same {w w' : World} {S : Reg} {us : List Value} {hs : List Nat} (hh : HeadsAt w S us hs) (h : SameOn S w w') : HeadsAt w' S us hs :=
  ⟨hh.1, fun j u x hu hx => ⟨(hh.2 j u x hu hx).1.same h, (hh.2 j u x hu hx).2⟩⟩
theorem HeadsAt.more {w : World} {S S' : Reg} {us : List Value} {hs : List Nat} (hh : HeadsAt w S us hs) (h : ∀ b, S b → S' b) : HeadsAt w S' us hs :=
  ⟨hh.1, fun j u x hu hx => ⟨(hh.2 j u x hu hx).1.more h, (hh.2 j u x hu hx).2⟩⟩
set_option maxHeartbeats 400000 in
theorem free52 (u v : Value) (us : List Value) (hs : List Nat) (bL bG g l n m h : Nat) (E : EdgeL) (nxt rch : Nat → Nat) (w : World) (hu : HeadAt w (Iv 0 w.heap.size) u h) (h64 : h < 64)
    (hv : Sl 1 ValE w (Iv 0 w.heap.size) v us) (hhs : HeadsAt w (Iv 0 w.heap.size) us hs) (hL : w.cell? ⟨bL, 0, none⟩ = some v) (hG : w.cell? ⟨bG, 0, none⟩ = some (.pointer (some ⟨g, 0, none⟩)))
    (hLl : bL < w.heap.size) (hGl : bG < w.heap.size) (hg : GAt w (Iv 0 w.heap.size) g l n nxt rch) (hr : RchRel E m rch) :
    Calls Try.prog 52 #[u, .pointer (some ⟨bL, 0, none⟩), .pointer (some ⟨bG, 0, none⟩)] w fun e w' => e = .returned (.bool (freeAt E m hs h)) ∧ Below w.heap.size w w' := by
  have hp : PredOn 54 (.pointer (some ⟨w.heap.size, 0, none⟩)) (.pointer (some ⟨bG, 0, none⟩)) us (stops E m hs h) (w.alloc (.cells #[u] 25)) := by
    intro j x w1 hx hb
    have hb0 : Below w.heap.size w w1 := ((Below.refl _ _).alloc (Nat.le_refl _) _).trans (hb.mono (by simp))
    have hs0 := sameOn_below hb0 (S := Iv 0 w.heap.size) iv_lt
    have hsz := hb0.size
    have hjl : j < hs.length := by rw [← hhs.1]; exact (List.getElem?_eq_some_iff.1 hx).1
    have hj := hhs.2 j x _ hx (List.getElem?_eq_getElem hjl)
    have e : hs[j]?.getD 0 = hs[j] := by simp [hjl]
    unfold stops
    rw [e]
    exact inner54 x u w.heap.size bG g l n m _ h E nxt rch w1 ((hj.1.same hs0).more (iv_more (Nat.le_refl _) hsz)) ((hu.same hs0).more (iv_more (Nat.le_refl _) hsz))
      ((hb.cell (p := ⟨w.heap.size, 0, none⟩) (by simp)).trans (by simp [World.cell?_alloc_new])) ((hb0.cell (p := ⟨bG, 0, none⟩) hGl).trans hG) ((hg.same hs0).more (iv_more (Nat.le_refl _) hsz)) hr hj.2 h64
  have hv2 : Sl 1 ValE (w.alloc (.cells #[u] 25)) (Iv 0 (w.alloc (.cells #[u] 25)).heap.size) v us :=
    (hv.same valE (sameOn_below ((Below.refl w.heap.size w).alloc (Nat.le_refl _) _) iv_lt)).iv valE (Nat.le_refl _) (by simp)
  have HC := hid (containsFunc53 54 (.inr rfl) v _ _ us _ _ hv2 hp)
  have HHS := hid hhs.1
  obtain ⟨ad, n1, c1, rfl, hn1, hk1, hb1, hcell⟩ := hu
  have HP := hid hp; clear hp
  have HV := hid hv; clear hv
  have HV2 := hid hv2; clear hv2
  have HH := hid hhs; clear hhs
  have HR := hid hr; clear hr
  have HG := hid hg; clear hg
  obtain ⟨A, nv, cv, rfl, hnv, hcv, hmv, rv⟩ := HV.out.open_
  clear hnv
  go_enter Try.func52, Try.ntmps52
  go_wp2_with (go_at_call 53; refine HC.out.mono ?_; rintro e w1 ⟨rfl, hb1⟩)
  go_ret
  exact ⟨ret_bool (by unfold freeAt; rw [HHS.out]), ((Below.refl _ _).alloc (Nat.le_refl _) _).trans (hb1.mono (by simp))⟩
end Go.Proofs.Ythehbamfjglodaa
