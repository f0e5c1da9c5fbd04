/-
  Walks: SccKnown.
-/
import Derived.Test.YthehbamfjglodaaWq
import Derived.Deep.RegionWith
import Derived.Deep.DeepCutAuto
namespace Go.Proofs.Ythehbamfjglodaa
open Go.RowKit

section
variable {N : Int} {v : Value} {E : EdgeL} {w : World}
theorem reach_is {a er : Int} {l : List Int} (n : Nat) (hE : Edges w (Iv 0 w.heap.size) v E) (h1 : reachL N E a = (l, er)) (hn : l.length = n) :
    Calls Try.prog 12 #[.agg #[.int .i64 N, v], .int .i64 a] w fun e w' => ∃ A c, e = .returned (.tuple #[.slice A n c, .int .i64 er]) ∧ Hid (Ints w' (Iv w.heap.size w'.heap.size) (.slice A n c) l) ∧ Below w.heap.size w w' :=
  (reach12 N a v E w hE).mono fun e w' ⟨u, he, hl, hb⟩ => by
    rw [h1] at hl he
    obtain ⟨A, c, rfl, hl⟩ := ints_form n hl hn
    exact ⟨A, c, he, hl, hb⟩
theorem loops_is {l : List Bool} {er : Int} (n : Nat) (hE : Edges w (Iv 0 w.heap.size) v E) (h1 : loopsL N E = l) (h2 : (checkL N E).1 = er) (hn : l.length = n) :
    Calls Try.prog 20 #[.agg #[.int .i64 N, v]] w fun e w' => ∃ A c, e = .returned (.tuple #[.slice A n c, .int .i64 er]) ∧ Hid (Bools w' (Iv w.heap.size w'.heap.size) (.slice A n c) l) ∧ Below w.heap.size w w' :=
  (loops20 N v E w hE).mono fun e w' ⟨u, he, hl, hb⟩ => by
    rw [h1] at hl
    rw [h2] at he
    obtain ⟨A, c, rfl, hl⟩ := bools_form n hl hn
    exact ⟨A, c, he, hl, hb⟩
theorem levels_is {l : List Int} {er : Int} (n : Nat) (hE : Edges w (Iv 0 w.heap.size) v E) (h1 : levelsL N E = l) (h2 : (checkL N E).1 = er) (hn : l.length = n) :
    Calls Try.prog 22 #[.agg #[.int .i64 N, v]] w fun e w' => ∃ A c, e = .returned (.tuple #[.slice A n c, .int .i64 er]) ∧ Hid (Ints w' (Iv w.heap.size w'.heap.size) (.slice A n c) l) ∧ Below w.heap.size w w' :=
  (levels22 N v E w hE).mono fun e w' ⟨u, he, hl, hb⟩ => by
    rw [h1] at hl
    rw [h2] at he
    obtain ⟨A, c, rfl, hl⟩ := ints_form n hl hn
    exact ⟨A, c, he, hl, hb⟩
theorem order_is {l : List Int} {er : Int} (n : Nat) (hE : Edges w (Iv 0 w.heap.size) v E) (h1 : orderS N E = (l, er)) (hn : l.length = n) :
    Calls Try.prog 23 #[.agg #[.int .i64 N, v]] w fun e w' => ∃ A c, e = .returned (.tuple #[.slice A n c, .int .i64 er]) ∧ Hid (Ints w' (Iv w.heap.size w'.heap.size) (.slice A n c) l) ∧ Below w.heap.size w w' :=
  (order23 N v E w hE).mono fun e w' ⟨u, he, hl, hb⟩ => by
    rw [h1] at hl he
    obtain ⟨A, c, rfl, hl⟩ := ints_form n hl hn
    exact ⟨A, c, he, hl, hb⟩
theorem cond_is {M er : Int} {F : EdgeL} (n : Nat) (hE : Edges w (Iv 0 w.heap.size) v E) (h1 : condL N E = (M, F)) (h2 : (checkL N E).1 = er) (hn : F.length = n) :
    Calls Try.prog 25 #[.agg #[.int .i64 N, v]] w fun e w' => ∃ A c, e = .returned (.tuple #[.agg #[.int .i64 M, .slice A n c], .int .i64 er]) ∧ Hid (Edges w' (Iv w.heap.size w'.heap.size) (.slice A n c) F) ∧ Below w.heap.size w w' :=
  (condense25 N v E w hE).mono fun e w' ⟨u, he, hl, hb⟩ => by
    rw [h1] at hl he
    rw [h2] at he
    obtain ⟨A, c, rfl, hl⟩ := edges_form n hl hn
    exact ⟨A, c, he, hl, hb⟩
theorem graph_is {xs : List Int} (n : Nat) (hv : Ints w (Iv 0 w.heap.size) v xs) (hl : xs.length ≤ 40) {F : EdgeL} (h1 : pairsTo xs (xs.length / 2) = F) (hn : F.length = n) :
    Calls Try.prog 24 #[.int .i64 N, v] w fun e w' => ∃ A c, e = .returned (.agg #[.int .i64 N, .slice A n c]) ∧ Hid (Edges w' (Iv w.heap.size w'.heap.size) (.slice A n c) F) ∧ Below w.heap.size w w' :=
  (graph24 N v xs w hv hl).mono fun e w' ⟨u, he, hE, hb⟩ => by
    rw [h1] at hE
    obtain ⟨A, c, rfl, hl⟩ := edges_form n hE hn
    exact ⟨A, c, he, hl, hb⟩
end

set_option maxHeartbeats 400000 in
theorem reaches28 (a : Int) (v : Value) (xs : List Int) (w : World) (hv : Ints w (Iv 0 w.heap.size) v xs) (h : reachL 5 shownE a = (xs, 0)) :
    Calls Try.prog 28 #[.int .i64 a, v] w fun e w' => e = .returned (.bool true) ∧ Below w.heap.size w w' := by
  have HV := hid hv
  have HR := hid h; clear h
  obtain ⟨A, n, c, rfl, hn, hc, hm, hat⟩ := hv.open_; clear hv hat
  have HN := hid hn; clear hn
  go_enter Try.func28, Try.ntmps28
  go_wp2_with fail
  refine (shown21 _).mono ?_; rintro e w1 ⟨A1, c1, rfl, hE, hb1⟩
  have HE := hid hE; clear hE
  go_wp2_with fail
  refine (reach_is n (edges_later HE.out (Below.refl _ _)) HR.out HN.out).mono ?_; rintro e w2 ⟨A2, c2, rfl, HL, hb2⟩
  clear HE
  have h02 := btr hb1 hb2
  go_wp2_with fail
  refine (sameInts_any _ _ xs xs _ (ints_later HL.out (Below.refl _ _)) (ints_later HV.out h02)).mono ?_
  rw [decide_eq_true rfl]
  rintro e w3 ⟨rfl, q, rfl⟩
  go_wp2_with fail
  go_ret
  exact ⟨rfl, bdn h02 q⟩

theorem shown_check1 : (checkL 5 shownE).1 = 0 := by rw [shown_check]
theorem shown_loops : loopsL 5 shownE = [false, true, false, true] := by decide +kernel
theorem shown_levels : levelsL 5 shownE = [2, 1, 1, 0, 0] := by decide +kernel
theorem shown_order : orderS 5 shownE = ([], 16) := by decide +kernel
theorem chain_order : orderS 5 [(0, 1), (1, 2), (2, 3)] = ([0, 1, 2, 3, 4], 0) := by decide +kernel
theorem shown_path11 : pathL 5 shownE 1 1 = ([1, 2, 1], 0) := by decide +kernel
theorem shown_path30 : pathL 5 shownE 3 0 = ([], 3) := by decide +kernel
theorem shown_path05 : pathL 5 shownE 0 5 = ([], 2) := by decide +kernel
theorem shown_cond : condL 5 shownE = (4, [(0, 1), (1, 2)]) := by decide +kernel
theorem shown_heavy0 : heavyL 5 shownE [0, 0, 0, 0, 0] = (0, [0], 0) := by decide +kernel
theorem shown_heavy3 : heavyL 5 shownE [0, 0, 0] = (0, [], 3) := by decide +kernel
theorem check02 : checkL 2 [(0, 2)] = (2, 0) := by decide +kernel
theorem check10 : checkL 2 [(1, 0), (0, 1)] = (8, 1) := by decide +kernel
theorem shown_reach0 : reachL 5 shownE 0 = ([1, 2, 3], 0) := by decide +kernel
theorem shown_reach3 : reachL 5 shownE 3 = ([], 0) := by decide +kernel
theorem shown_reach1 : reachL 5 shownE 1 = ([1, 2, 3], 0) := by decide +kernel

/-- a slice of bools just made -/
theorem bools_new {w : World} {g n : Nat} {cs : Array Value} (xs : List Bool) (hg : g = w.heap.size) (h : cs.toList = xs.map .bool) (hn : n = xs.length) (hm : xs.length ≤ 1000) :
    Bools (w.alloc (.cells cs 4)) (Iv 0 (w.alloc (.cells cs 4)).heap.size) (.slice (some ⟨g, 0, none⟩) n n) xs := by
  subst hg; subst hn
  refine ⟨_, _, rfl, Nat.le_refl _, by omega, fun _ => ⟨_, rfl, ⟨Nat.zero_le _, by simp⟩, fun j x hj => ?_⟩⟩
  rw [Nat.mul_one, BoolE]
  have e : (⟨w.heap.size, 0, none⟩ : Addr).add j = ⟨w.heap.size, j, none⟩ := by unfold Addr.add; split <;> simp_all
  rw [e, World.cell?_alloc_new, ← Array.getElem?_toList, h, List.getElem?_map, hj]
  rfl
theorem nil_ints (w : World) (S : Reg) : Ints w S (.slice none 0 0) [] := Sl.nil_ w S
abbrev zeroW (w : World) (cs : Array Value) : World := w.alloc (.cells cs 3)
section
variable {v0 v1 : World} {B1 : Option Addr} {d1 : Nat} {cs : Array Value} {ws l : List Int} {m er : Int} {k : Nat}
theorem heavyA (hF : Hid (Edges v1 (Iv v0.heap.size v1.heap.size) (.slice B1 5 d1) shownE)) (hcs : cs.toList = ws.map (.int .i64)) (hk : k = ws.length) (hm : ws.length ≤ 1000) (h : heavyL 5 shownE ws = (m, l, er)) (n : Nat) (hn : l.length = n) :
    Calls Try.prog 17 #[.agg #[.int .i64 5, .slice B1 5 d1], .slice (some ⟨v1.heap.size, 0, none⟩) k k] (v1.alloc (.cells cs 3)) fun e w' => ∃ A c, e = .returned (.tuple #[.int .i64 m, .slice A n c, .int .i64 er]) ∧ Hid (Ints w' (Iv (v1.alloc (.cells cs 3)).heap.size w'.heap.size) (.slice A n c) l) ∧ Below (v1.alloc (.cells cs 3)).heap.size (v1.alloc (.cells cs 3)) w' :=
  heavy_is n (edges_later hF.out (bal (Below.refl _ _) _)) (ints_new ws rfl hcs hk hm) h hn
theorem heavyB (hF : Hid (Edges v1 (Iv (v0.alloc (.cells cs 3)).drew.heap.size v1.heap.size) (.slice B1 5 d1) shownE)) (hb : Below (v0.alloc (.cells cs 3)).drew.heap.size (v0.alloc (.cells cs 3)).drew v1) (hcs : cs.toList = ws.map (.int .i64)) (hk : k = ws.length) (hm : ws.length ≤ 1000) (h : heavyL 5 shownE ws = (m, l, er)) (n : Nat) (hn : l.length = n) :
    Calls Try.prog 17 #[.agg #[.int .i64 5, .slice B1 5 d1], .slice (some ⟨v0.heap.size, 0, none⟩) k k] v1 fun e w' => ∃ A c, e = .returned (.tuple #[.int .i64 m, .slice A n c, .int .i64 er]) ∧ Hid (Ints w' (Iv v1.heap.size w'.heap.size) (.slice A n c) l) ∧ Below v1.heap.size v1 w' :=
  heavy_is n (edges_later hF.out (Below.refl _ _)) (ints_later (w := (v0.alloc (.cells cs 3)).drew) (A := 0) ((ints_new ws rfl hcs hk hm).same intE (fun _ _ => rfl)) hb) h hn
theorem heavyA5 (hF : Hid (Edges v1 (Iv v0.heap.size v1.heap.size) (.slice B1 5 d1) shownE)) :
    Calls Try.prog 17 #[.agg #[.int .i64 5, .slice B1 5 d1], .slice (some ⟨v1.heap.size, 0, none⟩) 5 5] (v1.alloc (.cells #[.int .i64 0, .int .i64 0, .int .i64 0, .int .i64 0, .int .i64 0] 3)) fun e w' => ∃ A c, e = .returned (.tuple #[.int .i64 0, .slice A 1 c, .int .i64 0]) ∧ Hid (Ints w' (Iv (v1.alloc (.cells #[.int .i64 0, .int .i64 0, .int .i64 0, .int .i64 0, .int .i64 0] 3)).heap.size w'.heap.size) (.slice A 1 c) [0]) ∧ Below (v1.alloc (.cells #[.int .i64 0, .int .i64 0, .int .i64 0, .int .i64 0, .int .i64 0] 3)).heap.size (v1.alloc (.cells #[.int .i64 0, .int .i64 0, .int .i64 0, .int .i64 0, .int .i64 0] 3)) w' :=
  heavyA (ws := [0, 0, 0, 0, 0]) hF rfl rfl (by decide) shown_heavy0 1 rfl
theorem heavyB5 (hF : Hid (Edges v1 (Iv (v0.alloc (.cells #[.int .i64 0, .int .i64 0, .int .i64 0, .int .i64 0, .int .i64 0] 3)).drew.heap.size v1.heap.size) (.slice B1 5 d1) shownE)) (hb : Below (v0.alloc (.cells #[.int .i64 0, .int .i64 0, .int .i64 0, .int .i64 0, .int .i64 0] 3)).drew.heap.size (v0.alloc (.cells #[.int .i64 0, .int .i64 0, .int .i64 0, .int .i64 0, .int .i64 0] 3)).drew v1) :
    Calls Try.prog 17 #[.agg #[.int .i64 5, .slice B1 5 d1], .slice (some ⟨v0.heap.size, 0, none⟩) 5 5] v1 fun e w' => ∃ A c, e = .returned (.tuple #[.int .i64 0, .slice A 1 c, .int .i64 0]) ∧ Hid (Ints w' (Iv v1.heap.size w'.heap.size) (.slice A 1 c) [0]) ∧ Below v1.heap.size v1 w' :=
  heavyB (ws := [0, 0, 0, 0, 0]) hF hb rfl rfl (by decide) shown_heavy0 1 rfl
theorem heavyA3 (hF : Hid (Edges v1 (Iv v0.heap.size v1.heap.size) (.slice B1 5 d1) shownE)) :
    Calls Try.prog 17 #[.agg #[.int .i64 5, .slice B1 5 d1], .slice (some ⟨v1.heap.size, 0, none⟩) 3 3] (v1.alloc (.cells #[.int .i64 0, .int .i64 0, .int .i64 0] 3)) fun e w' => ∃ A c, e = .returned (.tuple #[.int .i64 0, .slice A 0 c, .int .i64 3]) ∧ Hid (Ints w' (Iv (v1.alloc (.cells #[.int .i64 0, .int .i64 0, .int .i64 0] 3)).heap.size w'.heap.size) (.slice A 0 c) []) ∧ Below (v1.alloc (.cells #[.int .i64 0, .int .i64 0, .int .i64 0] 3)).heap.size (v1.alloc (.cells #[.int .i64 0, .int .i64 0, .int .i64 0] 3)) w' :=
  heavyA (ws := [0, 0, 0]) hF rfl rfl (by decide) shown_heavy3 0 rfl
theorem heavyB3 (hF : Hid (Edges v1 (Iv (v0.alloc (.cells #[.int .i64 0, .int .i64 0, .int .i64 0] 3)).drew.heap.size v1.heap.size) (.slice B1 5 d1) shownE)) (hb : Below (v0.alloc (.cells #[.int .i64 0, .int .i64 0, .int .i64 0] 3)).drew.heap.size (v0.alloc (.cells #[.int .i64 0, .int .i64 0, .int .i64 0] 3)).drew v1) :
    Calls Try.prog 17 #[.agg #[.int .i64 5, .slice B1 5 d1], .slice (some ⟨v0.heap.size, 0, none⟩) 3 3] v1 fun e w' => ∃ A c, e = .returned (.tuple #[.int .i64 0, .slice A 0 c, .int .i64 3]) ∧ Hid (Ints w' (Iv v1.heap.size w'.heap.size) (.slice A 0 c) []) ∧ Below v1.heap.size v1 w' :=
  heavyB (ws := [0, 0, 0]) hF hb rfl rfl (by decide) shown_heavy3 0 rfl
end

theorem graphZ {w0 : World} : Calls Try.prog 24 #[.int .i64 4, .slice (some ⟨w0.heap.size, 0, none⟩) 4 4] (w0.alloc (.cells #[.int .i64 0, .int .i64 1, .int .i64 1, .int .i64 2] 3)).drew fun e w' => ∃ A c, e = .returned (.agg #[.int .i64 4, .slice A 2 c]) ∧
    Hid (Edges w' (Iv (w0.alloc (.cells #[.int .i64 0, .int .i64 1, .int .i64 1, .int .i64 2] 3)).drew.heap.size w'.heap.size) (.slice A 2 c) [(0, 1), (1, 2)]) ∧ Below (w0.alloc (.cells #[.int .i64 0, .int .i64 1, .int .i64 1, .int .i64 2] 3)).drew.heap.size (w0.alloc (.cells #[.int .i64 0, .int .i64 1, .int .i64 1, .int .i64 2] 3)).drew w' :=
  graph_is (w := (w0.alloc (.cells #[.int .i64 0, .int .i64 1, .int .i64 1, .int .i64 2] 3)).drew) 2 ((ints_new (w := w0) [0, 1, 1, 2] rfl rfl rfl (by decide)).same intE (fun _ _ => rfl)) (by decide) rfl rfl
theorem cell_zd {ww v1 : World} {o : Obj} {p : Addr} {u : Value} (hv1 : Below (ww.alloc o).drew.heap.size (ww.alloc o).drew v1) (h : ww.cell? p = some u) : v1.cell? p = some u :=
  (hv1.cell (by have h1 := lt_of_cell h; have h2 : (ww.alloc o).drew.heap.size = ww.heap.size + 1 := by simp [World.drew]
                omega)).trans (cell_al h o)
theorem sameG_true {w : World} {v1 v2 : Value} {E : EdgeL} {N : Int} (h1 : Edges w (Iv 0 w.heap.size) v1 E) (h2 : Edges w (Iv 0 w.heap.size) v2 E) :
    Calls Try.prog 19 #[.agg #[.int .i64 N, v1], .agg #[.int .i64 N, v2]] w fun e w' => e = .returned (.bool true) ∧ Below w.heap.size w w' :=
  (sameGraph19 N N v1 v2 E E w h1 h2).mono fun _ _ ⟨he, hb⟩ => ⟨by rw [he, decide_eq_true ⟨rfl, rfl⟩], hb⟩
theorem sameI_true {w : World} {v1 v2 : Value} {l : List Int} (h1 : Ints w (Iv 0 w.heap.size) v1 l) (h2 : Ints w (Iv 0 w.heap.size) v2 l) :
    Calls Try.prog 16 #[v1, v2] w fun e w' => e = .returned (.bool true) ∧ Below w.heap.size w w' :=
  (sameInts_any v1 v2 l l w h1 h2).mono fun _ _ ⟨he, q, hq⟩ => ⟨by rw [he, decide_eq_true rfl], by rw [hq]; exact bdn (Below.refl _ _) q⟩
theorem sameG16 {w0 w : World} {a b : Nat} {v1 v2 : Value} {E : EdgeL} {N : Int} (h1 : Hid (Edges w0 (Iv a w0.heap.size) v1 E)) (hb : Below w0.heap.size w0 w) (h2 : Hid (Edges w (Iv b w.heap.size) v2 E)) :
    Calls Try.prog 19 #[.agg #[.int .i64 N, v1], .agg #[.int .i64 N, v2]] w fun e w' => e = .returned (.bool true) ∧ Below w.heap.size w w' :=
  sameG_true (edges_later h1.out hb) (edges_later h2.out (Below.refl _ _))
theorem sameI17 {w0 w : World} {a : Nat} {v1 : Value} (h1 : Hid (Ints w0 (Iv a w0.heap.size) v1 [0])) (hb : Below w0.heap.size w0 w) :
    Calls Try.prog 16 #[v1, .slice (some ⟨w.heap.size, 0, none⟩) 1 1] (w.alloc (.cells #[.int .i64 0] 3)) fun e w' => e = .returned (.bool true) ∧ Below (w.alloc (.cells #[.int .i64 0] 3)).heap.size (w.alloc (.cells #[.int .i64 0] 3)) w' :=
  sameI_true (ints_later h1.out (bal hb _)) (ints_new (w := w) (cs := #[.int .i64 0]) [0] rfl rfl rfl (by decide))
end Go.Proofs.Ythehbamfjglodaa
